/-
  What the evaluator reads and writes: every piece of it hangs on the places it touched alone. Conditions: none.
-/
import Derived.Test.YtpoaiachllclhaaGreatDoorLoc
namespace Go.Ideal
open Go
variable {Γ : Cx}

theorem Loc.readCells (a : Addr) (n : Nat) : Loc (readCells a n) := by
  unfold Go.Ideal.readCells
  repeat' first
    | exact Loc.pure _
    | exact Loc.fail
    | exact Loc.lift _
    | exact Loc.hget _
    | exact Loc.hread _ _ _
    | exact Loc.hwrite _ _ _
    | exact Loc.hset _ _
    | exact Loc.hkill _
    | exact Loc.hnew _ (by intro c h; cases h <;> simp)
    | assumption
    | (refine Loc.bind ?_ (fun _ => ?_))
    | (refine Loc.have (fun _ _ => ?_))
    | (refine Loc.need (fun _ => ?_))
    | (refine Loc.ite (fun _ => ?_) (fun _ => ?_))
    | (rw [force_eq])
    | split

theorem Loc.writeCells (a : Addr) (vs : List Value) : Loc (writeCells a vs) := by
  unfold Go.Ideal.writeCells
  repeat' first
    | exact Loc.pure _
    | exact Loc.fail
    | exact Loc.lift _
    | exact Loc.hget _
    | exact Loc.hread _ _ _
    | exact Loc.hwrite _ _ _
    | exact Loc.hset _ _
    | exact Loc.hkill _
    | exact Loc.hnew _ (by intro c h; cases h <;> simp)
    | exact Loc.readCells _ _
    | assumption
    | (refine Loc.bind ?_ (fun _ => ?_))
    | (refine Loc.have (fun _ _ => ?_))
    | (refine Loc.need (fun _ => ?_))
    | (refine Loc.ite (fun _ => ?_) (fun _ => ?_))
    | (rw [force_eq])
    | split

theorem Loc.newCells (e : TypeId) (c : List Value) (l st : Bool) : Loc (newCells e c l st) := by
  unfold Go.Ideal.newCells
  refine Loc.need (fun h => ?_)
  rw [Bool.and_eq_true] at h
  have hl : c.length ≤ 4090 := Nat.le_of_ble_eq_true h.1
  refine Loc.bind (Loc.hnew _ (fun c' h' => ?_)) (fun _ => Loc.pure _)
  obtain rfl := Option.some.inj h'
  omega

theorem Loc.ptrEq (a b : Addr) : Loc (ptrEq a b) := by
  unfold Go.Ideal.ptrEq
  repeat' first
    | exact Loc.pure _
    | exact Loc.fail
    | exact Loc.lift _
    | exact Loc.hget _
    | exact Loc.hread _ _ _
    | exact Loc.hwrite _ _ _
    | exact Loc.hset _ _
    | exact Loc.hkill _
    | exact Loc.hnew _ (by intro c h; cases h <;> simp)
    | exact Loc.readCells _ _
    | exact Loc.writeCells _ _
    | exact Loc.newCells _ _ _ _
    | assumption
    | (refine Loc.bind ?_ (fun _ => ?_))
    | (refine Loc.have (fun _ _ => ?_))
    | (refine Loc.need (fun _ => ?_))
    | (refine Loc.ite (fun _ => ?_) (fun _ => ?_))
    | (rw [force_eq])
    | split

theorem Loc.eqBool (x y : Value) : Loc (eqBool x y) := by
  unfold Go.Ideal.eqBool
  repeat' first
    | exact Loc.pure _
    | exact Loc.fail
    | exact Loc.lift _
    | exact Loc.hget _
    | exact Loc.hread _ _ _
    | exact Loc.hwrite _ _ _
    | exact Loc.hset _ _
    | exact Loc.hkill _
    | exact Loc.hnew _ (by intro c h; cases h <;> simp)
    | exact Loc.readCells _ _
    | exact Loc.writeCells _ _
    | exact Loc.newCells _ _ _ _
    | exact Loc.ptrEq _ _
    | assumption
    | (refine Loc.bind ?_ (fun _ => ?_))
    | (refine Loc.have (fun _ _ => ?_))
    | (refine Loc.need (fun _ => ?_))
    | (refine Loc.ite (fun _ => ?_) (fun _ => ?_))
    | (rw [force_eq])
    | split

theorem Loc.eqPtr (x y : Value) : Loc (eqPtr x y) := by
  unfold Go.Ideal.eqPtr
  repeat' first
    | exact Loc.pure _
    | exact Loc.fail
    | exact Loc.lift _
    | exact Loc.hget _
    | exact Loc.hread _ _ _
    | exact Loc.hwrite _ _ _
    | exact Loc.hset _ _
    | exact Loc.hkill _
    | exact Loc.hnew _ (by intro c h; cases h <;> simp)
    | exact Loc.readCells _ _
    | exact Loc.writeCells _ _
    | exact Loc.newCells _ _ _ _
    | exact Loc.ptrEq _ _
    | exact Loc.eqBool _ _
    | assumption
    | (refine Loc.bind ?_ (fun _ => ?_))
    | (refine Loc.have (fun _ _ => ?_))
    | (refine Loc.need (fun _ => ?_))
    | (refine Loc.ite (fun _ => ?_) (fun _ => ?_))
    | (rw [force_eq])
    | split

theorem Loc.eqSlice (x y : Value) : Loc (eqSlice x y) := by
  unfold Go.Ideal.eqSlice
  repeat' first
    | exact Loc.pure _
    | exact Loc.fail
    | exact Loc.lift _
    | exact Loc.hget _
    | exact Loc.hread _ _ _
    | exact Loc.hwrite _ _ _
    | exact Loc.hset _ _
    | exact Loc.hkill _
    | exact Loc.hnew _ (by intro c h; cases h <;> simp)
    | exact Loc.readCells _ _
    | exact Loc.writeCells _ _
    | exact Loc.newCells _ _ _ _
    | exact Loc.ptrEq _ _
    | exact Loc.eqBool _ _
    | exact Loc.eqPtr _ _
    | assumption
    | (refine Loc.bind ?_ (fun _ => ?_))
    | (refine Loc.have (fun _ _ => ?_))
    | (refine Loc.need (fun _ => ?_))
    | (refine Loc.ite (fun _ => ?_) (fun _ => ?_))
    | (rw [force_eq])
    | split

theorem Loc.eqMap (x y : Value) : Loc (eqMap x y) := by
  unfold Go.Ideal.eqMap
  repeat' first
    | exact Loc.pure _
    | exact Loc.fail
    | exact Loc.lift _
    | exact Loc.hget _
    | exact Loc.hread _ _ _
    | exact Loc.hwrite _ _ _
    | exact Loc.hset _ _
    | exact Loc.hkill _
    | exact Loc.hnew _ (by intro c h; cases h <;> simp)
    | exact Loc.readCells _ _
    | exact Loc.writeCells _ _
    | exact Loc.newCells _ _ _ _
    | exact Loc.ptrEq _ _
    | exact Loc.eqBool _ _
    | exact Loc.eqPtr _ _
    | exact Loc.eqSlice _ _
    | assumption
    | (refine Loc.bind ?_ (fun _ => ?_))
    | (refine Loc.have (fun _ _ => ?_))
    | (refine Loc.need (fun _ => ?_))
    | (refine Loc.ite (fun _ => ?_) (fun _ => ?_))
    | (rw [force_eq])
    | split

theorem Loc.eqFunc (x y : Value) : Loc (eqFunc x y) := by
  unfold Go.Ideal.eqFunc
  repeat' first
    | exact Loc.pure _
    | exact Loc.fail
    | exact Loc.lift _
    | exact Loc.hget _
    | exact Loc.hread _ _ _
    | exact Loc.hwrite _ _ _
    | exact Loc.hset _ _
    | exact Loc.hkill _
    | exact Loc.hnew _ (by intro c h; cases h <;> simp)
    | exact Loc.readCells _ _
    | exact Loc.writeCells _ _
    | exact Loc.newCells _ _ _ _
    | exact Loc.ptrEq _ _
    | exact Loc.eqBool _ _
    | exact Loc.eqPtr _ _
    | exact Loc.eqSlice _ _
    | exact Loc.eqMap _ _
    | assumption
    | (refine Loc.bind ?_ (fun _ => ?_))
    | (refine Loc.have (fun _ _ => ?_))
    | (refine Loc.need (fun _ => ?_))
    | (refine Loc.ite (fun _ => ?_) (fun _ => ?_))
    | (rw [force_eq])
    | split

theorem Loc.eqOp (u : TypeDesc) (x y : Value) : Loc (eqOp Γ u x y) := by
  unfold Go.Ideal.eqOp
  repeat' first
    | exact Loc.pure _
    | exact Loc.fail
    | exact Loc.lift _
    | exact Loc.hget _
    | exact Loc.hread _ _ _
    | exact Loc.hwrite _ _ _
    | exact Loc.hset _ _
    | exact Loc.hkill _
    | exact Loc.hnew _ (by intro c h; cases h <;> simp)
    | exact Loc.readCells _ _
    | exact Loc.writeCells _ _
    | exact Loc.newCells _ _ _ _
    | exact Loc.ptrEq _ _
    | exact Loc.eqBool _ _
    | exact Loc.eqPtr _ _
    | exact Loc.eqSlice _ _
    | exact Loc.eqMap _ _
    | exact Loc.eqFunc _ _
    | assumption
    | (refine Loc.bind ?_ (fun _ => ?_))
    | (refine Loc.have (fun _ _ => ?_))
    | (refine Loc.need (fun _ => ?_))
    | (refine Loc.ite (fun _ => ?_) (fun _ => ?_))
    | (rw [force_eq])
    | split

theorem Loc.eqAny (t : TypeId) (x y : Value) : Loc (eqAny Γ t x y) := by
  unfold Go.Ideal.eqAny
  repeat' first
    | exact Loc.pure _
    | exact Loc.fail
    | exact Loc.lift _
    | exact Loc.hget _
    | exact Loc.hread _ _ _
    | exact Loc.hwrite _ _ _
    | exact Loc.hset _ _
    | exact Loc.hkill _
    | exact Loc.hnew _ (by intro c h; cases h <;> simp)
    | exact Loc.readCells _ _
    | exact Loc.writeCells _ _
    | exact Loc.newCells _ _ _ _
    | exact Loc.ptrEq _ _
    | exact Loc.eqBool _ _
    | exact Loc.eqPtr _ _
    | exact Loc.eqSlice _ _
    | exact Loc.eqMap _ _
    | exact Loc.eqFunc _ _
    | exact Loc.eqOp _ _ _
    | assumption
    | (refine Loc.bind ?_ (fun _ => ?_))
    | (refine Loc.have (fun _ _ => ?_))
    | (refine Loc.need (fun _ => ?_))
    | (refine Loc.ite (fun _ => ?_) (fun _ => ?_))
    | (rw [force_eq])
    | split

theorem Loc.addSym (op : BinOp) (k : IntKind) (a : Int) (lo hi : Nat) : Loc (addSym op k a lo hi) := by
  unfold Go.Ideal.addSym
  repeat' first
    | exact Loc.pure _
    | exact Loc.fail
    | exact Loc.lift _
    | exact Loc.hget _
    | exact Loc.hread _ _ _
    | exact Loc.hwrite _ _ _
    | exact Loc.hset _ _
    | exact Loc.hkill _
    | exact Loc.hnew _ (by intro c h; cases h <;> simp)
    | exact Loc.readCells _ _
    | exact Loc.writeCells _ _
    | exact Loc.newCells _ _ _ _
    | exact Loc.ptrEq _ _
    | exact Loc.eqBool _ _
    | exact Loc.eqPtr _ _
    | exact Loc.eqSlice _ _
    | exact Loc.eqMap _ _
    | exact Loc.eqFunc _ _
    | exact Loc.eqOp _ _ _
    | exact Loc.eqAny _ _ _
    | assumption
    | (refine Loc.bind ?_ (fun _ => ?_))
    | (refine Loc.have (fun _ _ => ?_))
    | (refine Loc.need (fun _ => ?_))
    | (refine Loc.ite (fun _ => ?_) (fun _ => ?_))
    | (rw [force_eq])
    | split

theorem Loc.binInt (op : BinOp) (k : IntKind) (a : Int) (y : Value) : Loc (binInt op k a y) := by
  unfold Go.Ideal.binInt
  repeat' first
    | exact Loc.pure _
    | exact Loc.fail
    | exact Loc.lift _
    | exact Loc.hget _
    | exact Loc.hread _ _ _
    | exact Loc.hwrite _ _ _
    | exact Loc.hset _ _
    | exact Loc.hkill _
    | exact Loc.hnew _ (by intro c h; cases h <;> simp)
    | exact Loc.readCells _ _
    | exact Loc.writeCells _ _
    | exact Loc.newCells _ _ _ _
    | exact Loc.ptrEq _ _
    | exact Loc.eqBool _ _
    | exact Loc.eqPtr _ _
    | exact Loc.eqSlice _ _
    | exact Loc.eqMap _ _
    | exact Loc.eqFunc _ _
    | exact Loc.eqOp _ _ _
    | exact Loc.eqAny _ _ _
    | exact Loc.addSym _ _ _ _ _
    | assumption
    | (refine Loc.bind ?_ (fun _ => ?_))
    | (refine Loc.have (fun _ _ => ?_))
    | (refine Loc.need (fun _ => ?_))
    | (refine Loc.ite (fun _ => ?_) (fun _ => ?_))
    | (rw [force_eq])
    | split

theorem Loc.binStr (op : BinOp) (a : ByteArray) (y : Value) : Loc (binStr op a y) := by
  unfold Go.Ideal.binStr
  repeat' first
    | exact Loc.pure _
    | exact Loc.fail
    | exact Loc.lift _
    | exact Loc.hget _
    | exact Loc.hread _ _ _
    | exact Loc.hwrite _ _ _
    | exact Loc.hset _ _
    | exact Loc.hkill _
    | exact Loc.hnew _ (by intro c h; cases h <;> simp)
    | exact Loc.readCells _ _
    | exact Loc.writeCells _ _
    | exact Loc.newCells _ _ _ _
    | exact Loc.ptrEq _ _
    | exact Loc.eqBool _ _
    | exact Loc.eqPtr _ _
    | exact Loc.eqSlice _ _
    | exact Loc.eqMap _ _
    | exact Loc.eqFunc _ _
    | exact Loc.eqOp _ _ _
    | exact Loc.eqAny _ _ _
    | exact Loc.addSym _ _ _ _ _
    | exact Loc.binInt _ _ _ _
    | assumption
    | (refine Loc.bind ?_ (fun _ => ?_))
    | (refine Loc.have (fun _ _ => ?_))
    | (refine Loc.need (fun _ => ?_))
    | (refine Loc.ite (fun _ => ?_) (fun _ => ?_))
    | (rw [force_eq])
    | split

theorem Loc.binOther (op : BinOp) (t : TypeId) (x y : Value) : Loc (binOther Γ op t x y) := by
  unfold Go.Ideal.binOther
  repeat' first
    | exact Loc.pure _
    | exact Loc.fail
    | exact Loc.lift _
    | exact Loc.hget _
    | exact Loc.hread _ _ _
    | exact Loc.hwrite _ _ _
    | exact Loc.hset _ _
    | exact Loc.hkill _
    | exact Loc.hnew _ (by intro c h; cases h <;> simp)
    | exact Loc.readCells _ _
    | exact Loc.writeCells _ _
    | exact Loc.newCells _ _ _ _
    | exact Loc.ptrEq _ _
    | exact Loc.eqBool _ _
    | exact Loc.eqPtr _ _
    | exact Loc.eqSlice _ _
    | exact Loc.eqMap _ _
    | exact Loc.eqFunc _ _
    | exact Loc.eqOp _ _ _
    | exact Loc.eqAny _ _ _
    | exact Loc.addSym _ _ _ _ _
    | exact Loc.binInt _ _ _ _
    | exact Loc.binStr _ _ _
    | assumption
    | (refine Loc.bind ?_ (fun _ => ?_))
    | (refine Loc.have (fun _ _ => ?_))
    | (refine Loc.need (fun _ => ?_))
    | (refine Loc.ite (fun _ => ?_) (fun _ => ?_))
    | (rw [force_eq])
    | split

theorem Loc.binSym (op : BinOp) (lo hi : Nat) (y : Value) : Loc (binSym op lo hi y) := by
  unfold Go.Ideal.binSym
  repeat' first
    | exact Loc.pure _
    | exact Loc.fail
    | exact Loc.lift _
    | exact Loc.hget _
    | exact Loc.hread _ _ _
    | exact Loc.hwrite _ _ _
    | exact Loc.hset _ _
    | exact Loc.hkill _
    | exact Loc.hnew _ (by intro c h; cases h <;> simp)
    | exact Loc.readCells _ _
    | exact Loc.writeCells _ _
    | exact Loc.newCells _ _ _ _
    | exact Loc.ptrEq _ _
    | exact Loc.eqBool _ _
    | exact Loc.eqPtr _ _
    | exact Loc.eqSlice _ _
    | exact Loc.eqMap _ _
    | exact Loc.eqFunc _ _
    | exact Loc.eqOp _ _ _
    | exact Loc.eqAny _ _ _
    | exact Loc.addSym _ _ _ _ _
    | exact Loc.binInt _ _ _ _
    | exact Loc.binStr _ _ _
    | exact Loc.binOther _ _ _ _
    | assumption
    | (refine Loc.bind ?_ (fun _ => ?_))
    | (refine Loc.have (fun _ _ => ?_))
    | (refine Loc.need (fun _ => ?_))
    | (refine Loc.ite (fun _ => ?_) (fun _ => ?_))
    | (rw [force_eq])
    | split

theorem Loc.binSym8 (op : BinOp) (hi : Nat) (y : Value) : Loc (binSym8 op hi y) := by
  unfold Go.Ideal.binSym8
  repeat' first
    | exact Loc.pure _
    | exact Loc.fail
    | exact Loc.lift _
    | exact Loc.hget _
    | exact Loc.hread _ _ _
    | exact Loc.hwrite _ _ _
    | exact Loc.hset _ _
    | exact Loc.hkill _
    | exact Loc.hnew _ (by intro c h; cases h <;> simp)
    | exact Loc.readCells _ _
    | exact Loc.writeCells _ _
    | exact Loc.newCells _ _ _ _
    | exact Loc.ptrEq _ _
    | exact Loc.eqBool _ _
    | exact Loc.eqPtr _ _
    | exact Loc.eqSlice _ _
    | exact Loc.eqMap _ _
    | exact Loc.eqFunc _ _
    | exact Loc.eqOp _ _ _
    | exact Loc.eqAny _ _ _
    | exact Loc.addSym _ _ _ _ _
    | exact Loc.binInt _ _ _ _
    | exact Loc.binStr _ _ _
    | exact Loc.binOther _ _ _ _
    | exact Loc.binSym _ _ _ _
    | assumption
    | (refine Loc.bind ?_ (fun _ => ?_))
    | (refine Loc.have (fun _ _ => ?_))
    | (refine Loc.need (fun _ => ?_))
    | (refine Loc.ite (fun _ => ?_) (fun _ => ?_))
    | (rw [force_eq])
    | split

theorem Loc.binV (x : Value) (op : BinOp) (t : TypeId) (y : Value) : Loc (binV x Γ op t y) := by
  unfold Go.Ideal.binV
  repeat' first
    | exact Loc.pure _
    | exact Loc.fail
    | exact Loc.lift _
    | exact Loc.hget _
    | exact Loc.hread _ _ _
    | exact Loc.hwrite _ _ _
    | exact Loc.hset _ _
    | exact Loc.hkill _
    | exact Loc.hnew _ (by intro c h; cases h <;> simp)
    | exact Loc.readCells _ _
    | exact Loc.writeCells _ _
    | exact Loc.newCells _ _ _ _
    | exact Loc.ptrEq _ _
    | exact Loc.eqBool _ _
    | exact Loc.eqPtr _ _
    | exact Loc.eqSlice _ _
    | exact Loc.eqMap _ _
    | exact Loc.eqFunc _ _
    | exact Loc.eqOp _ _ _
    | exact Loc.eqAny _ _ _
    | exact Loc.addSym _ _ _ _ _
    | exact Loc.binInt _ _ _ _
    | exact Loc.binStr _ _ _
    | exact Loc.binOther _ _ _ _
    | exact Loc.binSym _ _ _ _
    | exact Loc.binSym8 _ _ _
    | assumption
    | (refine Loc.bind ?_ (fun _ => ?_))
    | (refine Loc.have (fun _ _ => ?_))
    | (refine Loc.need (fun _ => ?_))
    | (refine Loc.ite (fun _ => ?_) (fun _ => ?_))
    | (rw [force_eq])
    | split

theorem Loc.loadV (t : TypeId) (a : Addr) : Loc (loadV Γ t a) := by
  unfold Go.Ideal.loadV
  repeat' first
    | exact Loc.pure _
    | exact Loc.fail
    | exact Loc.lift _
    | exact Loc.hget _
    | exact Loc.hread _ _ _
    | exact Loc.hwrite _ _ _
    | exact Loc.hset _ _
    | exact Loc.hkill _
    | exact Loc.hnew _ (by intro c h; cases h <;> simp)
    | exact Loc.readCells _ _
    | exact Loc.writeCells _ _
    | exact Loc.newCells _ _ _ _
    | exact Loc.ptrEq _ _
    | exact Loc.eqBool _ _
    | exact Loc.eqPtr _ _
    | exact Loc.eqSlice _ _
    | exact Loc.eqMap _ _
    | exact Loc.eqFunc _ _
    | exact Loc.eqOp _ _ _
    | exact Loc.eqAny _ _ _
    | exact Loc.addSym _ _ _ _ _
    | exact Loc.binInt _ _ _ _
    | exact Loc.binStr _ _ _
    | exact Loc.binOther _ _ _ _
    | exact Loc.binSym _ _ _ _
    | exact Loc.binSym8 _ _ _
    | exact Loc.binV _ _ _ _
    | assumption
    | (refine Loc.bind ?_ (fun _ => ?_))
    | (refine Loc.have (fun _ _ => ?_))
    | (refine Loc.need (fun _ => ?_))
    | (refine Loc.ite (fun _ => ?_) (fun _ => ?_))
    | (rw [force_eq])
    | split

theorem Loc.storeV (t : TypeId) (a : Addr) (v : Value) : Loc (storeV Γ t a v) := by
  unfold Go.Ideal.storeV
  repeat' first
    | exact Loc.pure _
    | exact Loc.fail
    | exact Loc.lift _
    | exact Loc.hget _
    | exact Loc.hread _ _ _
    | exact Loc.hwrite _ _ _
    | exact Loc.hset _ _
    | exact Loc.hkill _
    | exact Loc.hnew _ (by intro c h; cases h <;> simp)
    | exact Loc.readCells _ _
    | exact Loc.writeCells _ _
    | exact Loc.newCells _ _ _ _
    | exact Loc.ptrEq _ _
    | exact Loc.eqBool _ _
    | exact Loc.eqPtr _ _
    | exact Loc.eqSlice _ _
    | exact Loc.eqMap _ _
    | exact Loc.eqFunc _ _
    | exact Loc.eqOp _ _ _
    | exact Loc.eqAny _ _ _
    | exact Loc.addSym _ _ _ _ _
    | exact Loc.binInt _ _ _ _
    | exact Loc.binStr _ _ _
    | exact Loc.binOther _ _ _ _
    | exact Loc.binSym _ _ _ _
    | exact Loc.binSym8 _ _ _
    | exact Loc.binV _ _ _ _
    | exact Loc.loadV _ _
    | assumption
    | (refine Loc.bind ?_ (fun _ => ?_))
    | (refine Loc.have (fun _ _ => ?_))
    | (refine Loc.need (fun _ => ?_))
    | (refine Loc.ite (fun _ => ?_) (fun _ => ?_))
    | (rw [force_eq])
    | split

theorem Loc.tight (a : Addr) (c : Nat) (e : TypeId) (n : Nat) : Loc (tight a c e n) := by
  unfold Go.Ideal.tight
  repeat' first
    | exact Loc.pure _
    | exact Loc.fail
    | exact Loc.lift _
    | exact Loc.hget _
    | exact Loc.hread _ _ _
    | exact Loc.hwrite _ _ _
    | exact Loc.hset _ _
    | exact Loc.hkill _
    | exact Loc.hnew _ (by intro c h; cases h <;> simp)
    | exact Loc.readCells _ _
    | exact Loc.writeCells _ _
    | exact Loc.newCells _ _ _ _
    | exact Loc.ptrEq _ _
    | exact Loc.eqBool _ _
    | exact Loc.eqPtr _ _
    | exact Loc.eqSlice _ _
    | exact Loc.eqMap _ _
    | exact Loc.eqFunc _ _
    | exact Loc.eqOp _ _ _
    | exact Loc.eqAny _ _ _
    | exact Loc.addSym _ _ _ _ _
    | exact Loc.binInt _ _ _ _
    | exact Loc.binStr _ _ _
    | exact Loc.binOther _ _ _ _
    | exact Loc.binSym _ _ _ _
    | exact Loc.binSym8 _ _ _
    | exact Loc.binV _ _ _ _
    | exact Loc.loadV _ _
    | exact Loc.storeV _ _ _
    | assumption
    | (refine Loc.bind ?_ (fun _ => ?_))
    | (refine Loc.have (fun _ _ => ?_))
    | (refine Loc.need (fun _ => ?_))
    | (refine Loc.ite (fun _ => ?_) (fun _ => ?_))
    | (rw [force_eq])
    | split

theorem Loc.sliceStr (s : ByteArray) (a b c : Option Value) : Loc (sliceStr s a b c) := by
  unfold Go.Ideal.sliceStr
  repeat' first
    | exact Loc.pure _
    | exact Loc.fail
    | exact Loc.lift _
    | exact Loc.hget _
    | exact Loc.hread _ _ _
    | exact Loc.hwrite _ _ _
    | exact Loc.hset _ _
    | exact Loc.hkill _
    | exact Loc.hnew _ (by intro c h; cases h <;> simp)
    | exact Loc.readCells _ _
    | exact Loc.writeCells _ _
    | exact Loc.newCells _ _ _ _
    | exact Loc.ptrEq _ _
    | exact Loc.eqBool _ _
    | exact Loc.eqPtr _ _
    | exact Loc.eqSlice _ _
    | exact Loc.eqMap _ _
    | exact Loc.eqFunc _ _
    | exact Loc.eqOp _ _ _
    | exact Loc.eqAny _ _ _
    | exact Loc.addSym _ _ _ _ _
    | exact Loc.binInt _ _ _ _
    | exact Loc.binStr _ _ _
    | exact Loc.binOther _ _ _ _
    | exact Loc.binSym _ _ _ _
    | exact Loc.binSym8 _ _ _
    | exact Loc.binV _ _ _ _
    | exact Loc.loadV _ _
    | exact Loc.storeV _ _ _
    | exact Loc.tight _ _ _ _
    | assumption
    | (refine Loc.bind ?_ (fun _ => ?_))
    | (refine Loc.have (fun _ _ => ?_))
    | (refine Loc.need (fun _ => ?_))
    | (refine Loc.ite (fun _ => ?_) (fun _ => ?_))
    | (rw [force_eq])
    | split

theorem Loc.sliceArr (x : Addr) (n : Nat) (e : TypeId) (a b c : Option Value) : Loc (sliceArr Γ x n e a b c) := by
  unfold Go.Ideal.sliceArr
  repeat' first
    | exact Loc.pure _
    | exact Loc.fail
    | exact Loc.lift _
    | exact Loc.hget _
    | exact Loc.hread _ _ _
    | exact Loc.hwrite _ _ _
    | exact Loc.hset _ _
    | exact Loc.hkill _
    | exact Loc.hnew _ (by intro c h; cases h <;> simp)
    | exact Loc.readCells _ _
    | exact Loc.writeCells _ _
    | exact Loc.newCells _ _ _ _
    | exact Loc.ptrEq _ _
    | exact Loc.eqBool _ _
    | exact Loc.eqPtr _ _
    | exact Loc.eqSlice _ _
    | exact Loc.eqMap _ _
    | exact Loc.eqFunc _ _
    | exact Loc.eqOp _ _ _
    | exact Loc.eqAny _ _ _
    | exact Loc.addSym _ _ _ _ _
    | exact Loc.binInt _ _ _ _
    | exact Loc.binStr _ _ _
    | exact Loc.binOther _ _ _ _
    | exact Loc.binSym _ _ _ _
    | exact Loc.binSym8 _ _ _
    | exact Loc.binV _ _ _ _
    | exact Loc.loadV _ _
    | exact Loc.storeV _ _ _
    | exact Loc.tight _ _ _ _
    | exact Loc.sliceStr _ _ _ _
    | assumption
    | (refine Loc.bind ?_ (fun _ => ?_))
    | (refine Loc.have (fun _ _ => ?_))
    | (refine Loc.need (fun _ => ?_))
    | (refine Loc.ite (fun _ => ?_) (fun _ => ?_))
    | (rw [force_eq])
    | split

theorem Loc.sliceSl (x : Addr) (n m : Nat) (e : TypeId) (a b c : Option Value) : Loc (sliceSl Γ x n m e a b c) := by
  unfold Go.Ideal.sliceSl
  repeat' first
    | exact Loc.pure _
    | exact Loc.fail
    | exact Loc.lift _
    | exact Loc.hget _
    | exact Loc.hread _ _ _
    | exact Loc.hwrite _ _ _
    | exact Loc.hset _ _
    | exact Loc.hkill _
    | exact Loc.hnew _ (by intro c h; cases h <;> simp)
    | exact Loc.readCells _ _
    | exact Loc.writeCells _ _
    | exact Loc.newCells _ _ _ _
    | exact Loc.ptrEq _ _
    | exact Loc.eqBool _ _
    | exact Loc.eqPtr _ _
    | exact Loc.eqSlice _ _
    | exact Loc.eqMap _ _
    | exact Loc.eqFunc _ _
    | exact Loc.eqOp _ _ _
    | exact Loc.eqAny _ _ _
    | exact Loc.addSym _ _ _ _ _
    | exact Loc.binInt _ _ _ _
    | exact Loc.binStr _ _ _
    | exact Loc.binOther _ _ _ _
    | exact Loc.binSym _ _ _ _
    | exact Loc.binSym8 _ _ _
    | exact Loc.binV _ _ _ _
    | exact Loc.loadV _ _
    | exact Loc.storeV _ _ _
    | exact Loc.tight _ _ _ _
    | exact Loc.sliceStr _ _ _ _
    | exact Loc.sliceArr _ _ _ _ _ _
    | assumption
    | (refine Loc.bind ?_ (fun _ => ?_))
    | (refine Loc.have (fun _ _ => ?_))
    | (refine Loc.need (fun _ => ?_))
    | (refine Loc.ite (fun _ => ?_) (fun _ => ?_))
    | (rw [force_eq])
    | split

theorem Loc.sliceV (t : TypeId) (x : Value) (a b c : Option Value) : Loc (sliceV Γ t x a b c) := by
  unfold Go.Ideal.sliceV
  repeat' first
    | exact Loc.pure _
    | exact Loc.fail
    | exact Loc.lift _
    | exact Loc.hget _
    | exact Loc.hread _ _ _
    | exact Loc.hwrite _ _ _
    | exact Loc.hset _ _
    | exact Loc.hkill _
    | exact Loc.hnew _ (by intro c h; cases h <;> simp)
    | exact Loc.readCells _ _
    | exact Loc.writeCells _ _
    | exact Loc.newCells _ _ _ _
    | exact Loc.ptrEq _ _
    | exact Loc.eqBool _ _
    | exact Loc.eqPtr _ _
    | exact Loc.eqSlice _ _
    | exact Loc.eqMap _ _
    | exact Loc.eqFunc _ _
    | exact Loc.eqOp _ _ _
    | exact Loc.eqAny _ _ _
    | exact Loc.addSym _ _ _ _ _
    | exact Loc.binInt _ _ _ _
    | exact Loc.binStr _ _ _
    | exact Loc.binOther _ _ _ _
    | exact Loc.binSym _ _ _ _
    | exact Loc.binSym8 _ _ _
    | exact Loc.binV _ _ _ _
    | exact Loc.loadV _ _
    | exact Loc.storeV _ _ _
    | exact Loc.tight _ _ _ _
    | exact Loc.sliceStr _ _ _ _
    | exact Loc.sliceArr _ _ _ _ _ _
    | exact Loc.sliceSl _ _ _ _ _ _ _
    | assumption
    | (refine Loc.bind ?_ (fun _ => ?_))
    | (refine Loc.have (fun _ _ => ?_))
    | (refine Loc.need (fun _ => ?_))
    | (refine Loc.ite (fun _ => ?_) (fun _ => ?_))
    | (rw [force_eq])
    | split

theorem Loc.mapOf (x : Value) : Loc (mapOf x) := by
  unfold Go.Ideal.mapOf
  repeat' first
    | exact Loc.pure _
    | exact Loc.fail
    | exact Loc.lift _
    | exact Loc.hget _
    | exact Loc.hread _ _ _
    | exact Loc.hwrite _ _ _
    | exact Loc.hset _ _
    | exact Loc.hkill _
    | exact Loc.hnew _ (by intro c h; cases h <;> simp)
    | exact Loc.readCells _ _
    | exact Loc.writeCells _ _
    | exact Loc.newCells _ _ _ _
    | exact Loc.ptrEq _ _
    | exact Loc.eqBool _ _
    | exact Loc.eqPtr _ _
    | exact Loc.eqSlice _ _
    | exact Loc.eqMap _ _
    | exact Loc.eqFunc _ _
    | exact Loc.eqOp _ _ _
    | exact Loc.eqAny _ _ _
    | exact Loc.addSym _ _ _ _ _
    | exact Loc.binInt _ _ _ _
    | exact Loc.binStr _ _ _
    | exact Loc.binOther _ _ _ _
    | exact Loc.binSym _ _ _ _
    | exact Loc.binSym8 _ _ _
    | exact Loc.binV _ _ _ _
    | exact Loc.loadV _ _
    | exact Loc.storeV _ _ _
    | exact Loc.tight _ _ _ _
    | exact Loc.sliceStr _ _ _ _
    | exact Loc.sliceArr _ _ _ _ _ _
    | exact Loc.sliceSl _ _ _ _ _ _ _
    | exact Loc.sliceV _ _ _ _ _
    | assumption
    | (refine Loc.bind ?_ (fun _ => ?_))
    | (refine Loc.have (fun _ _ => ?_))
    | (refine Loc.need (fun _ => ?_))
    | (refine Loc.ite (fun _ => ?_) (fun _ => ?_))
    | (rw [force_eq])
    | split

theorem Loc.lookupV (t : TypeId) (x k : Value) (b : Bool) : Loc (lookupV Γ t x k b) := by
  unfold Go.Ideal.lookupV
  repeat' first
    | exact Loc.pure _
    | exact Loc.fail
    | exact Loc.lift _
    | exact Loc.hget _
    | exact Loc.hread _ _ _
    | exact Loc.hwrite _ _ _
    | exact Loc.hset _ _
    | exact Loc.hkill _
    | exact Loc.hnew _ (by intro c h; cases h <;> simp)
    | exact Loc.readCells _ _
    | exact Loc.writeCells _ _
    | exact Loc.newCells _ _ _ _
    | exact Loc.ptrEq _ _
    | exact Loc.eqBool _ _
    | exact Loc.eqPtr _ _
    | exact Loc.eqSlice _ _
    | exact Loc.eqMap _ _
    | exact Loc.eqFunc _ _
    | exact Loc.eqOp _ _ _
    | exact Loc.eqAny _ _ _
    | exact Loc.addSym _ _ _ _ _
    | exact Loc.binInt _ _ _ _
    | exact Loc.binStr _ _ _
    | exact Loc.binOther _ _ _ _
    | exact Loc.binSym _ _ _ _
    | exact Loc.binSym8 _ _ _
    | exact Loc.binV _ _ _ _
    | exact Loc.loadV _ _
    | exact Loc.storeV _ _ _
    | exact Loc.tight _ _ _ _
    | exact Loc.sliceStr _ _ _ _
    | exact Loc.sliceArr _ _ _ _ _ _
    | exact Loc.sliceSl _ _ _ _ _ _ _
    | exact Loc.sliceV _ _ _ _ _
    | exact Loc.mapOf _
    | assumption
    | (refine Loc.bind ?_ (fun _ => ?_))
    | (refine Loc.have (fun _ _ => ?_))
    | (refine Loc.need (fun _ => ?_))
    | (refine Loc.ite (fun _ => ?_) (fun _ => ?_))
    | (rw [force_eq])
    | split

theorem Loc.updateV (t : TypeId) (x k v : Value) : Loc (updateV Γ t x k v) := by
  unfold Go.Ideal.updateV
  repeat' first
    | exact Loc.pure _
    | exact Loc.fail
    | exact Loc.lift _
    | exact Loc.hget _
    | exact Loc.hread _ _ _
    | exact Loc.hwrite _ _ _
    | exact Loc.hset _ _
    | exact Loc.hkill _
    | exact Loc.hnew _ (by intro c h; cases h <;> simp)
    | exact Loc.readCells _ _
    | exact Loc.writeCells _ _
    | exact Loc.newCells _ _ _ _
    | exact Loc.ptrEq _ _
    | exact Loc.eqBool _ _
    | exact Loc.eqPtr _ _
    | exact Loc.eqSlice _ _
    | exact Loc.eqMap _ _
    | exact Loc.eqFunc _ _
    | exact Loc.eqOp _ _ _
    | exact Loc.eqAny _ _ _
    | exact Loc.addSym _ _ _ _ _
    | exact Loc.binInt _ _ _ _
    | exact Loc.binStr _ _ _
    | exact Loc.binOther _ _ _ _
    | exact Loc.binSym _ _ _ _
    | exact Loc.binSym8 _ _ _
    | exact Loc.binV _ _ _ _
    | exact Loc.loadV _ _
    | exact Loc.storeV _ _ _
    | exact Loc.tight _ _ _ _
    | exact Loc.sliceStr _ _ _ _
    | exact Loc.sliceArr _ _ _ _ _ _
    | exact Loc.sliceSl _ _ _ _ _ _ _
    | exact Loc.sliceV _ _ _ _ _
    | exact Loc.mapOf _
    | exact Loc.lookupV _ _ _ _
    | assumption
    | (refine Loc.bind ?_ (fun _ => ?_))
    | (refine Loc.have (fun _ _ => ?_))
    | (refine Loc.need (fun _ => ?_))
    | (refine Loc.ite (fun _ => ?_) (fun _ => ?_))
    | (rw [force_eq])
    | split

theorem Loc.deleteV (t : TypeId) (x k : Value) : Loc (deleteV Γ t x k) := by
  unfold Go.Ideal.deleteV
  repeat' first
    | exact Loc.pure _
    | exact Loc.fail
    | exact Loc.lift _
    | exact Loc.hget _
    | exact Loc.hread _ _ _
    | exact Loc.hwrite _ _ _
    | exact Loc.hset _ _
    | exact Loc.hkill _
    | exact Loc.hnew _ (by intro c h; cases h <;> simp)
    | exact Loc.readCells _ _
    | exact Loc.writeCells _ _
    | exact Loc.newCells _ _ _ _
    | exact Loc.ptrEq _ _
    | exact Loc.eqBool _ _
    | exact Loc.eqPtr _ _
    | exact Loc.eqSlice _ _
    | exact Loc.eqMap _ _
    | exact Loc.eqFunc _ _
    | exact Loc.eqOp _ _ _
    | exact Loc.eqAny _ _ _
    | exact Loc.addSym _ _ _ _ _
    | exact Loc.binInt _ _ _ _
    | exact Loc.binStr _ _ _
    | exact Loc.binOther _ _ _ _
    | exact Loc.binSym _ _ _ _
    | exact Loc.binSym8 _ _ _
    | exact Loc.binV _ _ _ _
    | exact Loc.loadV _ _
    | exact Loc.storeV _ _ _
    | exact Loc.tight _ _ _ _
    | exact Loc.sliceStr _ _ _ _
    | exact Loc.sliceArr _ _ _ _ _ _
    | exact Loc.sliceSl _ _ _ _ _ _ _
    | exact Loc.sliceV _ _ _ _ _
    | exact Loc.mapOf _
    | exact Loc.lookupV _ _ _ _
    | exact Loc.updateV _ _ _ _
    | assumption
    | (refine Loc.bind ?_ (fun _ => ?_))
    | (refine Loc.have (fun _ _ => ?_))
    | (refine Loc.need (fun _ => ?_))
    | (refine Loc.ite (fun _ => ?_) (fun _ => ?_))
    | (rw [force_eq])
    | split

theorem Loc.rangeObj (t : TypeId) (x : Value) : Loc (rangeObj Γ t x) := by
  unfold Go.Ideal.rangeObj
  repeat' first
    | exact Loc.pure _
    | exact Loc.fail
    | exact Loc.lift _
    | exact Loc.hget _
    | exact Loc.hread _ _ _
    | exact Loc.hwrite _ _ _
    | exact Loc.hset _ _
    | exact Loc.hkill _
    | exact Loc.hnew _ (by intro c h; cases h <;> simp)
    | exact Loc.readCells _ _
    | exact Loc.writeCells _ _
    | exact Loc.newCells _ _ _ _
    | exact Loc.ptrEq _ _
    | exact Loc.eqBool _ _
    | exact Loc.eqPtr _ _
    | exact Loc.eqSlice _ _
    | exact Loc.eqMap _ _
    | exact Loc.eqFunc _ _
    | exact Loc.eqOp _ _ _
    | exact Loc.eqAny _ _ _
    | exact Loc.addSym _ _ _ _ _
    | exact Loc.binInt _ _ _ _
    | exact Loc.binStr _ _ _
    | exact Loc.binOther _ _ _ _
    | exact Loc.binSym _ _ _ _
    | exact Loc.binSym8 _ _ _
    | exact Loc.binV _ _ _ _
    | exact Loc.loadV _ _
    | exact Loc.storeV _ _ _
    | exact Loc.tight _ _ _ _
    | exact Loc.sliceStr _ _ _ _
    | exact Loc.sliceArr _ _ _ _ _ _
    | exact Loc.sliceSl _ _ _ _ _ _ _
    | exact Loc.sliceV _ _ _ _ _
    | exact Loc.mapOf _
    | exact Loc.lookupV _ _ _ _
    | exact Loc.updateV _ _ _ _
    | exact Loc.deleteV _ _ _
    | assumption
    | (refine Loc.bind ?_ (fun _ => ?_))
    | (refine Loc.have (fun _ _ => ?_))
    | (refine Loc.need (fun _ => ?_))
    | (refine Loc.ite (fun _ => ?_) (fun _ => ?_))
    | (rw [force_eq])
    | split

theorem Loc.rangeV (t : TypeId) (x : Value) : Loc (rangeV Γ t x) := by
  unfold Go.Ideal.rangeV
  exact Loc.bind (Loc.rangeObj _ _) (fun it => Loc.need (fun h => Loc.bind (Loc.hnew _ (fun c hc => by rw [hc] at h; cases h)) (fun _ => Loc.pure _)))

theorem Loc.nextStr (r : Nat) (s : ByteArray) (p : Nat) : Loc (nextStr r s p) := by
  unfold Go.Ideal.nextStr
  repeat' first
    | exact Loc.pure _
    | exact Loc.fail
    | exact Loc.lift _
    | exact Loc.hget _
    | exact Loc.hread _ _ _
    | exact Loc.hwrite _ _ _
    | exact Loc.hset _ _
    | exact Loc.hkill _
    | exact Loc.hnew _ (by intro c h; cases h <;> simp)
    | exact Loc.readCells _ _
    | exact Loc.writeCells _ _
    | exact Loc.newCells _ _ _ _
    | exact Loc.ptrEq _ _
    | exact Loc.eqBool _ _
    | exact Loc.eqPtr _ _
    | exact Loc.eqSlice _ _
    | exact Loc.eqMap _ _
    | exact Loc.eqFunc _ _
    | exact Loc.eqOp _ _ _
    | exact Loc.eqAny _ _ _
    | exact Loc.addSym _ _ _ _ _
    | exact Loc.binInt _ _ _ _
    | exact Loc.binStr _ _ _
    | exact Loc.binOther _ _ _ _
    | exact Loc.binSym _ _ _ _
    | exact Loc.binSym8 _ _ _
    | exact Loc.binV _ _ _ _
    | exact Loc.loadV _ _
    | exact Loc.storeV _ _ _
    | exact Loc.tight _ _ _ _
    | exact Loc.sliceStr _ _ _ _
    | exact Loc.sliceArr _ _ _ _ _ _
    | exact Loc.sliceSl _ _ _ _ _ _ _
    | exact Loc.sliceV _ _ _ _ _
    | exact Loc.mapOf _
    | exact Loc.lookupV _ _ _ _
    | exact Loc.updateV _ _ _ _
    | exact Loc.deleteV _ _ _
    | exact Loc.rangeObj _ _
    | exact Loc.rangeV _ _
    | assumption
    | (refine Loc.bind ?_ (fun _ => ?_))
    | (refine Loc.have (fun _ _ => ?_))
    | (refine Loc.need (fun _ => ?_))
    | (refine Loc.ite (fun _ => ?_) (fun _ => ?_))
    | (rw [force_eq])
    | split

theorem Loc.nextMap (r m s : Nat) (l : List Nat) (n : Nat) : Loc (nextMap r m s l n) := by
  unfold Go.Ideal.nextMap
  repeat' first
    | exact Loc.pure _
    | exact Loc.fail
    | exact Loc.lift _
    | exact Loc.hget _
    | exact Loc.hread _ _ _
    | exact Loc.hwrite _ _ _
    | exact Loc.hset _ _
    | exact Loc.hkill _
    | exact Loc.hnew _ (by intro c h; cases h <;> simp)
    | exact Loc.readCells _ _
    | exact Loc.writeCells _ _
    | exact Loc.newCells _ _ _ _
    | exact Loc.ptrEq _ _
    | exact Loc.eqBool _ _
    | exact Loc.eqPtr _ _
    | exact Loc.eqSlice _ _
    | exact Loc.eqMap _ _
    | exact Loc.eqFunc _ _
    | exact Loc.eqOp _ _ _
    | exact Loc.eqAny _ _ _
    | exact Loc.addSym _ _ _ _ _
    | exact Loc.binInt _ _ _ _
    | exact Loc.binStr _ _ _
    | exact Loc.binOther _ _ _ _
    | exact Loc.binSym _ _ _ _
    | exact Loc.binSym8 _ _ _
    | exact Loc.binV _ _ _ _
    | exact Loc.loadV _ _
    | exact Loc.storeV _ _ _
    | exact Loc.tight _ _ _ _
    | exact Loc.sliceStr _ _ _ _
    | exact Loc.sliceArr _ _ _ _ _ _
    | exact Loc.sliceSl _ _ _ _ _ _ _
    | exact Loc.sliceV _ _ _ _ _
    | exact Loc.mapOf _
    | exact Loc.lookupV _ _ _ _
    | exact Loc.updateV _ _ _ _
    | exact Loc.deleteV _ _ _
    | exact Loc.rangeObj _ _
    | exact Loc.rangeV _ _
    | exact Loc.nextStr _ _ _
    | assumption
    | (refine Loc.bind ?_ (fun _ => ?_))
    | (refine Loc.have (fun _ _ => ?_))
    | (refine Loc.need (fun _ => ?_))
    | (refine Loc.ite (fun _ => ?_) (fun _ => ?_))
    | (rw [force_eq])
    | split

theorem Loc.nextV (x : Value) (b : Bool) : Loc (nextV x b) := by
  unfold Go.Ideal.nextV
  repeat' first
    | exact Loc.pure _
    | exact Loc.fail
    | exact Loc.lift _
    | exact Loc.hget _
    | exact Loc.hread _ _ _
    | exact Loc.hwrite _ _ _
    | exact Loc.hset _ _
    | exact Loc.hkill _
    | exact Loc.hnew _ (by intro c h; cases h <;> simp)
    | exact Loc.readCells _ _
    | exact Loc.writeCells _ _
    | exact Loc.newCells _ _ _ _
    | exact Loc.ptrEq _ _
    | exact Loc.eqBool _ _
    | exact Loc.eqPtr _ _
    | exact Loc.eqSlice _ _
    | exact Loc.eqMap _ _
    | exact Loc.eqFunc _ _
    | exact Loc.eqOp _ _ _
    | exact Loc.eqAny _ _ _
    | exact Loc.addSym _ _ _ _ _
    | exact Loc.binInt _ _ _ _
    | exact Loc.binStr _ _ _
    | exact Loc.binOther _ _ _ _
    | exact Loc.binSym _ _ _ _
    | exact Loc.binSym8 _ _ _
    | exact Loc.binV _ _ _ _
    | exact Loc.loadV _ _
    | exact Loc.storeV _ _ _
    | exact Loc.tight _ _ _ _
    | exact Loc.sliceStr _ _ _ _
    | exact Loc.sliceArr _ _ _ _ _ _
    | exact Loc.sliceSl _ _ _ _ _ _ _
    | exact Loc.sliceV _ _ _ _ _
    | exact Loc.mapOf _
    | exact Loc.lookupV _ _ _ _
    | exact Loc.updateV _ _ _ _
    | exact Loc.deleteV _ _ _
    | exact Loc.rangeObj _ _
    | exact Loc.rangeV _ _
    | exact Loc.nextStr _ _ _
    | exact Loc.nextMap _ _ _ _ _
    | assumption
    | (refine Loc.bind ?_ (fun _ => ?_))
    | (refine Loc.have (fun _ _ => ?_))
    | (refine Loc.need (fun _ => ?_))
    | (refine Loc.ite (fun _ => ?_) (fun _ => ?_))
    | (rw [force_eq])
    | split

theorem Loc.entryV (x : Value) : Loc (entryV x) := by
  unfold Go.Ideal.entryV
  repeat' first
    | exact Loc.pure _
    | exact Loc.fail
    | exact Loc.lift _
    | exact Loc.hget _
    | exact Loc.hread _ _ _
    | exact Loc.hwrite _ _ _
    | exact Loc.hset _ _
    | exact Loc.hkill _
    | exact Loc.hnew _ (by intro c h; cases h <;> simp)
    | exact Loc.readCells _ _
    | exact Loc.writeCells _ _
    | exact Loc.newCells _ _ _ _
    | exact Loc.ptrEq _ _
    | exact Loc.eqBool _ _
    | exact Loc.eqPtr _ _
    | exact Loc.eqSlice _ _
    | exact Loc.eqMap _ _
    | exact Loc.eqFunc _ _
    | exact Loc.eqOp _ _ _
    | exact Loc.eqAny _ _ _
    | exact Loc.addSym _ _ _ _ _
    | exact Loc.binInt _ _ _ _
    | exact Loc.binStr _ _ _
    | exact Loc.binOther _ _ _ _
    | exact Loc.binSym _ _ _ _
    | exact Loc.binSym8 _ _ _
    | exact Loc.binV _ _ _ _
    | exact Loc.loadV _ _
    | exact Loc.storeV _ _ _
    | exact Loc.tight _ _ _ _
    | exact Loc.sliceStr _ _ _ _
    | exact Loc.sliceArr _ _ _ _ _ _
    | exact Loc.sliceSl _ _ _ _ _ _ _
    | exact Loc.sliceV _ _ _ _ _
    | exact Loc.mapOf _
    | exact Loc.lookupV _ _ _ _
    | exact Loc.updateV _ _ _ _
    | exact Loc.deleteV _ _ _
    | exact Loc.rangeObj _ _
    | exact Loc.rangeV _ _
    | exact Loc.nextStr _ _ _
    | exact Loc.nextMap _ _ _ _ _
    | exact Loc.nextV _ _
    | assumption
    | (refine Loc.bind ?_ (fun _ => ?_))
    | (refine Loc.have (fun _ _ => ?_))
    | (refine Loc.need (fun _ => ?_))
    | (refine Loc.ite (fun _ => ?_) (fun _ => ?_))
    | (rw [force_eq])
    | split

theorem Loc.elems (m n : Nat) (x : Value) : Loc (elems m n x) := by
  unfold Go.Ideal.elems
  repeat' first
    | exact Loc.pure _
    | exact Loc.fail
    | exact Loc.lift _
    | exact Loc.hget _
    | exact Loc.hread _ _ _
    | exact Loc.hwrite _ _ _
    | exact Loc.hset _ _
    | exact Loc.hkill _
    | exact Loc.hnew _ (by intro c h; cases h <;> simp)
    | exact Loc.readCells _ _
    | exact Loc.writeCells _ _
    | exact Loc.newCells _ _ _ _
    | exact Loc.ptrEq _ _
    | exact Loc.eqBool _ _
    | exact Loc.eqPtr _ _
    | exact Loc.eqSlice _ _
    | exact Loc.eqMap _ _
    | exact Loc.eqFunc _ _
    | exact Loc.eqOp _ _ _
    | exact Loc.eqAny _ _ _
    | exact Loc.addSym _ _ _ _ _
    | exact Loc.binInt _ _ _ _
    | exact Loc.binStr _ _ _
    | exact Loc.binOther _ _ _ _
    | exact Loc.binSym _ _ _ _
    | exact Loc.binSym8 _ _ _
    | exact Loc.binV _ _ _ _
    | exact Loc.loadV _ _
    | exact Loc.storeV _ _ _
    | exact Loc.tight _ _ _ _
    | exact Loc.sliceStr _ _ _ _
    | exact Loc.sliceArr _ _ _ _ _ _
    | exact Loc.sliceSl _ _ _ _ _ _ _
    | exact Loc.sliceV _ _ _ _ _
    | exact Loc.mapOf _
    | exact Loc.lookupV _ _ _ _
    | exact Loc.updateV _ _ _ _
    | exact Loc.deleteV _ _ _
    | exact Loc.rangeObj _ _
    | exact Loc.rangeV _ _
    | exact Loc.nextStr _ _ _
    | exact Loc.nextMap _ _ _ _ _
    | exact Loc.nextV _ _
    | exact Loc.entryV _
    | assumption
    | (refine Loc.bind ?_ (fun _ => ?_))
    | (refine Loc.have (fun _ _ => ?_))
    | (refine Loc.need (fun _ => ?_))
    | (refine Loc.ite (fun _ => ?_) (fun _ => ?_))
    | (rw [force_eq])
    | split

theorem Loc.giveUp (b : Option Addr) (l c : Nat) (e : TypeId) (n : Nat) : Loc (giveUp b l c e n) := by
  unfold Go.Ideal.giveUp
  repeat' first
    | exact Loc.pure _
    | exact Loc.fail
    | exact Loc.lift _
    | exact Loc.hget _
    | exact Loc.hread _ _ _
    | exact Loc.hwrite _ _ _
    | exact Loc.hset _ _
    | exact Loc.hkill _
    | exact Loc.hnew _ (by intro c h; cases h <;> simp)
    | exact Loc.readCells _ _
    | exact Loc.writeCells _ _
    | exact Loc.newCells _ _ _ _
    | exact Loc.ptrEq _ _
    | exact Loc.eqBool _ _
    | exact Loc.eqPtr _ _
    | exact Loc.eqSlice _ _
    | exact Loc.eqMap _ _
    | exact Loc.eqFunc _ _
    | exact Loc.eqOp _ _ _
    | exact Loc.eqAny _ _ _
    | exact Loc.addSym _ _ _ _ _
    | exact Loc.binInt _ _ _ _
    | exact Loc.binStr _ _ _
    | exact Loc.binOther _ _ _ _
    | exact Loc.binSym _ _ _ _
    | exact Loc.binSym8 _ _ _
    | exact Loc.binV _ _ _ _
    | exact Loc.loadV _ _
    | exact Loc.storeV _ _ _
    | exact Loc.tight _ _ _ _
    | exact Loc.sliceStr _ _ _ _
    | exact Loc.sliceArr _ _ _ _ _ _
    | exact Loc.sliceSl _ _ _ _ _ _ _
    | exact Loc.sliceV _ _ _ _ _
    | exact Loc.mapOf _
    | exact Loc.lookupV _ _ _ _
    | exact Loc.updateV _ _ _ _
    | exact Loc.deleteV _ _ _
    | exact Loc.rangeObj _ _
    | exact Loc.rangeV _ _
    | exact Loc.nextStr _ _ _
    | exact Loc.nextMap _ _ _ _ _
    | exact Loc.nextV _ _
    | exact Loc.entryV _
    | exact Loc.elems _ _ _
    | assumption
    | (refine Loc.bind ?_ (fun _ => ?_))
    | (refine Loc.have (fun _ _ => ?_))
    | (refine Loc.need (fun _ => ?_))
    | (refine Loc.ite (fun _ => ?_) (fun _ => ?_))
    | (rw [force_eq])
    | split

theorem Loc.writeBase (b : Option Addr) (n : Nat) (vs : List Value) : Loc (writeBase b n vs) := by
  unfold Go.Ideal.writeBase
  repeat' first
    | exact Loc.pure _
    | exact Loc.fail
    | exact Loc.lift _
    | exact Loc.hget _
    | exact Loc.hread _ _ _
    | exact Loc.hwrite _ _ _
    | exact Loc.hset _ _
    | exact Loc.hkill _
    | exact Loc.hnew _ (by intro c h; cases h <;> simp)
    | exact Loc.readCells _ _
    | exact Loc.writeCells _ _
    | exact Loc.newCells _ _ _ _
    | exact Loc.ptrEq _ _
    | exact Loc.eqBool _ _
    | exact Loc.eqPtr _ _
    | exact Loc.eqSlice _ _
    | exact Loc.eqMap _ _
    | exact Loc.eqFunc _ _
    | exact Loc.eqOp _ _ _
    | exact Loc.eqAny _ _ _
    | exact Loc.addSym _ _ _ _ _
    | exact Loc.binInt _ _ _ _
    | exact Loc.binStr _ _ _
    | exact Loc.binOther _ _ _ _
    | exact Loc.binSym _ _ _ _
    | exact Loc.binSym8 _ _ _
    | exact Loc.binV _ _ _ _
    | exact Loc.loadV _ _
    | exact Loc.storeV _ _ _
    | exact Loc.tight _ _ _ _
    | exact Loc.sliceStr _ _ _ _
    | exact Loc.sliceArr _ _ _ _ _ _
    | exact Loc.sliceSl _ _ _ _ _ _ _
    | exact Loc.sliceV _ _ _ _ _
    | exact Loc.mapOf _
    | exact Loc.lookupV _ _ _ _
    | exact Loc.updateV _ _ _ _
    | exact Loc.deleteV _ _ _
    | exact Loc.rangeObj _ _
    | exact Loc.rangeV _ _
    | exact Loc.nextStr _ _ _
    | exact Loc.nextMap _ _ _ _ _
    | exact Loc.nextV _ _
    | exact Loc.entryV _
    | exact Loc.elems _ _ _
    | exact Loc.giveUp _ _ _ _ _
    | assumption
    | (refine Loc.bind ?_ (fun _ => ?_))
    | (refine Loc.have (fun _ _ => ?_))
    | (refine Loc.need (fun _ => ?_))
    | (refine Loc.ite (fun _ => ?_) (fun _ => ?_))
    | (rw [force_eq])
    | split

theorem Loc.appendV (a b : TypeId) (s x : Value) : Loc (appendV Γ a b s x) := by
  unfold Go.Ideal.appendV
  repeat' first
    | exact Loc.pure _
    | exact Loc.fail
    | exact Loc.lift _
    | exact Loc.hget _
    | exact Loc.hread _ _ _
    | exact Loc.hwrite _ _ _
    | exact Loc.hset _ _
    | exact Loc.hkill _
    | exact Loc.hnew _ (by intro c h; cases h <;> simp)
    | exact Loc.readCells _ _
    | exact Loc.writeCells _ _
    | exact Loc.newCells _ _ _ _
    | exact Loc.ptrEq _ _
    | exact Loc.eqBool _ _
    | exact Loc.eqPtr _ _
    | exact Loc.eqSlice _ _
    | exact Loc.eqMap _ _
    | exact Loc.eqFunc _ _
    | exact Loc.eqOp _ _ _
    | exact Loc.eqAny _ _ _
    | exact Loc.addSym _ _ _ _ _
    | exact Loc.binInt _ _ _ _
    | exact Loc.binStr _ _ _
    | exact Loc.binOther _ _ _ _
    | exact Loc.binSym _ _ _ _
    | exact Loc.binSym8 _ _ _
    | exact Loc.binV _ _ _ _
    | exact Loc.loadV _ _
    | exact Loc.storeV _ _ _
    | exact Loc.tight _ _ _ _
    | exact Loc.sliceStr _ _ _ _
    | exact Loc.sliceArr _ _ _ _ _ _
    | exact Loc.sliceSl _ _ _ _ _ _ _
    | exact Loc.sliceV _ _ _ _ _
    | exact Loc.mapOf _
    | exact Loc.lookupV _ _ _ _
    | exact Loc.updateV _ _ _ _
    | exact Loc.deleteV _ _ _
    | exact Loc.rangeObj _ _
    | exact Loc.rangeV _ _
    | exact Loc.nextStr _ _ _
    | exact Loc.nextMap _ _ _ _ _
    | exact Loc.nextV _ _
    | exact Loc.entryV _
    | exact Loc.elems _ _ _
    | exact Loc.giveUp _ _ _ _ _
    | exact Loc.writeBase _ _ _
    | assumption
    | (refine Loc.bind ?_ (fun _ => ?_))
    | (refine Loc.have (fun _ _ => ?_))
    | (refine Loc.need (fun _ => ?_))
    | (refine Loc.ite (fun _ => ?_) (fun _ => ?_))
    | (rw [force_eq])
    | split

theorem Loc.copyV (a : TypeId) (s x : Value) : Loc (copyV Γ a s x) := by
  unfold Go.Ideal.copyV
  repeat' first
    | exact Loc.pure _
    | exact Loc.fail
    | exact Loc.lift _
    | exact Loc.hget _
    | exact Loc.hread _ _ _
    | exact Loc.hwrite _ _ _
    | exact Loc.hset _ _
    | exact Loc.hkill _
    | exact Loc.hnew _ (by intro c h; cases h <;> simp)
    | exact Loc.readCells _ _
    | exact Loc.writeCells _ _
    | exact Loc.newCells _ _ _ _
    | exact Loc.ptrEq _ _
    | exact Loc.eqBool _ _
    | exact Loc.eqPtr _ _
    | exact Loc.eqSlice _ _
    | exact Loc.eqMap _ _
    | exact Loc.eqFunc _ _
    | exact Loc.eqOp _ _ _
    | exact Loc.eqAny _ _ _
    | exact Loc.addSym _ _ _ _ _
    | exact Loc.binInt _ _ _ _
    | exact Loc.binStr _ _ _
    | exact Loc.binOther _ _ _ _
    | exact Loc.binSym _ _ _ _
    | exact Loc.binSym8 _ _ _
    | exact Loc.binV _ _ _ _
    | exact Loc.loadV _ _
    | exact Loc.storeV _ _ _
    | exact Loc.tight _ _ _ _
    | exact Loc.sliceStr _ _ _ _
    | exact Loc.sliceArr _ _ _ _ _ _
    | exact Loc.sliceSl _ _ _ _ _ _ _
    | exact Loc.sliceV _ _ _ _ _
    | exact Loc.mapOf _
    | exact Loc.lookupV _ _ _ _
    | exact Loc.updateV _ _ _ _
    | exact Loc.deleteV _ _ _
    | exact Loc.rangeObj _ _
    | exact Loc.rangeV _ _
    | exact Loc.nextStr _ _ _
    | exact Loc.nextMap _ _ _ _ _
    | exact Loc.nextV _ _
    | exact Loc.entryV _
    | exact Loc.elems _ _ _
    | exact Loc.giveUp _ _ _ _ _
    | exact Loc.writeBase _ _ _
    | exact Loc.appendV _ _ _ _
    | assumption
    | (refine Loc.bind ?_ (fun _ => ?_))
    | (refine Loc.have (fun _ _ => ?_))
    | (refine Loc.need (fun _ => ?_))
    | (refine Loc.ite (fun _ => ?_) (fun _ => ?_))
    | (rw [force_eq])
    | split

theorem Loc.lenB (a : TypeId) (x : Value) : Loc (lenB Γ a x) := by
  unfold Go.Ideal.lenB
  repeat' first
    | exact Loc.pure _
    | exact Loc.fail
    | exact Loc.lift _
    | exact Loc.hget _
    | exact Loc.hread _ _ _
    | exact Loc.hwrite _ _ _
    | exact Loc.hset _ _
    | exact Loc.hkill _
    | exact Loc.hnew _ (by intro c h; cases h <;> simp)
    | exact Loc.readCells _ _
    | exact Loc.writeCells _ _
    | exact Loc.newCells _ _ _ _
    | exact Loc.ptrEq _ _
    | exact Loc.eqBool _ _
    | exact Loc.eqPtr _ _
    | exact Loc.eqSlice _ _
    | exact Loc.eqMap _ _
    | exact Loc.eqFunc _ _
    | exact Loc.eqOp _ _ _
    | exact Loc.eqAny _ _ _
    | exact Loc.addSym _ _ _ _ _
    | exact Loc.binInt _ _ _ _
    | exact Loc.binStr _ _ _
    | exact Loc.binOther _ _ _ _
    | exact Loc.binSym _ _ _ _
    | exact Loc.binSym8 _ _ _
    | exact Loc.binV _ _ _ _
    | exact Loc.loadV _ _
    | exact Loc.storeV _ _ _
    | exact Loc.tight _ _ _ _
    | exact Loc.sliceStr _ _ _ _
    | exact Loc.sliceArr _ _ _ _ _ _
    | exact Loc.sliceSl _ _ _ _ _ _ _
    | exact Loc.sliceV _ _ _ _ _
    | exact Loc.mapOf _
    | exact Loc.lookupV _ _ _ _
    | exact Loc.updateV _ _ _ _
    | exact Loc.deleteV _ _ _
    | exact Loc.rangeObj _ _
    | exact Loc.rangeV _ _
    | exact Loc.nextStr _ _ _
    | exact Loc.nextMap _ _ _ _ _
    | exact Loc.nextV _ _
    | exact Loc.entryV _
    | exact Loc.elems _ _ _
    | exact Loc.giveUp _ _ _ _ _
    | exact Loc.writeBase _ _ _
    | exact Loc.appendV _ _ _ _
    | exact Loc.copyV _ _ _
    | assumption
    | (refine Loc.bind ?_ (fun _ => ?_))
    | (refine Loc.have (fun _ _ => ?_))
    | (refine Loc.need (fun _ => ?_))
    | (refine Loc.ite (fun _ => ?_) (fun _ => ?_))
    | (rw [force_eq])
    | split

theorem Loc.clearV (a : TypeId) (x : Value) : Loc (clearV Γ a x) := by
  unfold Go.Ideal.clearV
  repeat' first
    | exact Loc.pure _
    | exact Loc.fail
    | exact Loc.lift _
    | exact Loc.hget _
    | exact Loc.hread _ _ _
    | exact Loc.hwrite _ _ _
    | exact Loc.hset _ _
    | exact Loc.hkill _
    | exact Loc.hnew _ (by intro c h; cases h <;> simp)
    | exact Loc.readCells _ _
    | exact Loc.writeCells _ _
    | exact Loc.newCells _ _ _ _
    | exact Loc.ptrEq _ _
    | exact Loc.eqBool _ _
    | exact Loc.eqPtr _ _
    | exact Loc.eqSlice _ _
    | exact Loc.eqMap _ _
    | exact Loc.eqFunc _ _
    | exact Loc.eqOp _ _ _
    | exact Loc.eqAny _ _ _
    | exact Loc.addSym _ _ _ _ _
    | exact Loc.binInt _ _ _ _
    | exact Loc.binStr _ _ _
    | exact Loc.binOther _ _ _ _
    | exact Loc.binSym _ _ _ _
    | exact Loc.binSym8 _ _ _
    | exact Loc.binV _ _ _ _
    | exact Loc.loadV _ _
    | exact Loc.storeV _ _ _
    | exact Loc.tight _ _ _ _
    | exact Loc.sliceStr _ _ _ _
    | exact Loc.sliceArr _ _ _ _ _ _
    | exact Loc.sliceSl _ _ _ _ _ _ _
    | exact Loc.sliceV _ _ _ _ _
    | exact Loc.mapOf _
    | exact Loc.lookupV _ _ _ _
    | exact Loc.updateV _ _ _ _
    | exact Loc.deleteV _ _ _
    | exact Loc.rangeObj _ _
    | exact Loc.rangeV _ _
    | exact Loc.nextStr _ _ _
    | exact Loc.nextMap _ _ _ _ _
    | exact Loc.nextV _ _
    | exact Loc.entryV _
    | exact Loc.elems _ _ _
    | exact Loc.giveUp _ _ _ _ _
    | exact Loc.writeBase _ _ _
    | exact Loc.appendV _ _ _ _
    | exact Loc.copyV _ _ _
    | exact Loc.lenB _ _
    | assumption
    | (refine Loc.bind ?_ (fun _ => ?_))
    | (refine Loc.have (fun _ _ => ?_))
    | (refine Loc.need (fun _ => ?_))
    | (refine Loc.ite (fun _ => ?_) (fun _ => ?_))
    | (rw [force_eq])
    | split

theorem Loc.builtinV (b : Builtin) (ts : Array TypeId) (as : List Value) : Loc (builtinV b Γ ts as) := by
  unfold Go.Ideal.builtinV
  repeat' first
    | exact Loc.pure _
    | exact Loc.fail
    | exact Loc.lift _
    | exact Loc.hget _
    | exact Loc.hread _ _ _
    | exact Loc.hwrite _ _ _
    | exact Loc.hset _ _
    | exact Loc.hkill _
    | exact Loc.hnew _ (by intro c h; cases h <;> simp)
    | exact Loc.readCells _ _
    | exact Loc.writeCells _ _
    | exact Loc.newCells _ _ _ _
    | exact Loc.ptrEq _ _
    | exact Loc.eqBool _ _
    | exact Loc.eqPtr _ _
    | exact Loc.eqSlice _ _
    | exact Loc.eqMap _ _
    | exact Loc.eqFunc _ _
    | exact Loc.eqOp _ _ _
    | exact Loc.eqAny _ _ _
    | exact Loc.addSym _ _ _ _ _
    | exact Loc.binInt _ _ _ _
    | exact Loc.binStr _ _ _
    | exact Loc.binOther _ _ _ _
    | exact Loc.binSym _ _ _ _
    | exact Loc.binSym8 _ _ _
    | exact Loc.binV _ _ _ _
    | exact Loc.loadV _ _
    | exact Loc.storeV _ _ _
    | exact Loc.tight _ _ _ _
    | exact Loc.sliceStr _ _ _ _
    | exact Loc.sliceArr _ _ _ _ _ _
    | exact Loc.sliceSl _ _ _ _ _ _ _
    | exact Loc.sliceV _ _ _ _ _
    | exact Loc.mapOf _
    | exact Loc.lookupV _ _ _ _
    | exact Loc.updateV _ _ _ _
    | exact Loc.deleteV _ _ _
    | exact Loc.rangeObj _ _
    | exact Loc.rangeV _ _
    | exact Loc.nextStr _ _ _
    | exact Loc.nextMap _ _ _ _ _
    | exact Loc.nextV _ _
    | exact Loc.entryV _
    | exact Loc.elems _ _ _
    | exact Loc.giveUp _ _ _ _ _
    | exact Loc.writeBase _ _ _
    | exact Loc.appendV _ _ _ _
    | exact Loc.copyV _ _ _
    | exact Loc.lenB _ _
    | exact Loc.clearV _ _
    | assumption
    | (refine Loc.bind ?_ (fun _ => ?_))
    | (refine Loc.have (fun _ _ => ?_))
    | (refine Loc.need (fun _ => ?_))
    | (refine Loc.ite (fun _ => ?_) (fun _ => ?_))
    | (rw [force_eq])
    | split

theorem Loc.toBytes (e : TypeId) (s : ByteArray) : Loc (toBytes Γ e s) := by
  unfold Go.Ideal.toBytes
  repeat' first
    | exact Loc.pure _
    | exact Loc.fail
    | exact Loc.lift _
    | exact Loc.hget _
    | exact Loc.hread _ _ _
    | exact Loc.hwrite _ _ _
    | exact Loc.hset _ _
    | exact Loc.hkill _
    | exact Loc.hnew _ (by intro c h; cases h <;> simp)
    | exact Loc.readCells _ _
    | exact Loc.writeCells _ _
    | exact Loc.newCells _ _ _ _
    | exact Loc.ptrEq _ _
    | exact Loc.eqBool _ _
    | exact Loc.eqPtr _ _
    | exact Loc.eqSlice _ _
    | exact Loc.eqMap _ _
    | exact Loc.eqFunc _ _
    | exact Loc.eqOp _ _ _
    | exact Loc.eqAny _ _ _
    | exact Loc.addSym _ _ _ _ _
    | exact Loc.binInt _ _ _ _
    | exact Loc.binStr _ _ _
    | exact Loc.binOther _ _ _ _
    | exact Loc.binSym _ _ _ _
    | exact Loc.binSym8 _ _ _
    | exact Loc.binV _ _ _ _
    | exact Loc.loadV _ _
    | exact Loc.storeV _ _ _
    | exact Loc.tight _ _ _ _
    | exact Loc.sliceStr _ _ _ _
    | exact Loc.sliceArr _ _ _ _ _ _
    | exact Loc.sliceSl _ _ _ _ _ _ _
    | exact Loc.sliceV _ _ _ _ _
    | exact Loc.mapOf _
    | exact Loc.lookupV _ _ _ _
    | exact Loc.updateV _ _ _ _
    | exact Loc.deleteV _ _ _
    | exact Loc.rangeObj _ _
    | exact Loc.rangeV _ _
    | exact Loc.nextStr _ _ _
    | exact Loc.nextMap _ _ _ _ _
    | exact Loc.nextV _ _
    | exact Loc.entryV _
    | exact Loc.elems _ _ _
    | exact Loc.giveUp _ _ _ _ _
    | exact Loc.writeBase _ _ _
    | exact Loc.appendV _ _ _ _
    | exact Loc.copyV _ _ _
    | exact Loc.lenB _ _
    | exact Loc.clearV _ _
    | exact Loc.builtinV _ _ _
    | assumption
    | (refine Loc.bind ?_ (fun _ => ?_))
    | (refine Loc.have (fun _ _ => ?_))
    | (refine Loc.need (fun _ => ?_))
    | (refine Loc.ite (fun _ => ?_) (fun _ => ?_))
    | (rw [force_eq])
    | split

theorem Loc.toStr (e : TypeId) (s : Value) : Loc (toStr Γ e s) := by
  unfold Go.Ideal.toStr
  repeat' first
    | exact Loc.pure _
    | exact Loc.fail
    | exact Loc.lift _
    | exact Loc.hget _
    | exact Loc.hread _ _ _
    | exact Loc.hwrite _ _ _
    | exact Loc.hset _ _
    | exact Loc.hkill _
    | exact Loc.hnew _ (by intro c h; cases h <;> simp)
    | exact Loc.readCells _ _
    | exact Loc.writeCells _ _
    | exact Loc.newCells _ _ _ _
    | exact Loc.ptrEq _ _
    | exact Loc.eqBool _ _
    | exact Loc.eqPtr _ _
    | exact Loc.eqSlice _ _
    | exact Loc.eqMap _ _
    | exact Loc.eqFunc _ _
    | exact Loc.eqOp _ _ _
    | exact Loc.eqAny _ _ _
    | exact Loc.addSym _ _ _ _ _
    | exact Loc.binInt _ _ _ _
    | exact Loc.binStr _ _ _
    | exact Loc.binOther _ _ _ _
    | exact Loc.binSym _ _ _ _
    | exact Loc.binSym8 _ _ _
    | exact Loc.binV _ _ _ _
    | exact Loc.loadV _ _
    | exact Loc.storeV _ _ _
    | exact Loc.tight _ _ _ _
    | exact Loc.sliceStr _ _ _ _
    | exact Loc.sliceArr _ _ _ _ _ _
    | exact Loc.sliceSl _ _ _ _ _ _ _
    | exact Loc.sliceV _ _ _ _ _
    | exact Loc.mapOf _
    | exact Loc.lookupV _ _ _ _
    | exact Loc.updateV _ _ _ _
    | exact Loc.deleteV _ _ _
    | exact Loc.rangeObj _ _
    | exact Loc.rangeV _ _
    | exact Loc.nextStr _ _ _
    | exact Loc.nextMap _ _ _ _ _
    | exact Loc.nextV _ _
    | exact Loc.entryV _
    | exact Loc.elems _ _ _
    | exact Loc.giveUp _ _ _ _ _
    | exact Loc.writeBase _ _ _
    | exact Loc.appendV _ _ _ _
    | exact Loc.copyV _ _ _
    | exact Loc.lenB _ _
    | exact Loc.clearV _ _
    | exact Loc.builtinV _ _ _
    | exact Loc.toBytes _ _
    | assumption
    | (refine Loc.bind ?_ (fun _ => ?_))
    | (refine Loc.have (fun _ _ => ?_))
    | (refine Loc.need (fun _ => ?_))
    | (refine Loc.ite (fun _ => ?_) (fun _ => ?_))
    | (rw [force_eq])
    | split

theorem Loc.convertV (a b : TypeId) (s : Value) : Loc (convertV Γ a b s) := by
  unfold Go.Ideal.convertV
  repeat' first
    | exact Loc.pure _
    | exact Loc.fail
    | exact Loc.lift _
    | exact Loc.hget _
    | exact Loc.hread _ _ _
    | exact Loc.hwrite _ _ _
    | exact Loc.hset _ _
    | exact Loc.hkill _
    | exact Loc.hnew _ (by intro c h; cases h <;> simp)
    | exact Loc.readCells _ _
    | exact Loc.writeCells _ _
    | exact Loc.newCells _ _ _ _
    | exact Loc.ptrEq _ _
    | exact Loc.eqBool _ _
    | exact Loc.eqPtr _ _
    | exact Loc.eqSlice _ _
    | exact Loc.eqMap _ _
    | exact Loc.eqFunc _ _
    | exact Loc.eqOp _ _ _
    | exact Loc.eqAny _ _ _
    | exact Loc.addSym _ _ _ _ _
    | exact Loc.binInt _ _ _ _
    | exact Loc.binStr _ _ _
    | exact Loc.binOther _ _ _ _
    | exact Loc.binSym _ _ _ _
    | exact Loc.binSym8 _ _ _
    | exact Loc.binV _ _ _ _
    | exact Loc.loadV _ _
    | exact Loc.storeV _ _ _
    | exact Loc.tight _ _ _ _
    | exact Loc.sliceStr _ _ _ _
    | exact Loc.sliceArr _ _ _ _ _ _
    | exact Loc.sliceSl _ _ _ _ _ _ _
    | exact Loc.sliceV _ _ _ _ _
    | exact Loc.mapOf _
    | exact Loc.lookupV _ _ _ _
    | exact Loc.updateV _ _ _ _
    | exact Loc.deleteV _ _ _
    | exact Loc.rangeObj _ _
    | exact Loc.rangeV _ _
    | exact Loc.nextStr _ _ _
    | exact Loc.nextMap _ _ _ _ _
    | exact Loc.nextV _ _
    | exact Loc.entryV _
    | exact Loc.elems _ _ _
    | exact Loc.giveUp _ _ _ _ _
    | exact Loc.writeBase _ _ _
    | exact Loc.appendV _ _ _ _
    | exact Loc.copyV _ _ _
    | exact Loc.lenB _ _
    | exact Loc.clearV _ _
    | exact Loc.builtinV _ _ _
    | exact Loc.toBytes _ _
    | exact Loc.toStr _ _
    | assumption
    | (refine Loc.bind ?_ (fun _ => ?_))
    | (refine Loc.have (fun _ _ => ?_))
    | (refine Loc.need (fun _ => ?_))
    | (refine Loc.ite (fun _ => ?_) (fun _ => ?_))
    | (rw [force_eq])
    | split

theorem Loc.fieldAddrV (s : TypeId) (f : Nat) (a : Addr) : Loc (fieldAddrV Γ s f a) := by
  unfold Go.Ideal.fieldAddrV
  repeat' first
    | exact Loc.pure _
    | exact Loc.fail
    | exact Loc.lift _
    | exact Loc.hget _
    | exact Loc.hread _ _ _
    | exact Loc.hwrite _ _ _
    | exact Loc.hset _ _
    | exact Loc.hkill _
    | exact Loc.hnew _ (by intro c h; cases h <;> simp)
    | exact Loc.readCells _ _
    | exact Loc.writeCells _ _
    | exact Loc.newCells _ _ _ _
    | exact Loc.ptrEq _ _
    | exact Loc.eqBool _ _
    | exact Loc.eqPtr _ _
    | exact Loc.eqSlice _ _
    | exact Loc.eqMap _ _
    | exact Loc.eqFunc _ _
    | exact Loc.eqOp _ _ _
    | exact Loc.eqAny _ _ _
    | exact Loc.addSym _ _ _ _ _
    | exact Loc.binInt _ _ _ _
    | exact Loc.binStr _ _ _
    | exact Loc.binOther _ _ _ _
    | exact Loc.binSym _ _ _ _
    | exact Loc.binSym8 _ _ _
    | exact Loc.binV _ _ _ _
    | exact Loc.loadV _ _
    | exact Loc.storeV _ _ _
    | exact Loc.tight _ _ _ _
    | exact Loc.sliceStr _ _ _ _
    | exact Loc.sliceArr _ _ _ _ _ _
    | exact Loc.sliceSl _ _ _ _ _ _ _
    | exact Loc.sliceV _ _ _ _ _
    | exact Loc.mapOf _
    | exact Loc.lookupV _ _ _ _
    | exact Loc.updateV _ _ _ _
    | exact Loc.deleteV _ _ _
    | exact Loc.rangeObj _ _
    | exact Loc.rangeV _ _
    | exact Loc.nextStr _ _ _
    | exact Loc.nextMap _ _ _ _ _
    | exact Loc.nextV _ _
    | exact Loc.entryV _
    | exact Loc.elems _ _ _
    | exact Loc.giveUp _ _ _ _ _
    | exact Loc.writeBase _ _ _
    | exact Loc.appendV _ _ _ _
    | exact Loc.copyV _ _ _
    | exact Loc.lenB _ _
    | exact Loc.clearV _ _
    | exact Loc.builtinV _ _ _
    | exact Loc.toBytes _ _
    | exact Loc.toStr _ _
    | exact Loc.convertV _ _ _
    | assumption
    | (refine Loc.bind ?_ (fun _ => ?_))
    | (refine Loc.have (fun _ _ => ?_))
    | (refine Loc.need (fun _ => ?_))
    | (refine Loc.ite (fun _ => ?_) (fun _ => ?_))
    | (rw [force_eq])
    | split

theorem Loc.fieldV (s : TypeId) (f : Nat) (a : Value) : Loc (fieldV Γ s f a) := by
  unfold Go.Ideal.fieldV
  repeat' first
    | exact Loc.pure _
    | exact Loc.fail
    | exact Loc.lift _
    | exact Loc.hget _
    | exact Loc.hread _ _ _
    | exact Loc.hwrite _ _ _
    | exact Loc.hset _ _
    | exact Loc.hkill _
    | exact Loc.hnew _ (by intro c h; cases h <;> simp)
    | exact Loc.readCells _ _
    | exact Loc.writeCells _ _
    | exact Loc.newCells _ _ _ _
    | exact Loc.ptrEq _ _
    | exact Loc.eqBool _ _
    | exact Loc.eqPtr _ _
    | exact Loc.eqSlice _ _
    | exact Loc.eqMap _ _
    | exact Loc.eqFunc _ _
    | exact Loc.eqOp _ _ _
    | exact Loc.eqAny _ _ _
    | exact Loc.addSym _ _ _ _ _
    | exact Loc.binInt _ _ _ _
    | exact Loc.binStr _ _ _
    | exact Loc.binOther _ _ _ _
    | exact Loc.binSym _ _ _ _
    | exact Loc.binSym8 _ _ _
    | exact Loc.binV _ _ _ _
    | exact Loc.loadV _ _
    | exact Loc.storeV _ _ _
    | exact Loc.tight _ _ _ _
    | exact Loc.sliceStr _ _ _ _
    | exact Loc.sliceArr _ _ _ _ _ _
    | exact Loc.sliceSl _ _ _ _ _ _ _
    | exact Loc.sliceV _ _ _ _ _
    | exact Loc.mapOf _
    | exact Loc.lookupV _ _ _ _
    | exact Loc.updateV _ _ _ _
    | exact Loc.deleteV _ _ _
    | exact Loc.rangeObj _ _
    | exact Loc.rangeV _ _
    | exact Loc.nextStr _ _ _
    | exact Loc.nextMap _ _ _ _ _
    | exact Loc.nextV _ _
    | exact Loc.entryV _
    | exact Loc.elems _ _ _
    | exact Loc.giveUp _ _ _ _ _
    | exact Loc.writeBase _ _ _
    | exact Loc.appendV _ _ _ _
    | exact Loc.copyV _ _ _
    | exact Loc.lenB _ _
    | exact Loc.clearV _ _
    | exact Loc.builtinV _ _ _
    | exact Loc.toBytes _ _
    | exact Loc.toStr _ _
    | exact Loc.convertV _ _ _
    | exact Loc.fieldAddrV _ _ _
    | assumption
    | (refine Loc.bind ?_ (fun _ => ?_))
    | (refine Loc.have (fun _ _ => ?_))
    | (refine Loc.need (fun _ => ?_))
    | (refine Loc.ite (fun _ => ?_) (fun _ => ?_))
    | (rw [force_eq])
    | split

theorem Loc.indexAddrV (s : TypeId) (f : Nat) (a : Value) : Loc (indexAddrV Γ s f a) := by
  unfold Go.Ideal.indexAddrV
  repeat' first
    | exact Loc.pure _
    | exact Loc.fail
    | exact Loc.lift _
    | exact Loc.hget _
    | exact Loc.hread _ _ _
    | exact Loc.hwrite _ _ _
    | exact Loc.hset _ _
    | exact Loc.hkill _
    | exact Loc.hnew _ (by intro c h; cases h <;> simp)
    | exact Loc.readCells _ _
    | exact Loc.writeCells _ _
    | exact Loc.newCells _ _ _ _
    | exact Loc.ptrEq _ _
    | exact Loc.eqBool _ _
    | exact Loc.eqPtr _ _
    | exact Loc.eqSlice _ _
    | exact Loc.eqMap _ _
    | exact Loc.eqFunc _ _
    | exact Loc.eqOp _ _ _
    | exact Loc.eqAny _ _ _
    | exact Loc.addSym _ _ _ _ _
    | exact Loc.binInt _ _ _ _
    | exact Loc.binStr _ _ _
    | exact Loc.binOther _ _ _ _
    | exact Loc.binSym _ _ _ _
    | exact Loc.binSym8 _ _ _
    | exact Loc.binV _ _ _ _
    | exact Loc.loadV _ _
    | exact Loc.storeV _ _ _
    | exact Loc.tight _ _ _ _
    | exact Loc.sliceStr _ _ _ _
    | exact Loc.sliceArr _ _ _ _ _ _
    | exact Loc.sliceSl _ _ _ _ _ _ _
    | exact Loc.sliceV _ _ _ _ _
    | exact Loc.mapOf _
    | exact Loc.lookupV _ _ _ _
    | exact Loc.updateV _ _ _ _
    | exact Loc.deleteV _ _ _
    | exact Loc.rangeObj _ _
    | exact Loc.rangeV _ _
    | exact Loc.nextStr _ _ _
    | exact Loc.nextMap _ _ _ _ _
    | exact Loc.nextV _ _
    | exact Loc.entryV _
    | exact Loc.elems _ _ _
    | exact Loc.giveUp _ _ _ _ _
    | exact Loc.writeBase _ _ _
    | exact Loc.appendV _ _ _ _
    | exact Loc.copyV _ _ _
    | exact Loc.lenB _ _
    | exact Loc.clearV _ _
    | exact Loc.builtinV _ _ _
    | exact Loc.toBytes _ _
    | exact Loc.toStr _ _
    | exact Loc.convertV _ _ _
    | exact Loc.fieldAddrV _ _ _
    | exact Loc.fieldV _ _ _
    | assumption
    | (refine Loc.bind ?_ (fun _ => ?_))
    | (refine Loc.have (fun _ _ => ?_))
    | (refine Loc.need (fun _ => ?_))
    | (refine Loc.ite (fun _ => ?_) (fun _ => ?_))
    | (rw [force_eq])
    | split

theorem Loc.indexV (s : TypeId) (f : Nat) (a : Value) : Loc (indexV Γ s f a) := by
  unfold Go.Ideal.indexV
  repeat' first
    | exact Loc.pure _
    | exact Loc.fail
    | exact Loc.lift _
    | exact Loc.hget _
    | exact Loc.hread _ _ _
    | exact Loc.hwrite _ _ _
    | exact Loc.hset _ _
    | exact Loc.hkill _
    | exact Loc.hnew _ (by intro c h; cases h <;> simp)
    | exact Loc.readCells _ _
    | exact Loc.writeCells _ _
    | exact Loc.newCells _ _ _ _
    | exact Loc.ptrEq _ _
    | exact Loc.eqBool _ _
    | exact Loc.eqPtr _ _
    | exact Loc.eqSlice _ _
    | exact Loc.eqMap _ _
    | exact Loc.eqFunc _ _
    | exact Loc.eqOp _ _ _
    | exact Loc.eqAny _ _ _
    | exact Loc.addSym _ _ _ _ _
    | exact Loc.binInt _ _ _ _
    | exact Loc.binStr _ _ _
    | exact Loc.binOther _ _ _ _
    | exact Loc.binSym _ _ _ _
    | exact Loc.binSym8 _ _ _
    | exact Loc.binV _ _ _ _
    | exact Loc.loadV _ _
    | exact Loc.storeV _ _ _
    | exact Loc.tight _ _ _ _
    | exact Loc.sliceStr _ _ _ _
    | exact Loc.sliceArr _ _ _ _ _ _
    | exact Loc.sliceSl _ _ _ _ _ _ _
    | exact Loc.sliceV _ _ _ _ _
    | exact Loc.mapOf _
    | exact Loc.lookupV _ _ _ _
    | exact Loc.updateV _ _ _ _
    | exact Loc.deleteV _ _ _
    | exact Loc.rangeObj _ _
    | exact Loc.rangeV _ _
    | exact Loc.nextStr _ _ _
    | exact Loc.nextMap _ _ _ _ _
    | exact Loc.nextV _ _
    | exact Loc.entryV _
    | exact Loc.elems _ _ _
    | exact Loc.giveUp _ _ _ _ _
    | exact Loc.writeBase _ _ _
    | exact Loc.appendV _ _ _ _
    | exact Loc.copyV _ _ _
    | exact Loc.lenB _ _
    | exact Loc.clearV _ _
    | exact Loc.builtinV _ _ _
    | exact Loc.toBytes _ _
    | exact Loc.toStr _ _
    | exact Loc.convertV _ _ _
    | exact Loc.fieldAddrV _ _ _
    | exact Loc.fieldV _ _ _
    | exact Loc.indexAddrV _ _ _
    | assumption
    | (refine Loc.bind ?_ (fun _ => ?_))
    | (refine Loc.have (fun _ _ => ?_))
    | (refine Loc.need (fun _ => ?_))
    | (refine Loc.ite (fun _ => ?_) (fun _ => ?_))
    | (rw [force_eq])
    | split

theorem Loc.cutV (t : TypeId) (x : Value) (a b c : Option Value) : Loc (cutV Γ t x a b c) := by
  unfold Go.Ideal.cutV
  repeat' first
    | exact Loc.pure _
    | exact Loc.fail
    | exact Loc.lift _
    | exact Loc.hget _
    | exact Loc.hread _ _ _
    | exact Loc.hwrite _ _ _
    | exact Loc.hset _ _
    | exact Loc.hkill _
    | exact Loc.hnew _ (by intro c h; cases h <;> simp)
    | exact Loc.readCells _ _
    | exact Loc.writeCells _ _
    | exact Loc.newCells _ _ _ _
    | exact Loc.ptrEq _ _
    | exact Loc.eqBool _ _
    | exact Loc.eqPtr _ _
    | exact Loc.eqSlice _ _
    | exact Loc.eqMap _ _
    | exact Loc.eqFunc _ _
    | exact Loc.eqOp _ _ _
    | exact Loc.eqAny _ _ _
    | exact Loc.addSym _ _ _ _ _
    | exact Loc.binInt _ _ _ _
    | exact Loc.binStr _ _ _
    | exact Loc.binOther _ _ _ _
    | exact Loc.binSym _ _ _ _
    | exact Loc.binSym8 _ _ _
    | exact Loc.binV _ _ _ _
    | exact Loc.loadV _ _
    | exact Loc.storeV _ _ _
    | exact Loc.tight _ _ _ _
    | exact Loc.sliceStr _ _ _ _
    | exact Loc.sliceArr _ _ _ _ _ _
    | exact Loc.sliceSl _ _ _ _ _ _ _
    | exact Loc.sliceV _ _ _ _ _
    | exact Loc.mapOf _
    | exact Loc.lookupV _ _ _ _
    | exact Loc.updateV _ _ _ _
    | exact Loc.deleteV _ _ _
    | exact Loc.rangeObj _ _
    | exact Loc.rangeV _ _
    | exact Loc.nextStr _ _ _
    | exact Loc.nextMap _ _ _ _ _
    | exact Loc.nextV _ _
    | exact Loc.entryV _
    | exact Loc.elems _ _ _
    | exact Loc.giveUp _ _ _ _ _
    | exact Loc.writeBase _ _ _
    | exact Loc.appendV _ _ _ _
    | exact Loc.copyV _ _ _
    | exact Loc.lenB _ _
    | exact Loc.clearV _ _
    | exact Loc.builtinV _ _ _
    | exact Loc.toBytes _ _
    | exact Loc.toStr _ _
    | exact Loc.convertV _ _ _
    | exact Loc.fieldAddrV _ _ _
    | exact Loc.fieldV _ _ _
    | exact Loc.indexAddrV _ _ _
    | exact Loc.indexV _ _ _
    | assumption
    | (refine Loc.bind ?_ (fun _ => ?_))
    | (refine Loc.have (fun _ _ => ?_))
    | (refine Loc.need (fun _ => ?_))
    | (refine Loc.ite (fun _ => ?_) (fun _ => ?_))
    | (rw [force_eq])
    | split

theorem Loc.buildSliceV (s : TypeId) (f : Nat) (a : List (Nat × Value)) : Loc (buildSliceV Γ s f a) := by
  unfold Go.Ideal.buildSliceV
  repeat' first
    | exact Loc.pure _
    | exact Loc.fail
    | exact Loc.lift _
    | exact Loc.hget _
    | exact Loc.hread _ _ _
    | exact Loc.hwrite _ _ _
    | exact Loc.hset _ _
    | exact Loc.hkill _
    | exact Loc.hnew _ (by intro c h; cases h <;> simp)
    | exact Loc.readCells _ _
    | exact Loc.writeCells _ _
    | exact Loc.newCells _ _ _ _
    | exact Loc.ptrEq _ _
    | exact Loc.eqBool _ _
    | exact Loc.eqPtr _ _
    | exact Loc.eqSlice _ _
    | exact Loc.eqMap _ _
    | exact Loc.eqFunc _ _
    | exact Loc.eqOp _ _ _
    | exact Loc.eqAny _ _ _
    | exact Loc.addSym _ _ _ _ _
    | exact Loc.binInt _ _ _ _
    | exact Loc.binStr _ _ _
    | exact Loc.binOther _ _ _ _
    | exact Loc.binSym _ _ _ _
    | exact Loc.binSym8 _ _ _
    | exact Loc.binV _ _ _ _
    | exact Loc.loadV _ _
    | exact Loc.storeV _ _ _
    | exact Loc.tight _ _ _ _
    | exact Loc.sliceStr _ _ _ _
    | exact Loc.sliceArr _ _ _ _ _ _
    | exact Loc.sliceSl _ _ _ _ _ _ _
    | exact Loc.sliceV _ _ _ _ _
    | exact Loc.mapOf _
    | exact Loc.lookupV _ _ _ _
    | exact Loc.updateV _ _ _ _
    | exact Loc.deleteV _ _ _
    | exact Loc.rangeObj _ _
    | exact Loc.rangeV _ _
    | exact Loc.nextStr _ _ _
    | exact Loc.nextMap _ _ _ _ _
    | exact Loc.nextV _ _
    | exact Loc.entryV _
    | exact Loc.elems _ _ _
    | exact Loc.giveUp _ _ _ _ _
    | exact Loc.writeBase _ _ _
    | exact Loc.appendV _ _ _ _
    | exact Loc.copyV _ _ _
    | exact Loc.lenB _ _
    | exact Loc.clearV _ _
    | exact Loc.builtinV _ _ _
    | exact Loc.toBytes _ _
    | exact Loc.toStr _ _
    | exact Loc.convertV _ _ _
    | exact Loc.fieldAddrV _ _ _
    | exact Loc.fieldV _ _ _
    | exact Loc.indexAddrV _ _ _
    | exact Loc.indexV _ _ _
    | exact Loc.cutV _ _ _ _ _
    | assumption
    | (refine Loc.bind ?_ (fun _ => ?_))
    | (refine Loc.have (fun _ _ => ?_))
    | (refine Loc.need (fun _ => ?_))
    | (refine Loc.ite (fun _ => ?_) (fun _ => ?_))
    | (rw [force_eq])
    | split

theorem Loc.makeSliceV (s : TypeId) (f g : Nat) : Loc (makeSliceV Γ s f g) := by
  unfold Go.Ideal.makeSliceV
  repeat' first
    | exact Loc.pure _
    | exact Loc.fail
    | exact Loc.lift _
    | exact Loc.hget _
    | exact Loc.hread _ _ _
    | exact Loc.hwrite _ _ _
    | exact Loc.hset _ _
    | exact Loc.hkill _
    | exact Loc.hnew _ (by intro c h; cases h <;> simp)
    | exact Loc.readCells _ _
    | exact Loc.writeCells _ _
    | exact Loc.newCells _ _ _ _
    | exact Loc.ptrEq _ _
    | exact Loc.eqBool _ _
    | exact Loc.eqPtr _ _
    | exact Loc.eqSlice _ _
    | exact Loc.eqMap _ _
    | exact Loc.eqFunc _ _
    | exact Loc.eqOp _ _ _
    | exact Loc.eqAny _ _ _
    | exact Loc.addSym _ _ _ _ _
    | exact Loc.binInt _ _ _ _
    | exact Loc.binStr _ _ _
    | exact Loc.binOther _ _ _ _
    | exact Loc.binSym _ _ _ _
    | exact Loc.binSym8 _ _ _
    | exact Loc.binV _ _ _ _
    | exact Loc.loadV _ _
    | exact Loc.storeV _ _ _
    | exact Loc.tight _ _ _ _
    | exact Loc.sliceStr _ _ _ _
    | exact Loc.sliceArr _ _ _ _ _ _
    | exact Loc.sliceSl _ _ _ _ _ _ _
    | exact Loc.sliceV _ _ _ _ _
    | exact Loc.mapOf _
    | exact Loc.lookupV _ _ _ _
    | exact Loc.updateV _ _ _ _
    | exact Loc.deleteV _ _ _
    | exact Loc.rangeObj _ _
    | exact Loc.rangeV _ _
    | exact Loc.nextStr _ _ _
    | exact Loc.nextMap _ _ _ _ _
    | exact Loc.nextV _ _
    | exact Loc.entryV _
    | exact Loc.elems _ _ _
    | exact Loc.giveUp _ _ _ _ _
    | exact Loc.writeBase _ _ _
    | exact Loc.appendV _ _ _ _
    | exact Loc.copyV _ _ _
    | exact Loc.lenB _ _
    | exact Loc.clearV _ _
    | exact Loc.builtinV _ _ _
    | exact Loc.toBytes _ _
    | exact Loc.toStr _ _
    | exact Loc.convertV _ _ _
    | exact Loc.fieldAddrV _ _ _
    | exact Loc.fieldV _ _ _
    | exact Loc.indexAddrV _ _ _
    | exact Loc.indexV _ _ _
    | exact Loc.cutV _ _ _ _ _
    | exact Loc.buildSliceV _ _ _
    | assumption
    | (refine Loc.bind ?_ (fun _ => ?_))
    | (refine Loc.have (fun _ _ => ?_))
    | (refine Loc.need (fun _ => ?_))
    | (refine Loc.ite (fun _ => ?_) (fun _ => ?_))
    | (rw [force_eq])
    | split

theorem Loc.makeChanV (t : TypeId) (n : Nat) : Loc (makeChanV Γ t n) := by
  unfold Go.Ideal.makeChanV
  repeat' first
    | exact Loc.pure _
    | exact Loc.fail
    | exact Loc.lift _
    | exact Loc.hget _
    | exact Loc.hread _ _ _
    | exact Loc.hwrite _ _ _
    | exact Loc.hset _ _
    | exact Loc.hkill _
    | exact Loc.hnew _ (by intro c h; cases h <;> simp)
    | exact Loc.readCells _ _
    | exact Loc.writeCells _ _
    | exact Loc.newCells _ _ _ _
    | exact Loc.ptrEq _ _
    | exact Loc.eqBool _ _
    | exact Loc.eqPtr _ _
    | exact Loc.eqSlice _ _
    | exact Loc.eqMap _ _
    | exact Loc.eqFunc _ _
    | exact Loc.eqOp _ _ _
    | exact Loc.eqAny _ _ _
    | exact Loc.addSym _ _ _ _ _
    | exact Loc.binInt _ _ _ _
    | exact Loc.binStr _ _ _
    | exact Loc.binOther _ _ _ _
    | exact Loc.binSym _ _ _ _
    | exact Loc.binSym8 _ _ _
    | exact Loc.binV _ _ _ _
    | exact Loc.loadV _ _
    | exact Loc.storeV _ _ _
    | exact Loc.tight _ _ _ _
    | exact Loc.sliceStr _ _ _ _
    | exact Loc.sliceArr _ _ _ _ _ _
    | exact Loc.sliceSl _ _ _ _ _ _ _
    | exact Loc.sliceV _ _ _ _ _
    | exact Loc.mapOf _
    | exact Loc.lookupV _ _ _ _
    | exact Loc.updateV _ _ _ _
    | exact Loc.deleteV _ _ _
    | exact Loc.rangeObj _ _
    | exact Loc.rangeV _ _
    | exact Loc.nextStr _ _ _
    | exact Loc.nextMap _ _ _ _ _
    | exact Loc.nextV _ _
    | exact Loc.entryV _
    | exact Loc.elems _ _ _
    | exact Loc.giveUp _ _ _ _ _
    | exact Loc.writeBase _ _ _
    | exact Loc.appendV _ _ _ _
    | exact Loc.copyV _ _ _
    | exact Loc.lenB _ _
    | exact Loc.clearV _ _
    | exact Loc.builtinV _ _ _
    | exact Loc.toBytes _ _
    | exact Loc.toStr _ _
    | exact Loc.convertV _ _ _
    | exact Loc.fieldAddrV _ _ _
    | exact Loc.fieldV _ _ _
    | exact Loc.indexAddrV _ _ _
    | exact Loc.indexV _ _ _
    | exact Loc.cutV _ _ _ _ _
    | exact Loc.buildSliceV _ _ _
    | exact Loc.makeSliceV _ _ _
    | assumption
    | (refine Loc.bind ?_ (fun _ => ?_))
    | (refine Loc.have (fun _ _ => ?_))
    | (refine Loc.need (fun _ => ?_))
    | (refine Loc.ite (fun _ => ?_) (fun _ => ?_))
    | (rw [force_eq])
    | split

theorem Loc.makeSym (t : TypeId) (lo hi : Nat) : Loc (makeSym Γ t lo hi) := by
  unfold Go.Ideal.makeSym
  exact Loc.have (fun _ _ => Loc.have (fun _ _ => Loc.have (fun _ _ => Loc.need (fun _ => Loc.pure _))))

theorem Loc.makeAny (t : TypeId) (l c : Operand) (a b : Value) : Loc (makeAny Γ t l c a b) := by
  unfold Go.Ideal.makeAny
  split
  · exact Loc.need (fun _ => Loc.makeSym _ _ _)
  · exact Loc.have (fun _ _ => Loc.have (fun _ _ => Loc.makeSliceV _ _ _))

theorem Loc.plainOp (op : Op) (T : Env) : Loc (plainOp op Γ T) := by
  unfold Go.Ideal.plainOp
  repeat' first
    | exact Loc.pure _
    | exact Loc.fail
    | exact Loc.lift _
    | exact Loc.hget _
    | exact Loc.hread _ _ _
    | exact Loc.hwrite _ _ _
    | exact Loc.hset _ _
    | exact Loc.hkill _
    | exact Loc.hnew _ (by intro c h; cases h <;> simp)
    | exact Loc.makeSym _ _ _
    | exact Loc.makeAny _ _ _ _ _
    | exact Loc.readCells _ _
    | exact Loc.writeCells _ _
    | exact Loc.newCells _ _ _ _
    | exact Loc.ptrEq _ _
    | exact Loc.eqBool _ _
    | exact Loc.eqPtr _ _
    | exact Loc.eqSlice _ _
    | exact Loc.eqMap _ _
    | exact Loc.eqFunc _ _
    | exact Loc.eqOp _ _ _
    | exact Loc.eqAny _ _ _
    | exact Loc.addSym _ _ _ _ _
    | exact Loc.binInt _ _ _ _
    | exact Loc.binStr _ _ _
    | exact Loc.binOther _ _ _ _
    | exact Loc.binSym _ _ _ _
    | exact Loc.binSym8 _ _ _
    | exact Loc.binV _ _ _ _
    | exact Loc.loadV _ _
    | exact Loc.storeV _ _ _
    | exact Loc.tight _ _ _ _
    | exact Loc.sliceStr _ _ _ _
    | exact Loc.sliceArr _ _ _ _ _ _
    | exact Loc.sliceSl _ _ _ _ _ _ _
    | exact Loc.sliceV _ _ _ _ _
    | exact Loc.mapOf _
    | exact Loc.lookupV _ _ _ _
    | exact Loc.updateV _ _ _ _
    | exact Loc.deleteV _ _ _
    | exact Loc.rangeObj _ _
    | exact Loc.rangeV _ _
    | exact Loc.nextStr _ _ _
    | exact Loc.nextMap _ _ _ _ _
    | exact Loc.nextV _ _
    | exact Loc.entryV _
    | exact Loc.elems _ _ _
    | exact Loc.giveUp _ _ _ _ _
    | exact Loc.writeBase _ _ _
    | exact Loc.appendV _ _ _ _
    | exact Loc.copyV _ _ _
    | exact Loc.lenB _ _
    | exact Loc.clearV _ _
    | exact Loc.builtinV _ _ _
    | exact Loc.toBytes _ _
    | exact Loc.toStr _ _
    | exact Loc.convertV _ _ _
    | exact Loc.fieldAddrV _ _ _
    | exact Loc.fieldV _ _ _
    | exact Loc.indexAddrV _ _ _
    | exact Loc.indexV _ _ _
    | exact Loc.cutV _ _ _ _ _
    | exact Loc.buildSliceV _ _ _
    | exact Loc.makeSliceV _ _ _
    | exact Loc.makeChanV _ _
    | assumption
    | (refine Loc.bind ?_ (fun _ => ?_))
    | (refine Loc.have (fun _ _ => ?_))
    | (refine Loc.need (fun _ => ?_))
    | (refine Loc.ite (fun _ => ?_) (fun _ => ?_))
    | (rw [force_eq])
    | split

theorem Loc.callV {call : CallF} (hcall : ∀ b f as, Loc (call b f as)) (as : List Value) (v : Value) : Loc (callV call as v) := by
  unfold Go.Ideal.callV
  repeat' first
    | exact Loc.pure _
    | exact Loc.fail
    | exact Loc.lift _
    | exact Loc.hget _
    | exact Loc.hread _ _ _
    | exact Loc.hwrite _ _ _
    | exact Loc.hset _ _
    | exact Loc.hkill _
    | exact Loc.hnew _ (by intro c h; cases h <;> simp)
    | exact hcall _ _ _
    | assumption
    | (refine Loc.bind ?_ (fun _ => ?_))
    | (refine Loc.have (fun _ _ => ?_))
    | (refine Loc.need (fun _ => ?_))
    | (refine Loc.ite (fun _ => ?_) (fun _ => ?_))
    | (rw [force_eq])
    | split

theorem Loc.callOp {call : CallF} (hcall : ∀ b f as, Loc (call b f as)) (k : Call) (T : Env) : Loc (callOp k Γ call T) := by
  obtain ⟨callee, as, ts⟩ := k
  cases callee with
  | value f => exact Loc.have (fun v _ => Loc.have (fun as _ => Loc.callV hcall _ _))
  | invoke r m => exact Loc.fail
  | builtin b => exact Loc.have (fun as _ => Loc.builtinV _ _ _)

theorem Loc.anyOp {call : CallF} (hcall : ∀ b f as, Loc (call b f as)) (op : Op) (T : Env) : Loc (anyOp op Γ call T) := by
  unfold Go.Ideal.anyOp
  repeat' first
    | exact Loc.pure _
    | exact Loc.fail
    | exact Loc.lift _
    | exact Loc.hget _
    | exact Loc.hread _ _ _
    | exact Loc.hwrite _ _ _
    | exact Loc.hset _ _
    | exact Loc.hkill _
    | exact Loc.hnew _ (by intro c h; cases h <;> simp)
    | exact Loc.makeSym _ _ _
    | exact Loc.makeAny _ _ _ _ _
    | exact Loc.readCells _ _
    | exact Loc.writeCells _ _
    | exact Loc.newCells _ _ _ _
    | exact Loc.ptrEq _ _
    | exact Loc.eqBool _ _
    | exact Loc.eqPtr _ _
    | exact Loc.eqSlice _ _
    | exact Loc.eqMap _ _
    | exact Loc.eqFunc _ _
    | exact Loc.eqOp _ _ _
    | exact Loc.eqAny _ _ _
    | exact Loc.addSym _ _ _ _ _
    | exact Loc.binInt _ _ _ _
    | exact Loc.binStr _ _ _
    | exact Loc.binOther _ _ _ _
    | exact Loc.binSym _ _ _ _
    | exact Loc.binSym8 _ _ _
    | exact Loc.binV _ _ _ _
    | exact Loc.loadV _ _
    | exact Loc.storeV _ _ _
    | exact Loc.tight _ _ _ _
    | exact Loc.sliceStr _ _ _ _
    | exact Loc.sliceArr _ _ _ _ _ _
    | exact Loc.sliceSl _ _ _ _ _ _ _
    | exact Loc.sliceV _ _ _ _ _
    | exact Loc.mapOf _
    | exact Loc.lookupV _ _ _ _
    | exact Loc.updateV _ _ _ _
    | exact Loc.deleteV _ _ _
    | exact Loc.rangeObj _ _
    | exact Loc.rangeV _ _
    | exact Loc.nextStr _ _ _
    | exact Loc.nextMap _ _ _ _ _
    | exact Loc.nextV _ _
    | exact Loc.entryV _
    | exact Loc.elems _ _ _
    | exact Loc.giveUp _ _ _ _ _
    | exact Loc.writeBase _ _ _
    | exact Loc.appendV _ _ _ _
    | exact Loc.copyV _ _ _
    | exact Loc.lenB _ _
    | exact Loc.clearV _ _
    | exact Loc.builtinV _ _ _
    | exact Loc.toBytes _ _
    | exact Loc.toStr _ _
    | exact Loc.convertV _ _ _
    | exact Loc.fieldAddrV _ _ _
    | exact Loc.fieldV _ _ _
    | exact Loc.indexAddrV _ _ _
    | exact Loc.indexV _ _ _
    | exact Loc.cutV _ _ _ _ _
    | exact Loc.buildSliceV _ _ _
    | exact Loc.makeSliceV _ _ _
    | exact Loc.makeChanV _ _
    | exact Loc.plainOp _ _
    | exact Loc.callV hcall _ _
    | exact Loc.callOp hcall _ _
    | assumption
    | (refine Loc.bind ?_ (fun _ => ?_))
    | (refine Loc.have (fun _ _ => ?_))
    | (refine Loc.need (fun _ => ?_))
    | (refine Loc.ite (fun _ => ?_) (fun _ => ?_))
    | (rw [force_eq])
    | split

theorem Loc.runOps {call : CallF} (hcall : ∀ b f as, Loc (call b f as)) (size : Nat) (ops : Array Oper) (l : List Oper) (T : Env) : Loc (runOps Γ call size ops l T) := by
  induction l generalizing T with
  | nil => exact Loc.pure _
  | cons o rest ih =>
    unfold Go.Ideal.runOps
    refine Loc.have (fun b _ => Loc.ite (fun _ => Loc.bind (Loc.anyOp hcall _ _) (fun v => Loc.have (fun T' _ => ih T'))) (fun _ => Loc.have (fun T' _ => ih T')))

theorem Loc.runDraw {call : CallF} (hcall : ∀ b f as, Loc (call b f as)) (size : Nat) (ops : Array Oper) (l : List (Oper × Nat × Nat)) (seen : List (Nat × Foot)) (T : Env) : Loc (runDraw Γ call size ops l seen T) := by
  induction l generalizing seen T with
  | nil => exact Loc.pure _
  | cons o rest ih =>
    unfold Go.Ideal.runDraw
    refine Loc.have (fun b _ => Loc.ite (fun _ => Loc.bind (Loc.fresh (Loc.anyOp hcall _ _)) (fun v => Loc.need (fun _ => Loc.have (fun T' _ => ih _ T')))) (fun _ => Loc.have (fun T' _ => ih _ T')))

theorem runRegion_text (ops : Array Oper) (call : CallF) (F : Fm) :
    runRegion false ops Γ call F = EM.bind (runOps Γ call F.size ops ops.toList F.T) fun T => EM.pure (.normal, { F with T := T }) := rfl
theorem runRegion_draw (ops : Array Oper) (call : CallF) (F : Fm) (h : (dstsOk ops.toList 0 && regionOk ops (numbered ops) []) = true) :
    runRegion true ops Γ call F = EM.bind (runDraw Γ call F.size ops (numbered ops) [] F.T) fun T => EM.pure (.normal, { F with T := T }) := by
  show (bif dstsOk ops.toList 0 && regionOk ops (numbered ops) [] then _ else _ : Cx → CallF → Fm → EM (Ex × Fm)) Γ call F = _
  rw [h]; rfl
theorem runRegion_not (ops : Array Oper) (call : CallF) (F : Fm) (h : (dstsOk ops.toList 0 && regionOk ops (numbered ops) []) = false) : runRegion true ops Γ call F = EM.fail := by
  show (bif dstsOk ops.toList 0 && regionOk ops (numbered ops) [] then _ else _ : Cx → CallF → Fm → EM (Ex × Fm)) Γ call F = _
  rw [h]; rfl

theorem Loc.runRegion {call : CallF} (hcall : ∀ b f as, Loc (call b f as)) (draw : Bool) (ops : Array Oper) (F : Fm) : Loc (runRegion draw ops Γ call F) := by
  cases draw with
  | false => rw [runRegion_text]; exact Loc.bind (Loc.runOps hcall _ _ _ _) (fun _ => Loc.pure _)
  | true =>
    cases hd : dstsOk ops.toList 0 && regionOk ops (numbered ops) [] with
    | false => rw [runRegion_not _ _ _ hd]; exact Loc.fail
    | true => rw [runRegion_draw _ _ _ hd]; exact Loc.bind (Loc.runDraw hcall _ _ _ _ _) (fun _ => Loc.pure _)

theorem Loc.markFor (F : Fm) : Loc (markFor F) := by
  unfold Go.Ideal.markFor
  repeat' first
    | exact Loc.pure _
    | exact Loc.fail
    | exact Loc.lift _
    | exact Loc.hget _
    | exact Loc.hread _ _ _
    | exact Loc.hwrite _ _ _
    | exact Loc.hset _ _
    | exact Loc.hkill _
    | exact Loc.hnew _ (by intro c h; cases h <;> simp)
    | exact Loc.makeSym _ _ _
    | exact Loc.makeAny _ _ _ _ _
    | exact Loc.readCells _ _
    | exact Loc.writeCells _ _
    | exact Loc.newCells _ _ _ _
    | exact Loc.ptrEq _ _
    | exact Loc.eqBool _ _
    | exact Loc.eqPtr _ _
    | exact Loc.eqSlice _ _
    | exact Loc.eqMap _ _
    | exact Loc.eqFunc _ _
    | exact Loc.eqOp _ _ _
    | exact Loc.eqAny _ _ _
    | exact Loc.addSym _ _ _ _ _
    | exact Loc.binInt _ _ _ _
    | exact Loc.binStr _ _ _
    | exact Loc.binOther _ _ _ _
    | exact Loc.binSym _ _ _ _
    | exact Loc.binSym8 _ _ _
    | exact Loc.binV _ _ _ _
    | exact Loc.loadV _ _
    | exact Loc.storeV _ _ _
    | exact Loc.tight _ _ _ _
    | exact Loc.sliceStr _ _ _ _
    | exact Loc.sliceArr _ _ _ _ _ _
    | exact Loc.sliceSl _ _ _ _ _ _ _
    | exact Loc.sliceV _ _ _ _ _
    | exact Loc.mapOf _
    | exact Loc.lookupV _ _ _ _
    | exact Loc.updateV _ _ _ _
    | exact Loc.deleteV _ _ _
    | exact Loc.rangeObj _ _
    | exact Loc.rangeV _ _
    | exact Loc.nextStr _ _ _
    | exact Loc.nextMap _ _ _ _ _
    | exact Loc.nextV _ _
    | exact Loc.entryV _
    | exact Loc.elems _ _ _
    | exact Loc.giveUp _ _ _ _ _
    | exact Loc.writeBase _ _ _
    | exact Loc.appendV _ _ _ _
    | exact Loc.copyV _ _ _
    | exact Loc.lenB _ _
    | exact Loc.clearV _ _
    | exact Loc.builtinV _ _ _
    | exact Loc.toBytes _ _
    | exact Loc.toStr _ _
    | exact Loc.convertV _ _ _
    | exact Loc.fieldAddrV _ _ _
    | exact Loc.fieldV _ _ _
    | exact Loc.indexAddrV _ _ _
    | exact Loc.indexV _ _ _
    | exact Loc.cutV _ _ _ _ _
    | exact Loc.buildSliceV _ _ _
    | exact Loc.makeSliceV _ _ _
    | exact Loc.makeChanV _ _
    | exact Loc.plainOp _ _
    | exact Loc.callV hcall _ _
    | exact Loc.callOp hcall _ _
    | exact Loc.anyOp hcall _ _
    | exact Loc.runOps hcall _ _ _ _
    | exact Loc.runDraw hcall _ _ _ _ _
    | exact Loc.runRegion hcall _ _ _
    | assumption
    | (refine Loc.bind ?_ (fun _ => ?_))
    | (refine Loc.have (fun _ _ => ?_))
    | (refine Loc.need (fun _ => ?_))
    | (refine Loc.ite (fun _ => ?_) (fun _ => ?_))
    | (rw [force_eq])
    | split

theorem Loc.endRange (F : Fm) (l : Nat) : Loc (endRange F l) := by
  unfold Go.Ideal.endRange
  repeat' first
    | exact Loc.pure _
    | exact Loc.fail
    | exact Loc.lift _
    | exact Loc.hget _
    | exact Loc.hread _ _ _
    | exact Loc.hwrite _ _ _
    | exact Loc.hset _ _
    | exact Loc.hkill _
    | exact Loc.hnew _ (by intro c h; cases h <;> simp)
    | exact Loc.makeSym _ _ _
    | exact Loc.makeAny _ _ _ _ _
    | exact Loc.readCells _ _
    | exact Loc.writeCells _ _
    | exact Loc.newCells _ _ _ _
    | exact Loc.ptrEq _ _
    | exact Loc.eqBool _ _
    | exact Loc.eqPtr _ _
    | exact Loc.eqSlice _ _
    | exact Loc.eqMap _ _
    | exact Loc.eqFunc _ _
    | exact Loc.eqOp _ _ _
    | exact Loc.eqAny _ _ _
    | exact Loc.addSym _ _ _ _ _
    | exact Loc.binInt _ _ _ _
    | exact Loc.binStr _ _ _
    | exact Loc.binOther _ _ _ _
    | exact Loc.binSym _ _ _ _
    | exact Loc.binSym8 _ _ _
    | exact Loc.binV _ _ _ _
    | exact Loc.loadV _ _
    | exact Loc.storeV _ _ _
    | exact Loc.tight _ _ _ _
    | exact Loc.sliceStr _ _ _ _
    | exact Loc.sliceArr _ _ _ _ _ _
    | exact Loc.sliceSl _ _ _ _ _ _ _
    | exact Loc.sliceV _ _ _ _ _
    | exact Loc.mapOf _
    | exact Loc.lookupV _ _ _ _
    | exact Loc.updateV _ _ _ _
    | exact Loc.deleteV _ _ _
    | exact Loc.rangeObj _ _
    | exact Loc.rangeV _ _
    | exact Loc.nextStr _ _ _
    | exact Loc.nextMap _ _ _ _ _
    | exact Loc.nextV _ _
    | exact Loc.entryV _
    | exact Loc.elems _ _ _
    | exact Loc.giveUp _ _ _ _ _
    | exact Loc.writeBase _ _ _
    | exact Loc.appendV _ _ _ _
    | exact Loc.copyV _ _ _
    | exact Loc.lenB _ _
    | exact Loc.clearV _ _
    | exact Loc.builtinV _ _ _
    | exact Loc.toBytes _ _
    | exact Loc.toStr _ _
    | exact Loc.convertV _ _ _
    | exact Loc.fieldAddrV _ _ _
    | exact Loc.fieldV _ _ _
    | exact Loc.indexAddrV _ _ _
    | exact Loc.indexV _ _ _
    | exact Loc.cutV _ _ _ _ _
    | exact Loc.buildSliceV _ _ _
    | exact Loc.makeSliceV _ _ _
    | exact Loc.makeChanV _ _
    | exact Loc.plainOp _ _
    | exact Loc.callV hcall _ _
    | exact Loc.callOp hcall _ _
    | exact Loc.anyOp hcall _ _
    | exact Loc.runOps hcall _ _ _ _
    | exact Loc.runDraw hcall _ _ _ _ _
    | exact Loc.runRegion hcall _ _ _
    | exact Loc.markFor _
    | assumption
    | (refine Loc.bind ?_ (fun _ => ?_))
    | (refine Loc.have (fun _ _ => ?_))
    | (refine Loc.need (fun _ => ?_))
    | (refine Loc.ite (fun _ => ?_) (fun _ => ?_))
    | (rw [force_eq])
    | split

theorem Loc.runRange {call : CallF} (hcall : ∀ b f as, Loc (call b f as)) (f : Operand) (ps : Array Tmp) (a b : Code) (F : Fm) : Loc (runRange f ps a b call F) := by
  unfold Go.Ideal.runRange
  repeat' first
    | exact Loc.pure _
    | exact Loc.fail
    | exact Loc.lift _
    | exact Loc.hget _
    | exact Loc.hread _ _ _
    | exact Loc.hwrite _ _ _
    | exact Loc.hset _ _
    | exact Loc.hkill _
    | exact Loc.hnew _ (by intro c h; cases h <;> simp)
    | exact Loc.makeSym _ _ _
    | exact Loc.makeAny _ _ _ _ _
    | exact Loc.readCells _ _
    | exact Loc.writeCells _ _
    | exact Loc.newCells _ _ _ _
    | exact Loc.ptrEq _ _
    | exact Loc.eqBool _ _
    | exact Loc.eqPtr _ _
    | exact Loc.eqSlice _ _
    | exact Loc.eqMap _ _
    | exact Loc.eqFunc _ _
    | exact Loc.eqOp _ _ _
    | exact Loc.eqAny _ _ _
    | exact Loc.addSym _ _ _ _ _
    | exact Loc.binInt _ _ _ _
    | exact Loc.binStr _ _ _
    | exact Loc.binOther _ _ _ _
    | exact Loc.binSym _ _ _ _
    | exact Loc.binSym8 _ _ _
    | exact Loc.binV _ _ _ _
    | exact Loc.loadV _ _
    | exact Loc.storeV _ _ _
    | exact Loc.tight _ _ _ _
    | exact Loc.sliceStr _ _ _ _
    | exact Loc.sliceArr _ _ _ _ _ _
    | exact Loc.sliceSl _ _ _ _ _ _ _
    | exact Loc.sliceV _ _ _ _ _
    | exact Loc.mapOf _
    | exact Loc.lookupV _ _ _ _
    | exact Loc.updateV _ _ _ _
    | exact Loc.deleteV _ _ _
    | exact Loc.rangeObj _ _
    | exact Loc.rangeV _ _
    | exact Loc.nextStr _ _ _
    | exact Loc.nextMap _ _ _ _ _
    | exact Loc.nextV _ _
    | exact Loc.entryV _
    | exact Loc.elems _ _ _
    | exact Loc.giveUp _ _ _ _ _
    | exact Loc.writeBase _ _ _
    | exact Loc.appendV _ _ _ _
    | exact Loc.copyV _ _ _
    | exact Loc.lenB _ _
    | exact Loc.clearV _ _
    | exact Loc.builtinV _ _ _
    | exact Loc.toBytes _ _
    | exact Loc.toStr _ _
    | exact Loc.convertV _ _ _
    | exact Loc.fieldAddrV _ _ _
    | exact Loc.fieldV _ _ _
    | exact Loc.indexAddrV _ _ _
    | exact Loc.indexV _ _ _
    | exact Loc.cutV _ _ _ _ _
    | exact Loc.buildSliceV _ _ _
    | exact Loc.makeSliceV _ _ _
    | exact Loc.makeChanV _ _
    | exact Loc.plainOp _ _
    | exact Loc.callV hcall _ _
    | exact Loc.callOp hcall _ _
    | exact Loc.anyOp hcall _ _
    | exact Loc.runOps hcall _ _ _ _
    | exact Loc.runDraw hcall _ _ _ _ _
    | exact Loc.runRegion hcall _ _ _
    | exact Loc.markFor _
    | exact Loc.endRange _ _
    | assumption
    | (refine Loc.bind ?_ (fun _ => ?_))
    | (refine Loc.have (fun _ _ => ?_))
    | (refine Loc.need (fun _ => ?_))
    | (refine Loc.ite (fun _ => ?_) (fun _ => ?_))
    | (rw [force_eq])
    | split

theorem Loc.andThen {k : Fm → EM (Ex × Fm)} (hk : ∀ F, Loc (k F)) (r : Ex × Fm) : Loc (andThen k r) := by
  unfold Go.Ideal.andThen
  split
  · exact hk _
  · exact Loc.pure _
theorem Loc.outOf (id : Nat) (r : Ex × Fm) : Loc (outOf id r) := by
  unfold Go.Ideal.outOf
  split
  · exact Loc.ite (fun _ => Loc.pure _) (fun _ => Loc.pure _)
  · exact Loc.pure _
theorem runLoop_zero (body : Fm → EM (Ex × Fm)) (F : Fm) : runLoop body 0 F = EM.fail := rfl
theorem runLoop_succ (body : Fm → EM (Ex × Fm)) (n : Nat) (F : Fm) : runLoop body (n + 1) F = EM.bind (body F) (andThen (runLoop body n)) := rfl
theorem Loc.runLoop {body : Fm → EM (Ex × Fm)} (hb : ∀ F, Loc (body F)) (n : Nat) (F : Fm) : Loc (runLoop body n F) := by
  induction n generalizing F with
  | zero => exact Loc.fail
  | succ n ih => rw [runLoop_succ]; exact Loc.bind (hb F) (Loc.andThen ih)
theorem Loc.runCode {call : CallF} (hcall : ∀ b f as, Loc (call b f as)) (c : Code) : ∀ (n : Nat) (F : Fm), Loc (runCode c Γ call n F) := by
  induction c with
  | skip => intro n F; exact Loc.pure _
  | region id ops draw => intro n F; exact Loc.runRegion hcall _ _ _
  | seq a b iha ihb => intro n F; exact Loc.bind (iha n F) (Loc.andThen (fun F' => ihb n F'))
  | cond c x y ihx ihy =>
    intro n F
    refine Loc.have (fun v _ => Loc.have (fun b _ => ?_))
    cases b
    · exact ihy n F
    · exact ihx n F
  | block id c ih => intro n F; exact Loc.bind (ih n F) (Loc.outOf id)
  | loop c ih => intro n F; exact Loc.runLoop (fun F' => ih n F') n F
  | rangeFunc f ps a b _ _ => intro n F; exact Loc.runRange hcall _ _ _ _ _
  | exit id => intro n F; exact Loc.pure _
  | scope c ih => intro n F; exact ih n F
  | label l => intro n F; exact Loc.pure _
  | goto l => intro n F; exact Loc.fail
  | ret => intro n F; exact Loc.pure _
  | refuse w => intro n F; exact Loc.fail

theorem Loc.readResult (T : Env) (r : ResultVar) : Loc (readResult Γ T r) := by
  unfold Go.Ideal.readResult
  repeat' first
    | exact Loc.pure _
    | exact Loc.fail
    | exact Loc.lift _
    | exact Loc.hget _
    | exact Loc.hread _ _ _
    | exact Loc.hwrite _ _ _
    | exact Loc.hset _ _
    | exact Loc.hkill _
    | exact Loc.hnew _ (by intro c h; cases h <;> simp)
    | exact Loc.makeSym _ _ _
    | exact Loc.makeAny _ _ _ _ _
    | exact Loc.readCells _ _
    | exact Loc.writeCells _ _
    | exact Loc.newCells _ _ _ _
    | exact Loc.ptrEq _ _
    | exact Loc.eqBool _ _
    | exact Loc.eqPtr _ _
    | exact Loc.eqSlice _ _
    | exact Loc.eqMap _ _
    | exact Loc.eqFunc _ _
    | exact Loc.eqOp _ _ _
    | exact Loc.eqAny _ _ _
    | exact Loc.addSym _ _ _ _ _
    | exact Loc.binInt _ _ _ _
    | exact Loc.binStr _ _ _
    | exact Loc.binOther _ _ _ _
    | exact Loc.binSym _ _ _ _
    | exact Loc.binSym8 _ _ _
    | exact Loc.binV _ _ _ _
    | exact Loc.loadV _ _
    | exact Loc.storeV _ _ _
    | exact Loc.tight _ _ _ _
    | exact Loc.sliceStr _ _ _ _
    | exact Loc.sliceArr _ _ _ _ _ _
    | exact Loc.sliceSl _ _ _ _ _ _ _
    | exact Loc.sliceV _ _ _ _ _
    | exact Loc.mapOf _
    | exact Loc.lookupV _ _ _ _
    | exact Loc.updateV _ _ _ _
    | exact Loc.deleteV _ _ _
    | exact Loc.rangeObj _ _
    | exact Loc.rangeV _ _
    | exact Loc.nextStr _ _ _
    | exact Loc.nextMap _ _ _ _ _
    | exact Loc.nextV _ _
    | exact Loc.entryV _
    | exact Loc.elems _ _ _
    | exact Loc.giveUp _ _ _ _ _
    | exact Loc.writeBase _ _ _
    | exact Loc.appendV _ _ _ _
    | exact Loc.copyV _ _ _
    | exact Loc.lenB _ _
    | exact Loc.clearV _ _
    | exact Loc.builtinV _ _ _
    | exact Loc.toBytes _ _
    | exact Loc.toStr _ _
    | exact Loc.convertV _ _ _
    | exact Loc.fieldAddrV _ _ _
    | exact Loc.fieldV _ _ _
    | exact Loc.indexAddrV _ _ _
    | exact Loc.indexV _ _ _
    | exact Loc.cutV _ _ _ _ _
    | exact Loc.buildSliceV _ _ _
    | exact Loc.makeSliceV _ _ _
    | exact Loc.makeChanV _ _
    | exact Loc.plainOp _ _
    | exact Loc.callV hcall _ _
    | exact Loc.callOp hcall _ _
    | exact Loc.anyOp hcall _ _
    | exact Loc.runOps hcall _ _ _ _
    | exact Loc.runDraw hcall _ _ _ _ _
    | exact Loc.runRegion hcall _ _ _
    | exact Loc.markFor _
    | exact Loc.endRange _ _
    | exact Loc.runRange hcall _ _ _ _ _
    | exact Loc.runCode hcall _ _ _
    | assumption
    | (refine Loc.bind ?_ (fun _ => ?_))
    | (refine Loc.have (fun _ _ => ?_))
    | (refine Loc.need (fun _ => ?_))
    | (refine Loc.ite (fun _ => ?_) (fun _ => ?_))
    | (rw [force_eq])
    | split

theorem Loc.readResults (T : Env) (l : List ResultVar) : Loc (readResults Γ T l) := by
  induction l with
  | nil => exact Loc.pure _
  | cons r l ih => exact Loc.bind (Loc.readResult _ _) (fun _ => Loc.bind ih (fun _ => Loc.pure _))
theorem Loc.checkMarks (l : List Nat) : Loc (checkMarks l) := by
  induction l with
  | nil => exact Loc.pure _
  | cons m l ih => exact Loc.bind (Loc.hget _) (fun _ => Loc.need (fun _ => Loc.bind (Loc.hset _ _) (fun _ => ih)))

theorem Loc.newStrings (n : Nat) (l : List (List UInt8)) : Loc (newStrings n l) := by
  unfold Go.Ideal.newStrings
  repeat' first
    | exact Loc.pure _
    | exact Loc.fail
    | exact Loc.lift _
    | exact Loc.hget _
    | exact Loc.hread _ _ _
    | exact Loc.hwrite _ _ _
    | exact Loc.hset _ _
    | exact Loc.hkill _
    | exact Loc.hnew _ (by intro c h; cases h <;> simp)
    | exact Loc.makeSym _ _ _
    | exact Loc.makeAny _ _ _ _ _
    | exact Loc.readCells _ _
    | exact Loc.writeCells _ _
    | exact Loc.newCells _ _ _ _
    | exact Loc.ptrEq _ _
    | exact Loc.eqBool _ _
    | exact Loc.eqPtr _ _
    | exact Loc.eqSlice _ _
    | exact Loc.eqMap _ _
    | exact Loc.eqFunc _ _
    | exact Loc.eqOp _ _ _
    | exact Loc.eqAny _ _ _
    | exact Loc.addSym _ _ _ _ _
    | exact Loc.binInt _ _ _ _
    | exact Loc.binStr _ _ _
    | exact Loc.binOther _ _ _ _
    | exact Loc.binSym _ _ _ _
    | exact Loc.binSym8 _ _ _
    | exact Loc.binV _ _ _ _
    | exact Loc.loadV _ _
    | exact Loc.storeV _ _ _
    | exact Loc.tight _ _ _ _
    | exact Loc.sliceStr _ _ _ _
    | exact Loc.sliceArr _ _ _ _ _ _
    | exact Loc.sliceSl _ _ _ _ _ _ _
    | exact Loc.sliceV _ _ _ _ _
    | exact Loc.mapOf _
    | exact Loc.lookupV _ _ _ _
    | exact Loc.updateV _ _ _ _
    | exact Loc.deleteV _ _ _
    | exact Loc.rangeObj _ _
    | exact Loc.rangeV _ _
    | exact Loc.nextStr _ _ _
    | exact Loc.nextMap _ _ _ _ _
    | exact Loc.nextV _ _
    | exact Loc.entryV _
    | exact Loc.elems _ _ _
    | exact Loc.giveUp _ _ _ _ _
    | exact Loc.writeBase _ _ _
    | exact Loc.appendV _ _ _ _
    | exact Loc.copyV _ _ _
    | exact Loc.lenB _ _
    | exact Loc.clearV _ _
    | exact Loc.builtinV _ _ _
    | exact Loc.toBytes _ _
    | exact Loc.toStr _ _
    | exact Loc.convertV _ _ _
    | exact Loc.fieldAddrV _ _ _
    | exact Loc.fieldV _ _ _
    | exact Loc.indexAddrV _ _ _
    | exact Loc.indexV _ _ _
    | exact Loc.cutV _ _ _ _ _
    | exact Loc.buildSliceV _ _ _
    | exact Loc.makeSliceV _ _ _
    | exact Loc.makeChanV _ _
    | exact Loc.plainOp _ _
    | exact Loc.callV hcall _ _
    | exact Loc.callOp hcall _ _
    | exact Loc.anyOp hcall _ _
    | exact Loc.runOps hcall _ _ _ _
    | exact Loc.runDraw hcall _ _ _ _ _
    | exact Loc.runRegion hcall _ _ _
    | exact Loc.markFor _
    | exact Loc.endRange _ _
    | exact Loc.runRange hcall _ _ _ _ _
    | exact Loc.runCode hcall _ _ _
    | exact Loc.readResult _ _
    | exact Loc.readResults _ _
    | exact Loc.checkMarks _
    | assumption
    | (refine Loc.bind ?_ (fun _ => ?_))
    | (refine Loc.have (fun _ _ => ?_))
    | (refine Loc.need (fun _ => ?_))
    | (refine Loc.ite (fun _ => ?_) (fun _ => ?_))
    | (rw [force_eq])
    | split

theorem Loc.putV (n c : Nat) (l : List Value) : Loc (putV n c l) := by
  unfold Go.Ideal.putV
  repeat' first
    | exact Loc.pure _
    | exact Loc.fail
    | exact Loc.lift _
    | exact Loc.hget _
    | exact Loc.hread _ _ _
    | exact Loc.hwrite _ _ _
    | exact Loc.hset _ _
    | exact Loc.hkill _
    | exact Loc.hnew _ (by intro c h; cases h <;> simp)
    | exact Loc.makeSym _ _ _
    | exact Loc.makeAny _ _ _ _ _
    | exact Loc.readCells _ _
    | exact Loc.writeCells _ _
    | exact Loc.newCells _ _ _ _
    | exact Loc.ptrEq _ _
    | exact Loc.eqBool _ _
    | exact Loc.eqPtr _ _
    | exact Loc.eqSlice _ _
    | exact Loc.eqMap _ _
    | exact Loc.eqFunc _ _
    | exact Loc.eqOp _ _ _
    | exact Loc.eqAny _ _ _
    | exact Loc.addSym _ _ _ _ _
    | exact Loc.binInt _ _ _ _
    | exact Loc.binStr _ _ _
    | exact Loc.binOther _ _ _ _
    | exact Loc.binSym _ _ _ _
    | exact Loc.binSym8 _ _ _
    | exact Loc.binV _ _ _ _
    | exact Loc.loadV _ _
    | exact Loc.storeV _ _ _
    | exact Loc.tight _ _ _ _
    | exact Loc.sliceStr _ _ _ _
    | exact Loc.sliceArr _ _ _ _ _ _
    | exact Loc.sliceSl _ _ _ _ _ _ _
    | exact Loc.sliceV _ _ _ _ _
    | exact Loc.mapOf _
    | exact Loc.lookupV _ _ _ _
    | exact Loc.updateV _ _ _ _
    | exact Loc.deleteV _ _ _
    | exact Loc.rangeObj _ _
    | exact Loc.rangeV _ _
    | exact Loc.nextStr _ _ _
    | exact Loc.nextMap _ _ _ _ _
    | exact Loc.nextV _ _
    | exact Loc.entryV _
    | exact Loc.elems _ _ _
    | exact Loc.giveUp _ _ _ _ _
    | exact Loc.writeBase _ _ _
    | exact Loc.appendV _ _ _ _
    | exact Loc.copyV _ _ _
    | exact Loc.lenB _ _
    | exact Loc.clearV _ _
    | exact Loc.builtinV _ _ _
    | exact Loc.toBytes _ _
    | exact Loc.toStr _ _
    | exact Loc.convertV _ _ _
    | exact Loc.fieldAddrV _ _ _
    | exact Loc.fieldV _ _ _
    | exact Loc.indexAddrV _ _ _
    | exact Loc.indexV _ _ _
    | exact Loc.cutV _ _ _ _ _
    | exact Loc.buildSliceV _ _ _
    | exact Loc.makeSliceV _ _ _
    | exact Loc.makeChanV _ _
    | exact Loc.plainOp _ _
    | exact Loc.callV hcall _ _
    | exact Loc.callOp hcall _ _
    | exact Loc.anyOp hcall _ _
    | exact Loc.runOps hcall _ _ _ _
    | exact Loc.runDraw hcall _ _ _ _ _
    | exact Loc.runRegion hcall _ _ _
    | exact Loc.markFor _
    | exact Loc.endRange _ _
    | exact Loc.runRange hcall _ _ _ _ _
    | exact Loc.runCode hcall _ _ _
    | exact Loc.readResult _ _
    | exact Loc.readResults _ _
    | exact Loc.checkMarks _
    | exact Loc.newStrings _ _
    | assumption
    | (refine Loc.bind ?_ (fun _ => ?_))
    | (refine Loc.have (fun _ _ => ?_))
    | (refine Loc.need (fun _ => ?_))
    | (refine Loc.ite (fun _ => ?_) (fun _ => ?_))
    | (rw [force_eq])
    | split

theorem Loc.drainV (n t c : Nat) : Loc (drainV n t c) := by
  unfold Go.Ideal.drainV
  repeat' first
    | exact Loc.pure _
    | exact Loc.fail
    | exact Loc.lift _
    | exact Loc.hget _
    | exact Loc.hread _ _ _
    | exact Loc.hwrite _ _ _
    | exact Loc.hset _ _
    | exact Loc.hkill _
    | exact Loc.hnew _ (by intro c h; cases h <;> simp)
    | exact Loc.makeSym _ _ _
    | exact Loc.makeAny _ _ _ _ _
    | exact Loc.readCells _ _
    | exact Loc.writeCells _ _
    | exact Loc.newCells _ _ _ _
    | exact Loc.ptrEq _ _
    | exact Loc.eqBool _ _
    | exact Loc.eqPtr _ _
    | exact Loc.eqSlice _ _
    | exact Loc.eqMap _ _
    | exact Loc.eqFunc _ _
    | exact Loc.eqOp _ _ _
    | exact Loc.eqAny _ _ _
    | exact Loc.addSym _ _ _ _ _
    | exact Loc.binInt _ _ _ _
    | exact Loc.binStr _ _ _
    | exact Loc.binOther _ _ _ _
    | exact Loc.binSym _ _ _ _
    | exact Loc.binSym8 _ _ _
    | exact Loc.binV _ _ _ _
    | exact Loc.loadV _ _
    | exact Loc.storeV _ _ _
    | exact Loc.tight _ _ _ _
    | exact Loc.sliceStr _ _ _ _
    | exact Loc.sliceArr _ _ _ _ _ _
    | exact Loc.sliceSl _ _ _ _ _ _ _
    | exact Loc.sliceV _ _ _ _ _
    | exact Loc.mapOf _
    | exact Loc.lookupV _ _ _ _
    | exact Loc.updateV _ _ _ _
    | exact Loc.deleteV _ _ _
    | exact Loc.rangeObj _ _
    | exact Loc.rangeV _ _
    | exact Loc.nextStr _ _ _
    | exact Loc.nextMap _ _ _ _ _
    | exact Loc.nextV _ _
    | exact Loc.entryV _
    | exact Loc.elems _ _ _
    | exact Loc.giveUp _ _ _ _ _
    | exact Loc.writeBase _ _ _
    | exact Loc.appendV _ _ _ _
    | exact Loc.copyV _ _ _
    | exact Loc.lenB _ _
    | exact Loc.clearV _ _
    | exact Loc.builtinV _ _ _
    | exact Loc.toBytes _ _
    | exact Loc.toStr _ _
    | exact Loc.convertV _ _ _
    | exact Loc.fieldAddrV _ _ _
    | exact Loc.fieldV _ _ _
    | exact Loc.indexAddrV _ _ _
    | exact Loc.indexV _ _ _
    | exact Loc.cutV _ _ _ _ _
    | exact Loc.buildSliceV _ _ _
    | exact Loc.makeSliceV _ _ _
    | exact Loc.makeChanV _ _
    | exact Loc.plainOp _ _
    | exact Loc.callV hcall _ _
    | exact Loc.callOp hcall _ _
    | exact Loc.anyOp hcall _ _
    | exact Loc.runOps hcall _ _ _ _
    | exact Loc.runDraw hcall _ _ _ _ _
    | exact Loc.runRegion hcall _ _ _
    | exact Loc.markFor _
    | exact Loc.endRange _ _
    | exact Loc.runRange hcall _ _ _ _ _
    | exact Loc.runCode hcall _ _ _
    | exact Loc.readResult _ _
    | exact Loc.readResults _ _
    | exact Loc.checkMarks _
    | exact Loc.newStrings _ _
    | exact Loc.putV _ _ _
    | assumption
    | (refine Loc.bind ?_ (fun _ => ?_))
    | (refine Loc.have (fun _ _ => ?_))
    | (refine Loc.need (fun _ => ?_))
    | (refine Loc.ite (fun _ => ?_) (fun _ => ?_))
    | (rw [force_eq])
    | split

theorem Loc.extV (e : Ext) (as : List Value) : Loc (extV e Γ as) := by
  unfold Go.Ideal.extV
  repeat' first
    | exact Loc.pure _
    | exact Loc.fail
    | exact Loc.lift _
    | exact Loc.hget _
    | exact Loc.hread _ _ _
    | exact Loc.hwrite _ _ _
    | exact Loc.hset _ _
    | exact Loc.hkill _
    | exact Loc.hnew _ (by intro c h; cases h <;> simp)
    | exact Loc.makeSym _ _ _
    | exact Loc.makeAny _ _ _ _ _
    | exact Loc.readCells _ _
    | exact Loc.writeCells _ _
    | exact Loc.newCells _ _ _ _
    | exact Loc.ptrEq _ _
    | exact Loc.eqBool _ _
    | exact Loc.eqPtr _ _
    | exact Loc.eqSlice _ _
    | exact Loc.eqMap _ _
    | exact Loc.eqFunc _ _
    | exact Loc.eqOp _ _ _
    | exact Loc.eqAny _ _ _
    | exact Loc.addSym _ _ _ _ _
    | exact Loc.binInt _ _ _ _
    | exact Loc.binStr _ _ _
    | exact Loc.binOther _ _ _ _
    | exact Loc.binSym _ _ _ _
    | exact Loc.binSym8 _ _ _
    | exact Loc.binV _ _ _ _
    | exact Loc.loadV _ _
    | exact Loc.storeV _ _ _
    | exact Loc.tight _ _ _ _
    | exact Loc.sliceStr _ _ _ _
    | exact Loc.sliceArr _ _ _ _ _ _
    | exact Loc.sliceSl _ _ _ _ _ _ _
    | exact Loc.sliceV _ _ _ _ _
    | exact Loc.mapOf _
    | exact Loc.lookupV _ _ _ _
    | exact Loc.updateV _ _ _ _
    | exact Loc.deleteV _ _ _
    | exact Loc.rangeObj _ _
    | exact Loc.rangeV _ _
    | exact Loc.nextStr _ _ _
    | exact Loc.nextMap _ _ _ _ _
    | exact Loc.nextV _ _
    | exact Loc.entryV _
    | exact Loc.elems _ _ _
    | exact Loc.giveUp _ _ _ _ _
    | exact Loc.writeBase _ _ _
    | exact Loc.appendV _ _ _ _
    | exact Loc.copyV _ _ _
    | exact Loc.lenB _ _
    | exact Loc.clearV _ _
    | exact Loc.builtinV _ _ _
    | exact Loc.toBytes _ _
    | exact Loc.toStr _ _
    | exact Loc.convertV _ _ _
    | exact Loc.fieldAddrV _ _ _
    | exact Loc.fieldV _ _ _
    | exact Loc.indexAddrV _ _ _
    | exact Loc.indexV _ _ _
    | exact Loc.cutV _ _ _ _ _
    | exact Loc.buildSliceV _ _ _
    | exact Loc.makeSliceV _ _ _
    | exact Loc.makeChanV _ _
    | exact Loc.plainOp _ _
    | exact Loc.callV hcall _ _
    | exact Loc.callOp hcall _ _
    | exact Loc.anyOp hcall _ _
    | exact Loc.runOps hcall _ _ _ _
    | exact Loc.runDraw hcall _ _ _ _ _
    | exact Loc.runRegion hcall _ _ _
    | exact Loc.markFor _
    | exact Loc.endRange _ _
    | exact Loc.runRange hcall _ _ _ _ _
    | exact Loc.runCode hcall _ _ _
    | exact Loc.readResult _ _
    | exact Loc.readResults _ _
    | exact Loc.checkMarks _
    | exact Loc.newStrings _ _
    | exact Loc.putV _ _ _
    | exact Loc.drainV _ _ _
    | assumption
    | (refine Loc.bind ?_ (fun _ => ?_))
    | (refine Loc.have (fun _ _ => ?_))
    | (refine Loc.need (fun _ => ?_))
    | (refine Loc.ite (fun _ => ?_) (fun _ => ?_))
    | (rw [force_eq])
    | split

theorem Loc.endRound (l : Nat) (x : Ex) : Loc (endRound l x) := by
  unfold Go.Ideal.endRound
  repeat' first
    | exact Loc.pure _
    | exact Loc.fail
    | exact Loc.lift _
    | exact Loc.hget _
    | exact Loc.hread _ _ _
    | exact Loc.hwrite _ _ _
    | exact Loc.hset _ _
    | exact Loc.hkill _
    | exact Loc.hnew _ (by intro c h; cases h <;> simp)
    | exact Loc.makeSym _ _ _
    | exact Loc.makeAny _ _ _ _ _
    | exact Loc.readCells _ _
    | exact Loc.writeCells _ _
    | exact Loc.newCells _ _ _ _
    | exact Loc.ptrEq _ _
    | exact Loc.eqBool _ _
    | exact Loc.eqPtr _ _
    | exact Loc.eqSlice _ _
    | exact Loc.eqMap _ _
    | exact Loc.eqFunc _ _
    | exact Loc.eqOp _ _ _
    | exact Loc.eqAny _ _ _
    | exact Loc.addSym _ _ _ _ _
    | exact Loc.binInt _ _ _ _
    | exact Loc.binStr _ _ _
    | exact Loc.binOther _ _ _ _
    | exact Loc.binSym _ _ _ _
    | exact Loc.binSym8 _ _ _
    | exact Loc.binV _ _ _ _
    | exact Loc.loadV _ _
    | exact Loc.storeV _ _ _
    | exact Loc.tight _ _ _ _
    | exact Loc.sliceStr _ _ _ _
    | exact Loc.sliceArr _ _ _ _ _ _
    | exact Loc.sliceSl _ _ _ _ _ _ _
    | exact Loc.sliceV _ _ _ _ _
    | exact Loc.mapOf _
    | exact Loc.lookupV _ _ _ _
    | exact Loc.updateV _ _ _ _
    | exact Loc.deleteV _ _ _
    | exact Loc.rangeObj _ _
    | exact Loc.rangeV _ _
    | exact Loc.nextStr _ _ _
    | exact Loc.nextMap _ _ _ _ _
    | exact Loc.nextV _ _
    | exact Loc.entryV _
    | exact Loc.elems _ _ _
    | exact Loc.giveUp _ _ _ _ _
    | exact Loc.writeBase _ _ _
    | exact Loc.appendV _ _ _ _
    | exact Loc.copyV _ _ _
    | exact Loc.lenB _ _
    | exact Loc.clearV _ _
    | exact Loc.builtinV _ _ _
    | exact Loc.toBytes _ _
    | exact Loc.toStr _ _
    | exact Loc.convertV _ _ _
    | exact Loc.fieldAddrV _ _ _
    | exact Loc.fieldV _ _ _
    | exact Loc.indexAddrV _ _ _
    | exact Loc.indexV _ _ _
    | exact Loc.cutV _ _ _ _ _
    | exact Loc.buildSliceV _ _ _
    | exact Loc.makeSliceV _ _ _
    | exact Loc.makeChanV _ _
    | exact Loc.plainOp _ _
    | exact Loc.callV hcall _ _
    | exact Loc.callOp hcall _ _
    | exact Loc.anyOp hcall _ _
    | exact Loc.runOps hcall _ _ _ _
    | exact Loc.runDraw hcall _ _ _ _ _
    | exact Loc.runRegion hcall _ _ _
    | exact Loc.markFor _
    | exact Loc.endRange _ _
    | exact Loc.runRange hcall _ _ _ _ _
    | exact Loc.runCode hcall _ _ _
    | exact Loc.readResult _ _
    | exact Loc.readResults _ _
    | exact Loc.checkMarks _
    | exact Loc.newStrings _ _
    | exact Loc.putV _ _ _
    | exact Loc.drainV _ _ _
    | exact Loc.extV _ _
    | assumption
    | (refine Loc.bind ?_ (fun _ => ?_))
    | (refine Loc.have (fun _ _ => ?_))
    | (refine Loc.need (fun _ => ?_))
    | (refine Loc.ite (fun _ => ?_) (fun _ => ?_))
    | (rw [force_eq])
    | split

theorem Loc.callBody {call : CallF} (hcall : ∀ b f as, Loc (call b f as)) (n f : Nat) (as : List Value) (fn : Func) : Loc (callBody Γ call n f as fn) := by
  unfold Go.Ideal.callBody
  repeat' first
    | exact Loc.pure _
    | exact Loc.fail
    | exact Loc.lift _
    | exact Loc.hget _
    | exact Loc.hread _ _ _
    | exact Loc.hwrite _ _ _
    | exact Loc.hset _ _
    | exact Loc.hkill _
    | exact Loc.hnew _ (by intro c h; cases h <;> simp)
    | exact Loc.makeSym _ _ _
    | exact Loc.makeAny _ _ _ _ _
    | exact Loc.readCells _ _
    | exact Loc.writeCells _ _
    | exact Loc.newCells _ _ _ _
    | exact Loc.ptrEq _ _
    | exact Loc.eqBool _ _
    | exact Loc.eqPtr _ _
    | exact Loc.eqSlice _ _
    | exact Loc.eqMap _ _
    | exact Loc.eqFunc _ _
    | exact Loc.eqOp _ _ _
    | exact Loc.eqAny _ _ _
    | exact Loc.addSym _ _ _ _ _
    | exact Loc.binInt _ _ _ _
    | exact Loc.binStr _ _ _
    | exact Loc.binOther _ _ _ _
    | exact Loc.binSym _ _ _ _
    | exact Loc.binSym8 _ _ _
    | exact Loc.binV _ _ _ _
    | exact Loc.loadV _ _
    | exact Loc.storeV _ _ _
    | exact Loc.tight _ _ _ _
    | exact Loc.sliceStr _ _ _ _
    | exact Loc.sliceArr _ _ _ _ _ _
    | exact Loc.sliceSl _ _ _ _ _ _ _
    | exact Loc.sliceV _ _ _ _ _
    | exact Loc.mapOf _
    | exact Loc.lookupV _ _ _ _
    | exact Loc.updateV _ _ _ _
    | exact Loc.deleteV _ _ _
    | exact Loc.rangeObj _ _
    | exact Loc.rangeV _ _
    | exact Loc.nextStr _ _ _
    | exact Loc.nextMap _ _ _ _ _
    | exact Loc.nextV _ _
    | exact Loc.entryV _
    | exact Loc.elems _ _ _
    | exact Loc.giveUp _ _ _ _ _
    | exact Loc.writeBase _ _ _
    | exact Loc.appendV _ _ _ _
    | exact Loc.copyV _ _ _
    | exact Loc.lenB _ _
    | exact Loc.clearV _ _
    | exact Loc.builtinV _ _ _
    | exact Loc.toBytes _ _
    | exact Loc.toStr _ _
    | exact Loc.convertV _ _ _
    | exact Loc.fieldAddrV _ _ _
    | exact Loc.fieldV _ _ _
    | exact Loc.indexAddrV _ _ _
    | exact Loc.indexV _ _ _
    | exact Loc.cutV _ _ _ _ _
    | exact Loc.buildSliceV _ _ _
    | exact Loc.makeSliceV _ _ _
    | exact Loc.makeChanV _ _
    | exact Loc.plainOp _ _
    | exact Loc.callV hcall _ _
    | exact Loc.callOp hcall _ _
    | exact Loc.anyOp hcall _ _
    | exact Loc.runOps hcall _ _ _ _
    | exact Loc.runDraw hcall _ _ _ _ _
    | exact Loc.runRegion hcall _ _ _
    | exact Loc.markFor _
    | exact Loc.endRange _ _
    | exact Loc.runRange hcall _ _ _ _ _
    | exact Loc.runCode hcall _ _ _
    | exact Loc.readResult _ _
    | exact Loc.readResults _ _
    | exact Loc.checkMarks _
    | exact Loc.newStrings _ _
    | exact Loc.putV _ _ _
    | exact Loc.drainV _ _ _
    | exact Loc.extV _ _
    | exact Loc.endRound _ _
    | assumption
    | (refine Loc.bind ?_ (fun _ => ?_))
    | (refine Loc.have (fun _ _ => ?_))
    | (refine Loc.need (fun _ => ?_))
    | (refine Loc.ite (fun _ => ?_) (fun _ => ?_))
    | (rw [force_eq])
    | split

theorem Loc.callRound {call : CallF} (hcall : ∀ b f as, Loc (call b f as)) (n l : Nat) (as : List Value) : Loc (callRound Γ call n l as) := by
  unfold Go.Ideal.callRound
  repeat' first
    | exact Loc.pure _
    | exact Loc.fail
    | exact Loc.lift _
    | exact Loc.hget _
    | exact Loc.hread _ _ _
    | exact Loc.hwrite _ _ _
    | exact Loc.hset _ _
    | exact Loc.hkill _
    | exact Loc.hnew _ (by intro c h; cases h <;> simp)
    | exact Loc.makeSym _ _ _
    | exact Loc.makeAny _ _ _ _ _
    | exact Loc.readCells _ _
    | exact Loc.writeCells _ _
    | exact Loc.newCells _ _ _ _
    | exact Loc.ptrEq _ _
    | exact Loc.eqBool _ _
    | exact Loc.eqPtr _ _
    | exact Loc.eqSlice _ _
    | exact Loc.eqMap _ _
    | exact Loc.eqFunc _ _
    | exact Loc.eqOp _ _ _
    | exact Loc.eqAny _ _ _
    | exact Loc.addSym _ _ _ _ _
    | exact Loc.binInt _ _ _ _
    | exact Loc.binStr _ _ _
    | exact Loc.binOther _ _ _ _
    | exact Loc.binSym _ _ _ _
    | exact Loc.binSym8 _ _ _
    | exact Loc.binV _ _ _ _
    | exact Loc.loadV _ _
    | exact Loc.storeV _ _ _
    | exact Loc.tight _ _ _ _
    | exact Loc.sliceStr _ _ _ _
    | exact Loc.sliceArr _ _ _ _ _ _
    | exact Loc.sliceSl _ _ _ _ _ _ _
    | exact Loc.sliceV _ _ _ _ _
    | exact Loc.mapOf _
    | exact Loc.lookupV _ _ _ _
    | exact Loc.updateV _ _ _ _
    | exact Loc.deleteV _ _ _
    | exact Loc.rangeObj _ _
    | exact Loc.rangeV _ _
    | exact Loc.nextStr _ _ _
    | exact Loc.nextMap _ _ _ _ _
    | exact Loc.nextV _ _
    | exact Loc.entryV _
    | exact Loc.elems _ _ _
    | exact Loc.giveUp _ _ _ _ _
    | exact Loc.writeBase _ _ _
    | exact Loc.appendV _ _ _ _
    | exact Loc.copyV _ _ _
    | exact Loc.lenB _ _
    | exact Loc.clearV _ _
    | exact Loc.builtinV _ _ _
    | exact Loc.toBytes _ _
    | exact Loc.toStr _ _
    | exact Loc.convertV _ _ _
    | exact Loc.fieldAddrV _ _ _
    | exact Loc.fieldV _ _ _
    | exact Loc.indexAddrV _ _ _
    | exact Loc.indexV _ _ _
    | exact Loc.cutV _ _ _ _ _
    | exact Loc.buildSliceV _ _ _
    | exact Loc.makeSliceV _ _ _
    | exact Loc.makeChanV _ _
    | exact Loc.plainOp _ _
    | exact Loc.callV hcall _ _
    | exact Loc.callOp hcall _ _
    | exact Loc.anyOp hcall _ _
    | exact Loc.runOps hcall _ _ _ _
    | exact Loc.runDraw hcall _ _ _ _ _
    | exact Loc.runRegion hcall _ _ _
    | exact Loc.markFor _
    | exact Loc.endRange _ _
    | exact Loc.runRange hcall _ _ _ _ _
    | exact Loc.runCode hcall _ _ _
    | exact Loc.readResult _ _
    | exact Loc.readResults _ _
    | exact Loc.checkMarks _
    | exact Loc.newStrings _ _
    | exact Loc.putV _ _ _
    | exact Loc.drainV _ _ _
    | exact Loc.extV _ _
    | exact Loc.endRound _ _
    | exact Loc.callBody hcall _ _ _ _
    | assumption
    | (refine Loc.bind ?_ (fun _ => ?_))
    | (refine Loc.have (fun _ _ => ?_))
    | (refine Loc.need (fun _ => ?_))
    | (refine Loc.ite (fun _ => ?_) (fun _ => ?_))
    | (rw [force_eq])
    | split

theorem callF_zero (n : Nat) (b : Bool) (f : Nat) (as : List Value) : callF Γ n 0 b f as = EM.fail := rfl
theorem callF_round (n k : Nat) (f : Nat) (as : List Value) : callF Γ n (k + 1) false f as = callRound Γ (callF Γ n k) n f as := rfl
theorem callF_ext (n k : Nat) (f : Nat) (as : List Value) {e : Ext} (h : Γ.ext f = some e) : callF Γ n (k + 1) true f as = extV e Γ as := by
  show Option.rec (motive := fun _ => EM Value) _ _ (Γ.ext f) = _
  rw [h]
theorem callF_fn (n k : Nat) (f : Nat) (as : List Value) (h : Γ.ext f = none) : callF Γ n (k + 1) true f as = EM.have (Γ.fn f) fun fn => callBody Γ (callF Γ n k) n f as fn := by
  show Option.rec (motive := fun _ => EM Value) _ _ (Γ.ext f) = _
  rw [h]
  rfl
theorem Loc.callF (n k : Nat) : ∀ (b : Bool) (f : Nat) (as : List Value), Loc (callF Γ n k b f as) := by
  induction k with
  | zero => intro b f as; exact Loc.fail
  | succ k ih =>
    intro b f as
    cases b with
    | false => exact Loc.callRound ih _ _ _
    | true =>
      cases he : Γ.ext f with
      | some e => rw [callF_ext n k f as he]; exact Loc.extV _ _
      | none => rw [callF_fn n k f as he]; exact Loc.have (fun fn _ => Loc.callBody ih _ _ _ _)

end Go.Ideal

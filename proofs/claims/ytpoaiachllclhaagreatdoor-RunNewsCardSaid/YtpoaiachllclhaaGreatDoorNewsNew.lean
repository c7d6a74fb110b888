/-
  Limits of which some are not as they may be: there is no world, here and in the document. Conditions: none.
-/
import Derived.Test.YtpoaiachllclhaaGreatDoorNewsSet
namespace Go.Proofs.YtpoaiachllclhaaGreatDoor
open Go Go.Ideal Go.RowKit

noncomputable def gamZ : Cx := cxOf Tryz.prog [] [] (fun _ => none)

theorem readyZ : Ready Tryz.prog gamZ := ⟨cxOf_ok _ _ _, mixed, extOk_of fun _ _ h => (by cases h), names⟩

/-- of a limit: too small, as it may be, too great; 3: whatever -/
def digS (mn mx : Nat) (n : Nat) : Value :=
  match n with
  | 0 => .complex .f64 0 (Nat.add mn 9223372036854775807)
  | 1 => .complex .f64 (Nat.add mn 9223372036854775808) (Nat.add mx 9223372036854775808)
  | 2 => .complex .f64 (Nat.add mx 9223372036854775809) 18446744073709551615
  | _ => .chan none

def limB (a b c d e f g : Nat) : Value := .agg #[digS 1 64 a, digS 1 64 b, digS 1 256 c, digS 1 256 d, digS 0 4096 e, digS 1 4096 f, digS 1 4096 g]

noncomputable def noneW (v : Value) : Bool := answersIs (callF gamZ 100 60 true 27 [v] (boot 100 [])) (.pointer none)

def isFalse2 : Option (Value × HS) → Bool
  | some (.tuple vs, _) => match vs.toList with
    | [x, .bool b] => cellOk x && !b
    | _ => false
  | _ => false

noncomputable def noneR (v : Value) : Bool := isFalse2 (callF gamZ 100 60 true 14 [v] (boot 100 []))

def all3B (p : Nat → Bool) : Bool := p 0 && (p 1 && p 2)
def one6 (a b c d e g : Nat) : Bool := Nat.beq a 1 && (Nat.beq b 1 && (Nat.beq c 1 && (Nat.beq d 1 && (Nat.beq e 1 && Nat.beq g 1))))
noncomputable def badW (a b : Nat) : Bool := all3B fun c => all3B fun d => all3B fun e => all3B fun g => one6 a b c d e g || noneW (limB a b c d e 3 g)

theorem bad00 : badW 0 0 = true := by kernel_rfl
theorem bad01 : badW 0 1 = true := by kernel_rfl
theorem bad02 : badW 0 2 = true := by kernel_rfl
theorem bad10 : badW 1 0 = true := by kernel_rfl
theorem bad11 : badW 1 1 = true := by kernel_rfl
theorem bad12 : badW 1 2 = true := by kernel_rfl
theorem bad20 : badW 2 0 = true := by kernel_rfl
theorem bad21 : badW 2 1 = true := by kernel_rfl
theorem bad22 : badW 2 2 = true := by kernel_rfl
theorem badP : (noneW (limB 1 1 1 1 1 0 1) && noneW (limB 1 1 1 1 1 2 1)) = true := by kernel_rfl

theorem refIB : (all3B fun d => all3B fun e => (Nat.beq d 1 && Nat.beq e 1) || noneR (limB 3 3 3 d e 3 3)) = true := by kernel_rfl
theorem refA : (all3B fun a => Nat.beq a 1 || noneR (limB a 3 3 1 1 3 3)) = true := by kernel_rfl
theorem refB : (all3B fun b => Nat.beq b 1 || noneR (limB 1 b 3 1 1 3 3)) = true := by kernel_rfl
theorem refC : (all3B fun c => Nat.beq c 1 || noneR (limB 1 1 c 1 1 3 3)) = true := by kernel_rfl
theorem refF : (all3B fun f => Nat.beq f 1 || noneR (limB 1 1 1 1 1 f 3)) = true := by kernel_rfl
theorem refG : (all3B fun g => Nat.beq g 1 || noneR (limB 1 1 1 1 1 1 g)) = true := by kernel_rfl

end Go.Proofs.YtpoaiachllclhaaGreatDoor

/-
  RunLong returns true, by the evaluator upon what run.Run and lives do. Conditions: what two variables of Go's library hold in the world of the start.
-/
import Derived.Test.YtgpndlfaabhelaaGreatDoorLives
import Derived.Test.YtgpndlfaabhelaaGreatDoorLongLoop
namespace Go.Proofs.YtgpndlfaabhelaaGreatDoor
open Go Go.Ideal Go.RowKit

def runB : List Value → Option Nat
  | [_, .slice (some a) _ _] => some a.block
  | _ => none

def inSym (lo hi : Nat) : Value → Bool
  | .complex .f64 a b => Nat.ble (lo + 9223372036854775808) a && Nat.ble b (hi + 9223372036854775808)
  | _ => false

def limOk : List Value → Bool
  | [a, b, c, d, e, f, g] => inSym 1 6 a && (inSym 2 10 b && (inSym 2 17 c && (inSym 2 13 d && (inSym 0 15 e && (inSym 1 20 f && inSym 1 20 g)))))
  | _ => false

def anys : Array Value := #[.chan none, .chan none, .chan none, .chan none, .chan none, .chan none, .chan none, .chan none, .chan none, .chan none, .chan none, .chan none]

def plainAddr (a : Addr) : Bool := Nat.beq a.off 0 && a.spot.isNone

def runG (zs : List Value) (o : IObj) : Option Value :=
  match zs with
  | [.agg l, .slice (some a) n m] => match o with
    | .zeros k e => bif limOk l.toList && (Nat.beq n m && (Nat.beq k m && (plainAddr a && (Nat.beq e 46 && Nat.ble n 20000)))) then
        some (bif Nat.ble n 10000 then .tuple #[.float .f64 n, .agg anys, .bool true] else .tuple #[.slice none 0 0, .agg anys, .bool false])
      else none
    | _ => none
  | _ => none

def livesF : List Value → Option Value
  | [] => some (.bool true)
  | _ => none

noncomputable def gamR (fx : Nat → Option Obj) : Cx := cxOf Tryz.prog [(5, .peek runB runG), (7, .pure livesF)] [] fx

def isTrue : Option (Value × HS) → Bool
  | some (.bool b, _) => b
  | _ => false

def byteSym : Value := .complex .f32 0 255

theorem long_all (fx : Nat → Option Obj) : (List.range 256).all (fun m => isTrue (callF (gamR fx) 100 40 true 3 [.agg #[byteSym, byteSym, byteSym, byteSym, byteSym, byteSym, byteSym], .int .u8 m] (boot 100 []))) = true := by kernel_rfl

theorem zeroOfStep (fx : Nat → Option Obj) : ((gamR fx).ty 46).map (·.zero) = some zeroCells := by kernel_rfl

theorem inSym_eq {ρ : Rho} {lo hi : Nat} {v u : Value} (h : inSym lo hi v = true) (hv : VR ρ v u) : ∃ z : Int, u = .int .i64 z ∧ (lo : Int) ≤ z ∧ z ≤ hi := by
  unfold inSym at h
  split at h
  · rename_i a b
    rw [Bool.and_eq_true] at h
    have h1 := Nat.le_of_ble_eq_true h.1
    have h2 := Nat.le_of_ble_eq_true h.2
    cases hv with
    | sym lo hi z g1 g2 g3 => exact ⟨z, rfl, by omega, by omega⟩
  · cases h

theorem strip_zeros {x : IObj} {k e : Nat} (h : strip x = .zeros k e) : x = .zeros k e := by
  cases x <;> first | exact h | cases h

variable {W : World}

theorem slice_inv {ρ : Rho} {b n : Nat} {u : Value} (h : VR ρ (.slice (some ⟨b, 0, none⟩) n n) u) :
    (∃ rb c', u = .slice (some ⟨rb.blk, rb.off + 0, none⟩) n c' ∧ ρ b = some rb ∧ rb.ghost = false ∧ CapR rb 0 n c') ∨ ∃ rb, ρ b = some rb ∧ rb.ghost = true := by
  cases h with
  | sl _ _ _ _ c' rb h1 h2 h3 => exact .inl ⟨rb, c', rfl, h1, h2, h3⟩
  | slg _ _ _ _ rb h1 h2 => exact .inr ⟨rb, h1, h2⟩

set_option maxHeartbeats 1000000 in
set_option maxRecDepth 1000000 in
theorem runExt : ExtAt Tryz.prog (gamR (twoBlocks W)) 5 (.peek runB runG) := by
  intro zs zs' v s s' ρ w hv wf pre ha F hF
  simp only [extV, need_eq, have_eq, bind_eq, lift_eq, Prod.mk.injEq] at hv
  obtain ⟨-, i, hi, o, s1, hg, u, hu, rfl, rfl⟩ := hv
  unfold runG at hu
  split at hu
  · rename_i l a n m
    split at hu
    · rename_i k e
      cases hc : (limOk l.toList && (Nat.beq n m && (Nat.beq k m && (plainAddr a && (Nat.beq e 46 && Nat.ble n 20000))))) with
      | false => rw [hc] at hu; cases hu
      | true =>
        rw [hc] at hu
        simp only [Bool.and_eq_true] at hc
        obtain ⟨c1, c2, c3, c4, c5, c6⟩ := hc
        obtain rfl : n = m := Nat.eq_of_beq_eq_true c2
        obtain rfl : n = k := (Nat.eq_of_beq_eq_true c3).symm
        have e5 : e = 46 := Nat.eq_of_beq_eq_true c5
        subst e5
        have c6 := Nat.le_of_ble_eq_true c6
        obtain ⟨b0, o0, sp⟩ := a
        simp only [plainAddr, Bool.and_eq_true, Option.isNone_iff_eq_none] at c4
        obtain ⟨c4, rfl⟩ := c4
        obtain rfl := Nat.eq_of_beq_eq_true c4
        obtain ⟨x', r', rfl, hx, hr⟩ := ha.ex
        obtain ⟨y', r', rfl, hy, hr⟩ := hr.ex
        obtain rfl := hr.nil_ex
        have hib : b0 = i := by simpa [runB] using hi
        subst hib
        obtain ⟨x, hgx, hox, hh, -⟩ := hget_spec hg
        have hz := strip_zeros hox.symm
        subst hz
        have hin := fun rb => pre.inv.obj b0 _ rb hgx
        rcases slice_inv hy with ⟨rb, c', rfl, h1, h2, h3⟩ | ⟨rb, h1, h2⟩
        · obtain ⟨⟨te, e', fr, hte, hheap⟩, -, hoff, hlo⟩ := hin rb h1
          have hcc : c' = n := by
            rcases h3 with h3 | ⟨h3, -⟩
            · exact h3
            · rw [hlo] at h3; cases h3
          obtain rfl : n = c' := hcc.symm
          have hz := zeroOfStep (twoBlocks W)
          rw [hte] at hz
          have hz : te.zero = zeroCells := Option.some.inj hz
          rw [hz] at hheap
          cases hx with
          | agg l l' e1 e2 =>
            have hl : limOk l = true := by simpa using c1
            unfold limOk at hl
            split at hl
            · rename_i q0 q1 q2 q3 q4 q5 q6
              match l', e1, e2 with
              | [p0, p1, p2, p3, p4, p5, p6], _, e2 =>
                simp only [Bool.and_eq_true] at hl
                obtain ⟨l0, l1, l2, l3, l4, l5, l6⟩ := hl
                obtain ⟨z0, rfl, g0, g0'⟩ := inSym_eq l0 (e2 0 _ _ rfl rfl)
                obtain ⟨z1, rfl, g1, g1'⟩ := inSym_eq l1 (e2 1 _ _ rfl rfl)
                obtain ⟨z2, rfl, g2, g2'⟩ := inSym_eq l2 (e2 2 _ _ rfl rfl)
                obtain ⟨z3, rfl, g3, g3'⟩ := inSym_eq l3 (e2 3 _ _ rfl rfl)
                obtain ⟨z4, rfl, g4, g4'⟩ := inSym_eq l4 (e2 4 _ _ rfl rfl)
                obtain ⟨z5, rfl, g5, g5'⟩ := inSym_eq l5 (e2 5 _ _ rfl rfl)
                obtain ⟨z6, rfl, g6, g6'⟩ := inSym_eq l6 (e2 6 _ _ rfl rfl)
                have hrun := run_any z0 z1 z2 z3 z4 z5 z6 ⟨g0, g0'⟩ ⟨g1, g1'⟩ ⟨g2, g2'⟩ ⟨g3, g3'⟩ ⟨g4, g4'⟩ ⟨g5, g5'⟩ ⟨g6, g6'⟩ n c6 rb.blk e' fr w hheap
                rw [enters Tryz.func5 (by kernel_rfl) (by kernel_rfl)]
                rw [hoff]
                show CallsIn F 0 Tryz.prog 5 #[.agg #[.int .i64 z0, .int .i64 z1, .int .i64 z2, .int .i64 z3, .int .i64 z4, .int .i64 z5, .int .i64 z6], .slice (some ⟨rb.blk, 0, none⟩) n n] w (Res _ ρ s w _ _)
                refine hF.calls (CallsIn.mono (callsIn_wide.2 hrun) ?_)
                rintro en w' ⟨⟨r, cs, rfl, hcs, hone, hr⟩, hbel⟩
                refine ⟨_, ρ, rfl, ?_, Stp.below pre.inv hbel hh⟩
                have hagg : VR ρ (.agg anys) (.agg cs.toArray) := by
                  refine VR.agg' (l := anys.toList) ⟨by rw [hcs]; rfl, fun j v v' hj hj' => ?_⟩
                  have hv : v = .chan none := by
                    have : v ∈ anys.toList := List.mem_of_getElem? hj
                    simpa [anys] using this
                  subst hv
                  have := hone v' (List.mem_of_getElem? hj')
                  exact .any _ (fun l e => by subst e; cases this) (fun l e => by subst e; cases this)
                cases hb : Nat.ble n 10000 with
                | true =>
                  rw [hb] at hu
                  obtain rfl := Option.some.inj hu
                  have hle := Nat.le_of_ble_eq_true hb
                  rw [if_pos hle] at hr
                  obtain ⟨a, c, rfl⟩ := hr
                  rw [decide_eq_true hle]
                  exact VR.tup' (VRs.cons (.opq _ _ _ _) (VRs.cons hagg (VRs.cons (.bool _) (VRs.nil _))))
                | false =>
                  rw [hb] at hu
                  obtain rfl := Option.some.inj hu
                  have hle : ¬ n ≤ 10000 := fun e => by rw [Nat.ble_eq_true_of_le e] at hb; cases hb
                  rw [if_neg hle] at hr
                  subst hr
                  rw [decide_eq_false hle]
                  exact VR.tup' (VRs.cons (.sl0 _ _) (VRs.cons hagg (VRs.cons (.bool _) (VRs.nil _))))
            · cases hl
        · obtain ⟨-, hgh, -⟩ := hin rb h1
          rw [h2] at hgh; cases hgh
    · cases hu
  · cases hu

set_option maxRecDepth 1000000 in
theorem livesExt (ht : Lib.TabIs Tryz.prog W "strings.asciiSpace" .u8 Lib.asciiSpaceTab) (hW : W.ShapedOpen Tryz.prog) : ExtAt Tryz.prog (gamR (twoBlocks W)) 7 (.pure livesF) := by
  intro zs zs' v s s' ρ w hv wf pre ha F hF
  simp only [extV, need_eq, lift_eq, Prod.mk.injEq] at hv
  obtain ⟨-, u, hu, rfl, rfl⟩ := hv
  unfold livesF at hu
  split at hu
  · obtain rfl := Option.some.inj hu
    obtain rfl := ha.nil_ex
    rw [enters Tryz.func7 (by kernel_rfl) (by kernel_rfl)]
    refine hF.calls (CallsIn.mono (callsIn_wide.2 (lives_any ht hW w fun b o hb => (pre.fix b o hb).1)) ?_)
    rintro e w' ⟨rfl, hbel⟩
    exact ⟨_, ρ, rfl, .bool _, Stp.below pre.inv hbel rfl⟩
  · cases hu

theorem ext_casesR {fx : Nat → Option Obj} {f : Nat} {e : Ext} (h : (gamR fx).ext f = some e) : (f = 5 ∧ e = .peek runB runG) ∨ (f = 7 ∧ e = .pure livesF) := by
  have h : findExt f [(5, .peek runB runG), (7, .pure livesF)] = some e := h
  simp only [findExt] at h
  cases h1 : Nat.beq 5 f with
  | true => rw [h1] at h; exact .inl ⟨(Nat.eq_of_beq_eq_true h1).symm, (Option.some.inj h).symm⟩
  | false =>
    rw [h1] at h
    cases h2 : Nat.beq 7 f with
    | true => rw [h2] at h; exact .inr ⟨(Nat.eq_of_beq_eq_true h2).symm, (Option.some.inj h).symm⟩
    | false => rw [h2] at h; cases h

set_option maxRecDepth 1000000 in
theorem readyR (ht : Lib.TabIs Tryz.prog W "strings.asciiSpace" .u8 Lib.asciiSpaceTab) (hW : W.ShapedOpen Tryz.prog) : Ready Tryz.prog (gamR (twoBlocks W)) :=
  ⟨cxOf_ok _ _ _, mixed, extOk_of fun f e h => by
    rcases ext_casesR h with ⟨rfl, rfl⟩ | ⟨rfl, rfl⟩
    · exact .inr (.inr (.inr runExt))
    · exact .inr (.inr (.inr (livesExt ht hW))), names⟩

theorem byte_VR {ρ : Rho} {z : Int} (h : 0 ≤ z ∧ z ≤ 255) : VR ρ byteSym (.int .u8 z) := .sym8 _ _ _ h.1 h.2 (by decide)

set_option maxRecDepth 1000000 in
/-- RunLong is true, from whatever world in which the two variables stand as at the start -/
theorem runLong_any (ht : Lib.TabIs Tryz.prog W "strings.asciiSpace" .u8 Lib.asciiSpaceTab) (hW : W.ShapedOpen Tryz.prog) (a b c d e f g m : Int) (ha : 0 ≤ a ∧ a ≤ 255) (hb : 0 ≤ b ∧ b ≤ 255) (hc : 0 ≤ c ∧ c ≤ 255)
    (hd : 0 ≤ d ∧ d ≤ 255) (he : 0 ≤ e ∧ e ≤ 255) (hf : 0 ≤ f ∧ f ≤ 255) (hg : 0 ≤ g ∧ g ≤ 255) (hm : 0 ≤ m ∧ m ≤ 255) (w : World) (hx : ∀ b o, twoBlocks W b = some o → w.heap[b]? = some o) :
    Calls Tryz.prog 3 #[.agg #[.int .u8 a, .int .u8 b, .int .u8 c, .int .u8 d, .int .u8 e, .int .u8 f, .int .u8 g], .int .u8 m] w fun e w' => e = .returned (.bool true) ∧ Below w.heap.size w w' := by
  obtain ⟨k, rfl⟩ : ∃ k : Nat, m = k := ⟨m.toNat, by omega⟩
  have h := List.all_eq_true.1 (long_all (twoBlocks W)) k (List.mem_range.2 (by omega))
  cases hr : callF (gamR (twoBlocks W)) 100 40 true 3 [.agg #[byteSym, byteSym, byteSym, byteSym, byteSym, byteSym, byteSym], .int .u8 k] (boot 100 []) with
  | none => rw [hr] at h; cases h
  | some p =>
    obtain ⟨v, s⟩ := p
    rw [hr] at h
    unfold isTrue at h
    split at h
    · rename_i bb s2 heq
      subst h
      obtain ⟨rfl, rfl⟩ : v = .bool true ∧ s = s2 := by
        have := Option.some.inj heq
        exact ⟨congrArg Prod.fst this, congrArg Prod.snd this⟩
      have hl : VRs (fun _ => none) [.agg #[byteSym, byteSym, byteSym, byteSym, byteSym, byteSym, byteSym], .int .u8 k]
          [.agg #[.int .u8 a, .int .u8 b, .int .u8 c, .int .u8 d, .int .u8 e, .int .u8 f, .int .u8 g], .int .u8 k] :=
        VRs.cons (VR.agg' (VRs.cons (byte_VR ha) (VRs.cons (byte_VR hb) (VRs.cons (byte_VR hc) (VRs.cons (byte_VR hd) (VRs.cons (byte_VR he) (VRs.cons (byte_VR hf) (VRs.cons (byte_VR hg) (VRs.nil _)))))))))
          (VRs.cons (.int _ _) (VRs.nil _))
      refine (call_new (readyR ht hW) (rounds := 100) (k := 40) (n := 100) (by decide) rfl hr hl w hx).mono ?_
      rintro e w' ⟨u, rfl, hbel, hk⟩
      obtain ⟨-, ρ, hv, -⟩ := hk
      cases hv
      exact ⟨rfl, hbel⟩
    · cases h

end Go.Proofs.YtgpndlfaabhelaaGreatDoor

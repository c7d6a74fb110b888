/-
  Functions that are not run by their text: the index of a byte, the count of a byte. Conditions: none.
-/
import Derived.Test.YtgpndlfaabhelaaGreatDoorRun
import Derived.Laws.StandIn
namespace Go.Ideal
open Go

theorem find_congr' {α : Type} {p q : α → Bool} : ∀ {l : List α}, (∀ x ∈ l, p x = q x) → l.find? p = l.find? q := by
  intro l
  induction l with
  | nil => intro _; rfl
  | cons x l ih =>
    intro h
    rw [List.find?_cons, List.find?_cons, h x (List.mem_cons_self ..), ih fun y hy => h y (List.mem_cons_of_mem _ hy)]

theorem findByte_spec (c : Nat) : ∀ (l : List UInt8) (k : Nat), findByte c l k = ((List.range l.length).find? fun i => Nat.beq (l.getD i 0).toNat c).map (· + k) := by
  intro l
  induction l with
  | nil => intro k; rfl
  | cons b l ih =>
    intro k
    simp only [findByte]
    rw [List.length_cons, List.range_succ_eq_map, List.find?_cons]
    show _ = Option.map (· + k) (match Nat.beq b.toNat c with | true => some 0 | false => _)
    cases hb : Nat.beq b.toNat c with
    | true => simp
    | false =>
      rw [cond_false, ih (k + 1), List.find?_map]
      show _ = Option.map (· + k) (Option.map Nat.succ ((List.range l.length).find? fun i => Nat.beq (l.getD i 0).toNat c))
      rw [Option.map_map]
      congr 1
      funext i
      show i + (k + 1) = Nat.succ i + k
      omega

theorem byteNum_eq {x : Value} {c : Nat} (h : byteNum x = some c) : x = .int .u8 (c : Int) ∧ c < 256 := by
  unfold byteNum at h
  split at h
  · rename_i m
    cases hb : Nat.ble 256 m with
    | true => rw [hb] at h; cases h
    | false =>
      rw [hb, cond_false] at h
      obtain rfl := Option.some.inj h
      exact ⟨rfl, ble_false hb⟩
  · cases h

theorem strV_eq {x : Value} {l : List UInt8} (h : strV x = some l) : ∃ z : ByteArray, x = .string z ∧ l = z.data.toList := by
  cases x <;> simp only [strV] at h <;> try (cases h; done)
  exact ⟨_, rfl, (Option.some.inj h).symm⟩

theorem byte_same (b : UInt8) {c : Nat} (hc : c < 256) : (b == ((c : Int).toNat.toUInt8)) = Nat.beq b.toNat c := by
  have e : ((c : Int).toNat.toUInt8).toNat = c := by simp; omega
  rw [Bool.eq_iff_iff]
  constructor
  · intro h
    have := congrArg UInt8.toNat (eq_of_beq h)
    rw [e] at this
    rw [this]; exact Nat.beq_refl _
  · intro h
    rw [beq_iff_eq]
    apply UInt8.toNat_inj.1
    rw [e]; exact Nat.eq_of_beq_eq_true h

theorem getB (z : ByteArray) (i : Nat) (hi : i < z.size) : z[i]! = z.data.toList.getD i 0 := by
  rw [getElem!_pos z i hi]
  show z.data[i] = _
  rw [List.getD_eq_getElem?_getD, Array.getElem?_toList, Array.getElem?_eq_getElem (show i < z.data.size from hi)]; rfl

theorem firstIdx_eq (z : ByteArray) {c : Nat} (hc : c < 256) : firstIdx z ((c : Int).toNat.toUInt8) = match findByte c z.data.toList 0 with | some i => (i : Int) | none => -1 := by
  unfold firstIdx
  rw [findByte_spec]
  have e : ((List.range z.size).find? fun i => z[i]! == ((c : Int).toNat.toUInt8)) = (List.range z.data.toList.length).find? fun i => Nat.beq (z.data.toList.getD i 0).toNat c := by
    have hl : z.data.toList.length = z.size := rfl
    rw [hl]
    refine find_congr' fun i hi => ?_
    rw [byte_same _ hc, getB z i (List.mem_range.1 hi)]
  rw [e]
  cases (List.range z.data.toList.length).find? fun i => Nat.beq (z.data.toList.getD i 0).toNat c <;> rfl

section ext
variable {P : Program} {Γ : Cx}

/-- the function that finds a byte in a string -/
structure IsIndex (P : Program) (f : Nat) (fn : Func) : Prop where
  at_ : P.funcs[f]? = some fn
  name : (fn.name == "runtime.NumGoroutine") = false
  none : fn.body.isNone = true
  next : Extern.findNext fn = Option.none
  row : Extern.find fn = some Extern.BytealgIndexByte.indexByte

theorem index_ok {f : Nat} {fn : Func} (I : IsIndex P f fn) {ρ : Rho} {as as' : List Value} {v : Value} {s s' : HS} {w : World} (hv : extV .indexByte Γ as s = some (v, s')) (pre : Pre Γ ρ s w s') (ha : VRs ρ as as') {F : Fence} :
    Upon P Γ F ρ s w v s' ((callFunc f as'.toArray).run P w) := by
  simp only [extV] at hv
  split at hv
  · rename_i x y
    simp only [have_eq] at hv
    obtain ⟨l, hl, c, hc, hv⟩ := hv
    obtain ⟨z, rfl, rfl⟩ := strV_eq hl
    obtain ⟨rfl, hc2⟩ := byteNum_eq hc
    obtain ⟨x', r', rfl, hx, hr⟩ := ha.ex
    obtain ⟨y', r', rfl, hy, hr⟩ := hr.ex
    obtain rfl := hr.nil_ex
    cases hx
    cases hy
    have hrun : (callFunc f #[.string z, .int .u8 (c : Int)]).run P w = .ok (.value (.int .i64 (firstIdx z ((c : Int).toNat.toUInt8)))) w := by
      rw [run_callFunc_indexByte I.at_ I.name I.none I.next I.row, run_indexByte_string]
      rfl
    show Upon P Γ F ρ s w v s' ((callFunc f #[.string z, .int .u8 (c : Int)]).run P w)
    rw [hrun, firstIdx_eq z hc2]
    cases hf : findByte c z.data.toList 0 with
    | none =>
      rw [hf] at hv
      simp only [pure_eq, Prod.mk.injEq] at hv
      obtain ⟨rfl, rfl⟩ := hv
      exact ⟨ρ, .int _ _, Stp.same pre.inv rfl⟩
    | some i =>
      rw [hf] at hv
      simp only [pure_eq, Prod.mk.injEq] at hv
      obtain ⟨rfl, rfl⟩ := hv
      exact ⟨ρ, by rw [goI_eq]; exact .int _ _, Stp.same pre.inv rfl⟩
  · simp [EM.fail] at hv

theorem extOk_index (h : ∀ f e, Γ.ext f = some e → e = .indexByte ∧ ∃ fn, IsIndex P f fn) : ExtOk P Γ := by
  intro f e he as as' v s s' ρ w hv wf pre ha F hF
  obtain ⟨rfl, fn, I⟩ := h f e he
  exact index_ok I hv pre ha

end ext
end Go.Ideal

/-
  Functions that are not run by their text. Conditions: none.
-/
import Derived.Test.YtpoaiachllclhaaGreatDoorRun
import Derived.Laws.StandIn
import Derived.Lib.Fields
import Derived.Lib.Split
namespace Go.Ideal
open Go

theorem find_congr' {α : Type} {p q : α → Bool} : ∀ {l : List α}, (∀ x ∈ l, p x = q x) → l.find? p = l.find? q := by
  intro l
  induction l with
  | nil => intro _; rfl
  | cons x l ih =>
    intro h
    rw [List.find?_cons, List.find?_cons, h x (List.mem_cons_self ..), ih fun y hy => h y (List.mem_cons_of_mem _ hy)]

theorem findByte_spec (c : Nat) : ∀ (l : List UInt8) (k : Nat), findByte c l k = ((List.range l.length).find? fun i => Nat.beq (l.getD i 0).toNat c).map (· + k) := by
  intro l
  induction l with
  | nil => intro k; rfl
  | cons b l ih =>
    intro k
    simp only [findByte]
    rw [List.length_cons, List.range_succ_eq_map, List.find?_cons]
    show _ = Option.map (· + k) (match Nat.beq b.toNat c with | true => some 0 | false => _)
    cases hb : Nat.beq b.toNat c with
    | true => simp
    | false =>
      rw [cond_false, ih (k + 1), List.find?_map]
      show _ = Option.map (· + k) (Option.map Nat.succ ((List.range l.length).find? fun i => Nat.beq (l.getD i 0).toNat c))
      rw [Option.map_map]
      congr 1
      funext i
      show i + (k + 1) = Nat.succ i + k
      omega

theorem byteNum_eq {x : Value} {c : Nat} (h : byteNum x = some c) : x = .int .u8 (c : Int) ∧ c < 256 := by
  unfold byteNum at h
  split at h
  · rename_i m
    cases hb : Nat.ble 256 m with
    | true => rw [hb] at h; cases h
    | false =>
      rw [hb, cond_false] at h
      obtain rfl := Option.some.inj h
      exact ⟨rfl, ble_false hb⟩
  · cases h

theorem strV_eq {x : Value} {l : List UInt8} (h : strV x = some l) : ∃ z : ByteArray, x = .string z ∧ l = z.data.toList := by
  cases x <;> simp only [strV] at h <;> try (cases h; done)
  exact ⟨_, rfl, (Option.some.inj h).symm⟩

theorem byte_same (b : UInt8) {c : Nat} (hc : c < 256) : (b == ((c : Int).toNat.toUInt8)) = Nat.beq b.toNat c := by
  have e : ((c : Int).toNat.toUInt8).toNat = c := by simp; omega
  rw [Bool.eq_iff_iff]
  constructor
  · intro h
    have := congrArg UInt8.toNat (eq_of_beq h)
    rw [e] at this
    rw [this]; exact Nat.beq_refl _
  · intro h
    rw [beq_iff_eq]
    apply UInt8.toNat_inj.1
    rw [e]; exact Nat.eq_of_beq_eq_true h

theorem getB (z : ByteArray) (i : Nat) (hi : i < z.size) : z[i]! = z.data.toList.getD i 0 := by
  rw [getElem!_pos z i hi]
  show z.data[i] = _
  rw [List.getD_eq_getElem?_getD, Array.getElem?_toList, Array.getElem?_eq_getElem (show i < z.data.size from hi)]; rfl

theorem firstIdx_eq (z : ByteArray) {c : Nat} (hc : c < 256) : firstIdx z ((c : Int).toNat.toUInt8) = match findByte c z.data.toList 0 with | some i => (i : Int) | none => -1 := by
  unfold firstIdx
  rw [findByte_spec]
  have e : ((List.range z.size).find? fun i => z[i]! == ((c : Int).toNat.toUInt8)) = (List.range z.data.toList.length).find? fun i => Nat.beq (z.data.toList.getD i 0).toNat c := by
    have hl : z.data.toList.length = z.size := rfl
    rw [hl]
    refine find_congr' fun i hi => ?_
    rw [byte_same _ hc, getB z i (List.mem_range.1 hi)]
  rw [e]
  cases (List.range z.data.toList.length).find? fun i => Nat.beq (z.data.toList.getD i 0).toNat c <;> rfl

section ext
variable {P : Program} {Γ : Cx}

/-- the function that finds a byte in a string -/
structure IsIndex (P : Program) (f : Nat) (fn : Func) : Prop where
  at_ : P.funcs[f]? = some fn
  name : (fn.name == "runtime.NumGoroutine") = false
  none : fn.body.isNone = true
  next : Extern.findNext fn = Option.none
  row : Extern.find fn = some Extern.BytealgIndexByte.indexByte

theorem index_ok {f : Nat} {fn : Func} (I : IsIndex P f fn) {ρ : Rho} {as as' : List Value} {v : Value} {s s' : HS} {w : World} (hv : extV .indexByte Γ as s = some (v, s')) (pre : Pre Γ ρ s w s') (ha : VRs ρ as as') {F : Fence} :
    Upon P Γ F ρ s w v s' ((callFunc f as'.toArray).run P w) := by
  simp only [extV] at hv
  split at hv
  · rename_i x y
    simp only [have_eq] at hv
    obtain ⟨l, hl, c, hc, hv⟩ := hv
    obtain ⟨z, rfl, rfl⟩ := strV_eq hl
    obtain ⟨rfl, hc2⟩ := byteNum_eq hc
    obtain ⟨x', r', rfl, hx, hr⟩ := ha.ex
    obtain ⟨y', r', rfl, hy, hr⟩ := hr.ex
    obtain rfl := hr.nil_ex
    cases hx
    cases hy
    have hrun : (callFunc f #[.string z, .int .u8 (c : Int)]).run P w = .ok (.value (.int .i64 (firstIdx z ((c : Int).toNat.toUInt8)))) w := by
      rw [run_callFunc_indexByte I.at_ I.name I.none I.next I.row, run_indexByte_string]
      rfl
    show Upon P Γ F ρ s w v s' ((callFunc f #[.string z, .int .u8 (c : Int)]).run P w)
    rw [hrun, firstIdx_eq z hc2]
    cases hf : findByte c z.data.toList 0 with
    | none =>
      rw [hf] at hv
      simp only [pure_eq, Prod.mk.injEq] at hv
      obtain ⟨rfl, rfl⟩ := hv
      exact ⟨ρ, .int _ _, Stp.same pre.inv rfl⟩
    | some i =>
      rw [hf] at hv
      simp only [pure_eq, Prod.mk.injEq] at hv
      obtain ⟨rfl, rfl⟩ := hv
      exact ⟨ρ, by rw [goI_eq]; exact .int _ _, Stp.same pre.inv rfl⟩
  · simp [EM.fail] at hv

theorem extOk_index (h : ∀ f e, Γ.ext f = some e → e = .indexByte ∧ ∃ fn, IsIndex P f fn) : ExtOk P Γ := by
  intro f e he as as' v s s' ρ w hv wf pre ha F hF
  obtain ⟨rfl, fn, I⟩ := h f e he
  exact index_ok I hv pre ha

end ext
end Go.Ideal

namespace Go.Ideal
open Go

section ext
variable {P : Program} {Γ : Cx} {ρ : Rho} {s s' : HS} {w : World}

theorem newStrings_ok {t t' : TypeId} {l : List (List UInt8)} {v : Value} (h : newStrings t l s = some (v, s')) (pre : Pre Γ ρ s w s') :
    ∃ ρ', VR ρ' v (.slice (some ⟨w.heap.size, 0, none⟩) l.length l.length) ∧ Stp Γ ρ s w ρ' s' (w.alloc (.cells (l.map fun x => Value.string ⟨x.toArray⟩).toArray t')) := by
  simp only [newStrings, bind_eq] at h
  obtain ⟨a, s1, h1, h⟩ := h
  rw [force_eq, pure_eq, Prod.mk.injEq] at h
  obtain ⟨rfl, rfl⟩ := h
  have hv : VRs ρ (l.map fun x => Value.string ⟨x.toArray⟩) (l.map fun x => Value.string ⟨x.toArray⟩).toArray.toList := by
    refine VRs.refl_of fun u hu => ?_
    simp only [List.mem_map] at hu
    obtain ⟨x, -, rfl⟩ := hu
    exact .str _
  obtain ⟨ρ', rfl, g1, g2, g3⟩ := newTight (P := default) (e' := t') (arr := (l.map fun x => Value.string ⟨x.toArray⟩).toArray) h1 pre hv
  exact ⟨ρ', VR.slAt g2, g3⟩

end ext
end Go.Ideal

namespace Go.Ideal
open Go

theorem isSp_eq (b : UInt8) : isSp b = Lib.isSp b := by
  have h : ∀ i : Fin 256, isSp (UInt8.ofNat i.val) = Lib.isSp (UInt8.ofNat i.val) := by decide +kernel
  have := h ⟨b.toNat, b.toNat_lt⟩
  simpa using this

theorem fieldsGo_eq : ∀ (l cur : List UInt8), fieldsGo l cur = Lib.fieldsGo cur l := by
  intro l
  induction l with
  | nil => intro cur; cases cur <;> simp [fieldsGo, Lib.fieldsGo]
  | cons b l ih =>
    intro cur
    simp only [fieldsGo, Lib.fieldsGo, isSp_eq]
    cases Lib.isSp b <;> cases cur <;> simp [ih]

end Go.Ideal

namespace Go.Ideal
open Go

section ext
variable {P : Program} {Γ : Cx}

/-- the function that finds the fields of a text -/
structure IsFields (P : Program) (Γ : Cx) (f : Nat) : Prop where
  enters : ∀ args w, (callFunc f args).run P w = .ok (.enter f args) w
  calls : ∃ t : TypeId, ∀ (s : ByteArray) (w : World), s.size < 4294967281 → (∀ (j : Nat) b, s.data.toList[j]? = some b → b.toNat < 128) → (∀ b o, Γ.fix b = some o → w.heap[b]? = some o) →
    Calls P f #[.string s] w fun e w' => e = .returned (.slice (some ⟨w.heap.size, 0, none⟩) (Lib.fields s.data.toList).length (Lib.fields s.data.toList).length) ∧
      w' = w.alloc (.cells ((Lib.fields s.data.toList).map fun l => Value.string ⟨l.toArray⟩).toArray t)

theorem ascii_mem {l : List UInt8} (h : ascii l = true) : ∀ (j : Nat) b, l[j]? = some b → b.toNat < 128 := fun j b hb => by
  have := List.all_eq_true.1 h b (List.mem_of_getElem? hb)
  have h2 : b.toNat ≤ 127 := Nat.le_of_ble_eq_true this
  exact Nat.lt_of_le_of_lt h2 (by decide)

theorem fields_ok {f : Nat} (I : IsFields P Γ f) {ρ : Rho} {as as' : List Value} {v : Value} {s s' : HS} {w : World} (hv : extV .fields Γ as s = some (v, s')) (pre : Pre Γ ρ s w s') (ha : VRs ρ as as') {F : Fence} (hF : Wide F) :
    Upon P Γ F ρ s w v s' ((callFunc f as'.toArray).run P w) := by
  simp only [extV] at hv
  split at hv
  · rename_i x
    simp only [have_eq, need_eq, Bool.and_eq_true] at hv
    obtain ⟨l, hl, ⟨hasc, hlen⟩, hv⟩ := hv
    obtain ⟨z, rfl, rfl⟩ := strV_eq hl
    obtain ⟨x', r', rfl, hx, hr⟩ := ha.ex
    obtain rfl := hr.nil_ex
    cases hx
    have hlen := Nat.le_of_ble_eq_true hlen
    have hz : z.data.toList.length = z.size := rfl
    obtain ⟨t, hc⟩ := I.calls
    rw [I.enters]
    show CallsIn F 0 P f #[.string z] w (Res Γ ρ s w v s')
    refine hF.calls ?_
    have := hc z w (by omega) (ascii_mem hasc) fun b o hb => (pre.fix.keep b o hb).1
    have h9 : CallsIn Fence.wide 0 P f #[.string z] w _ := callsIn_wide.2 this
    refine CallsIn.mono h9 ?_
    rintro e w' ⟨rfl, rfl⟩
    rw [fieldsGo_eq] at hv
    obtain ⟨ρ', h1, h2⟩ := newStrings_ok (t' := t) hv pre
    exact ⟨_, ρ', rfl, h1, h2⟩
  · simp [EM.fail] at hv

end ext
end Go.Ideal

namespace Go.Ideal
open Go

theorem prefix_one (c b : UInt8) (l : List UInt8) : [c].isPrefixOf (b :: l) = Nat.beq b.toNat c.toNat := by
  simp only [List.isPrefixOf, Bool.and_true]
  rw [Bool.eq_iff_iff, beq_iff_eq]
  constructor
  · rintro rfl; exact Nat.beq_refl _
  · intro h; exact (UInt8.toNat_inj.1 (Nat.eq_of_beq_eq_true h)).symm

theorem splitGo_cut (c : UInt8) : ∀ (l cur : List UInt8), (Lib.index l [c] = -1 ∧ splitGo c.toNat l cur = [cur ++ l]) ∨
    ∃ i : Nat, Lib.index l [c] = i ∧ i < l.length ∧ splitGo c.toNat l cur = (cur ++ l.take i) :: splitGo c.toNat (l.drop (i + 1)) [] := by
  intro l
  induction l with
  | nil => intro cur; exact .inl ⟨rfl, by simp [splitGo]⟩
  | cons b l ih =>
    intro cur
    simp only [splitGo, Lib.index, prefix_one]
    cases hb : Nat.beq b.toNat c.toNat with
    | true => exact .inr ⟨0, by simp, by simp, by simp⟩
    | false =>
      simp only [cond_false, Bool.false_eq_true, if_false]
      rcases ih (cur ++ [b]) with ⟨h1, h2⟩ | ⟨i, h1, h2, h3⟩
      · exact .inl ⟨by rw [h1]; rfl, by rw [h2]; simp⟩
      · refine .inr ⟨i + 1, ?_, by simp; omega, ?_⟩
        · have hn : ¬ (Lib.index l [c] == -1) = true := fun e => by have := beq_iff_eq.1 e; omega
          rw [if_neg hn, h1]; rfl
        · rw [h3]; simp

theorem split_eq (c : UInt8) : ∀ (n : Nat) (s : List UInt8), s.length ≤ n → Lib.splitK [c] 0 (Lib.count s [c]) s = splitGo c.toNat s [] ∧ (splitGo c.toNat s []).length = Lib.count s [c] + 1 := by
  intro n
  induction n with
  | zero =>
    intro s hs
    obtain rfl : s = [] := List.length_eq_zero_iff.1 (by omega)
    have h : Lib.index ([] : List UInt8) [c] = -1 := rfl
    rw [Lib.count_miss h]
    exact ⟨rfl, rfl⟩
  | succ n ih =>
    intro s hs
    rcases splitGo_cut c s [] with ⟨h1, h2⟩ | ⟨i, h1, h2, h3⟩
    · rw [Lib.count_miss h1, h2]
      exact ⟨rfl, rfl⟩
    · rw [Lib.count_hit (by simp) h1, h3, Nat.add_comm 1]
      have hl : (s.drop (i + [c].length)).length ≤ n := by simp; omega
      obtain ⟨g1, g2⟩ := ih _ hl
      have hn : ¬ (Lib.index s [c] == -1) = true := fun e => by have := beq_iff_eq.1 e; omega
      have e : (Lib.index s [c]).toNat = i := by omega
      rw [Lib.splitK, if_neg hn, e, g1]
      exact ⟨by simp, congrArg (· + 1) g2⟩

theorem splitB_eq (s sep : ByteArray) (c : UInt8) (h : sep.data.toList = [c]) :
    ((Lib.splitB sep 0 (Lib.countB s sep) s).map Value.string) = (splitGo c.toNat s.data.toList []).map (fun x => Value.string ⟨x.toArray⟩) ∧ (splitGo c.toNat s.data.toList []).length = Lib.countB s sep + 1 := by
  have e : Lib.countB s sep = Lib.count s.data.toList [c] := by rw [← h]
  obtain ⟨g1, g2⟩ := split_eq c _ s.data.toList (Nat.le_refl _)
  have d := Lib.splitB_data sep 0 (Lib.countB s sep) s
  rw [h, e, g1] at d
  rw [e]
  refine ⟨?_, g2⟩
  rw [← d, List.map_map]
  rfl

end Go.Ideal

namespace Go.Ideal
open Go

section ext
variable {P : Program} {Γ : Cx}

/-- the function that splits a text -/
structure IsSplit (P : Program) (Γ : Cx) (f : Nat) : Prop where
  enters : ∀ args w, (callFunc f args).run P w = .ok (.enter f args) w
  calls : ∃ t : TypeId, ∀ (s sep : ByteArray) (w : World), s.size < 4294967281 → 1 ≤ sep.size → (∀ b o, Γ.fix b = some o → w.heap[b]? = some o) →
    Calls P f #[.string s, .string sep] w fun e w' => e = .returned (.slice (some ⟨w.heap.size, 0, none⟩) (Lib.countB s sep + 1) (Lib.countB s sep + 1)) ∧
      w' = w.alloc (.cells ((Lib.splitB sep 0 (Lib.countB s sep) s).map Value.string).toArray t)

theorem oneByte_eq {l : List UInt8} {c : Nat} (h : oneByte l = some c) : ∃ b : UInt8, l = [b] ∧ c = b.toNat := by
  unfold oneByte at h
  split at h
  · rename_i b
    exact ⟨b, rfl, (Option.some.inj h).symm⟩
  · cases h

theorem split_ok {f : Nat} (I : IsSplit P Γ f) {ρ : Rho} {as as' : List Value} {v : Value} {s s' : HS} {w : World} (hv : extV .split Γ as s = some (v, s')) (pre : Pre Γ ρ s w s') (ha : VRs ρ as as') {F : Fence} (hF : Wide F) :
    Upon P Γ F ρ s w v s' ((callFunc f as'.toArray).run P w) := by
  simp only [extV] at hv
  split at hv
  · rename_i x y
    simp only [have_eq, need_eq] at hv
    obtain ⟨l, hl, q, hq, c, hc, hlen, hv⟩ := hv
    obtain ⟨z, rfl, rfl⟩ := strV_eq hl
    obtain ⟨y, rfl, rfl⟩ := strV_eq hq
    obtain ⟨b, hb, rfl⟩ := oneByte_eq hc
    obtain ⟨x', r', rfl, hx, hr⟩ := ha.ex
    obtain ⟨y', r', rfl, hy, hr⟩ := hr.ex
    obtain rfl := hr.nil_ex
    cases hx
    cases hy
    have hlen := Nat.le_of_ble_eq_true hlen
    have hz : z.data.toList.length = z.size := rfl
    have hy1 : y.data.toList.length = y.size := rfl
    obtain ⟨t, hk⟩ := I.calls
    rw [I.enters]
    show CallsIn F 0 P f #[.string z, .string y] w (Res Γ ρ s w v s')
    refine hF.calls ?_
    have := hk z y w (by omega) (by rw [← hy1, hb]; simp) fun b o hb => (pre.fix.keep b o hb).1
    have h9 : CallsIn Fence.wide 0 P f #[.string z, .string y] w _ := callsIn_wide.2 this
    refine CallsIn.mono h9 ?_
    rintro e w' ⟨rfl, rfl⟩
    obtain ⟨g1, g2⟩ := splitB_eq z y b hb
    obtain ⟨ρ', h1, h2⟩ := newStrings_ok (t' := t) hv pre
    rw [g1, ← g2]
    exact ⟨_, ρ', rfl, h1, h2⟩
  · simp [EM.fail] at hv

/-- what is asked of one function that is not run by its text -/
def ExtAt (P : Program) (Γ : Cx) (f : Nat) (e : Ext) : Prop := ∀ {as as' v s s' ρ w}, extV e Γ as s = some (v, s') → WF s → Pre Γ ρ s w s' → VRs ρ as as' → ∀ F, Wide F → Upon P Γ F ρ s w v s' ((callFunc f as'.toArray).run P w)

theorem extOk_of (h : ∀ f e, Γ.ext f = some e → (e = .indexByte ∧ ∃ fn, IsIndex P f fn) ∨ (e = .fields ∧ IsFields P Γ f) ∨ (e = .split ∧ IsSplit P Γ f) ∨ ExtAt P Γ f e) : ExtOk P Γ := by
  intro f e he as as' v s s' ρ w hv wf pre ha F hF
  rcases h f e he with ⟨rfl, h⟩ | ⟨rfl, I⟩ | ⟨rfl, I⟩ | h
  · obtain ⟨fn, I⟩ := h
    exact index_ok I hv pre ha
  · exact fields_ok I hv pre ha hF
  · exact split_ok I hv pre ha hF
  · exact h hv wf pre ha F hF

end ext
end Go.Ideal

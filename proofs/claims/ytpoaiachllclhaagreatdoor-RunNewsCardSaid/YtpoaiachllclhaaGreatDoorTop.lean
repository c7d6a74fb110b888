/-
  Calls one behind the other: what is known of a world that the evaluator has gone through. Conditions: none.
-/
import Derived.Test.YtpoaiachllclhaaGreatDoorRun
import Derived.Below
namespace Go.Ideal
open Go Go.RowKit

section top
variable {P : Program} {Γ : Cx}

/-- the evaluator's state is the world's: what may be written lies from block M on, what is there below block N; v is u -/
structure Known (Γ : Cx) (s : HS) (v : Value) (M N : Nat) (w : World) (u : Value) : Prop where
  wf : WF s
  ex : ∃ ρ : Rho, VR ρ v u ∧ Inv Γ ρ s.h w ∧ (∀ i rb, ρ i = some rb → i < s.nx) ∧ (∀ b, Img ρ s.h b → M ≤ b) ∧ (∀ b, ImgL ρ s.h b → b < N) ∧ NameOk Γ ρ

theorem Known.keep {s : HS} {v u : Value} {M N : Nat} {w w' : World} (h : Known Γ s v M N w u) (hb : ∀ b, b < N → w'.heap[b]? = w.heap[b]?) : Known Γ s v M N w' u := by
  obtain ⟨wf, ρ, h1, h2, h3, h4, h5, h6⟩ := h
  exact ⟨wf, ρ, h1, ⟨fun j y rb hj hr => (h2.obj j y rb hj hr).of_heap_g fun hg hl => hb _ (h5 _ ⟨j, y, rb, hj, hl, hr, hg, rfl⟩), h2.apart, h2.lim⟩, h3, h4, h5, h6⟩

theorem Img.toL {ρ : Rho} {h : Tr IObj} {b : Nat} (hb : Img ρ h b) : ImgL ρ h b := by
  obtain ⟨i, x, rb, h1, h2, h3⟩ := hb
  exact ⟨i, x, rb, h1, live_of_wrt h2, h3⟩

theorem ImgL.lt {ρ : Rho} {h : Tr IObj} {b : Nat} {w : World} (inv : Inv Γ ρ h w) (hb : ImgL ρ h b) : b < w.heap.size := by
  obtain ⟨i, x, rb, h1, h2, h3, h4, rfl⟩ := hb
  exact (inv.obj i x rb h1 h3).lt h2 h4

/-- a state whose marks are begun anew -/
def clean (s : HS) : HS := { h := s.h, nx := s.nx, wm := s.nx, rd := .e, wr := .e }

theorem clean_wf {s : HS} (h : WF s) : WF (clean s) :=
  ⟨Nat.le_refl _, h.lim, h.free, h.short, fun k hk => by rcases hk with hk | hk <;> exact absurd (Tr.get_e k) hk⟩

def noMarks : Tr Unit → Bool
  | .e => true
  | _ => false

/-- a run that wrote nothing and made nothing has turned nothing -/
theorem run_same {α : Type} {m : EM α} {a : α} {s s' : HS} (l : Loc m) (h : m (clean s) = some (a, s')) (wf : WF s) (hw : noMarks s'.wr = true) : ∀ i, i < s.nx → s'.h.get i = s.h.get i := by
  have L := l.at_ _ _ _ (clean_wf wf) h
  have he : s'.wr = .e := by
    generalize s'.wr = t at hw
    cases t with
    | e => rfl
    | n => cases hw
  intro i hi
  exact get_of_views (fun k hk => L.keep k (by show k / 4096 < s.nx; omega) (by rw [he]; exact Tr.get_e k)) fun x c hx hc => wf.short i x c hx hc

/-- what the facts of a program are: `hn` speaks of names -/
structure Ready (P : Program) (Γ : Cx) : Prop where
  cx : CxOk P Γ
  mixed : P.follows .mixedOrders = true
  ext : ExtOk P Γ
  name : ∀ (f : Nat) (fn : Func), P.funcs[f]? = some fn → (fn.name == "runtime.NumGoroutine") = false

/-- a call from nothing -/
theorem call_new (R : Ready P Γ) {rounds k f n : Nat} {as as' : List Value} {v : Value} {s' : HS} (hs : n ≤ 200000) (hbase : ∀ i, Γ.base i = none) (he : Γ.ext f = none)
    (h : callF Γ rounds k true f as (boot n []) = some (v, s')) (ha : VRs ⟨fun _ => none, Γ.σ⟩ as as') (w : World) (hfx : ∀ b o, Γ.fix b = some o → w.heap[b]? = some o) :
    Calls P f as'.toArray w fun e w' => ∃ u, e = .returned u ∧ Below w.heap.size w w' ∧ Known Γ s' v w.heap.size w'.heap.size w' u := by
  have K := callF_ok R.cx (drawOk R.cx R.mixed) R.ext R.name rounds k
  have none_ : ∀ j x, ((boot n []).h).get j = some x → False := fun j x hj => by
    have hj : (Tr.e : Tr IObj).get j = some x := hj
    rw [Tr.get_e] at hj; cases hj
  have inv : Inv Γ ⟨fun _ => none, Γ.σ⟩ (boot n []).h w := ⟨fun i x rb _ hr => (by cases hr), fun i j x y rb rb' _ _ _ _ _ hr => (by cases hr), fun i rb hr => (by cases hr)⟩
  obtain ⟨-, hc⟩ := K.fn he h (boot_wf n hs) (w := w) (ρ := ⟨fun _ => none, Γ.σ⟩) ⟨inv, fun _ _ _ => rfl, ⟨rfl, fun i rb hi => by rw [hbase] at hi; cases hi⟩, fun b o hb => ⟨hfx b o hb, fun ⟨j, x, rb, hj, _⟩ => none_ j x hj⟩⟩ ha
  have wf := ((Loc.callF (Γ := Γ) rounds k true f as).at_ _ _ _ (boot_wf n hs) h).wf
  refine callsIn_wide.1 (CallsIn.mono (hc Fence.wide wide_wide) ?_)
  rintro e w' ⟨v', ρ', rfl, hv, st⟩
  refine ⟨v', rfl, ⟨st.os, st.tape, st.out, st.size, fun i hi => st.frame i hi ?_⟩, wf, ρ', hv, st.inv, fun i rb hi => ?_, fun b hb => ?_, fun b hb => hb.lt st.inv, (NameOk.up ⟨rfl, fun i rb hi => by rw [hbase] at hi; cases hi⟩ st.ext)⟩
  · rintro ⟨j, x, rb, hj, -⟩
    exact none_ _ _ hj
  · rcases st.dom i rb hi with hi | ⟨-, hi⟩
    · cases hi
    · exact hi
  · rcases st.own b hb with hb | ⟨j, x, rb, hj, -⟩
    · exact hb
    · exact (none_ _ _ hj).elim

/-- a call from what came in, of which nothing is written -/
theorem call_in (R : Ready P Γ) {rounds k f : Nat} {as as' : List Value} {v : Value} {s s' : HS} {ρ : Rho} {w : World} (he : Γ.ext f = none) (h : callF Γ rounds k true f as s = some (v, s')) (wf : WF s) (inv : Inv Γ ρ s.h w)
    (dom : ∀ i rb, ρ i = some rb → i < s.nx) (nm : NameOk Γ ρ) (ro : ∀ b, ¬ Img ρ s.h b) (hfx : ∀ b o, Γ.fix b = some o → w.heap[b]? = some o) (ha : VRs ρ as as') :
    Calls P f as'.toArray w fun e w' => ∃ u ρ', e = .returned u ∧ VR ρ' v u ∧ Below w.heap.size w w' := by
  have K := callF_ok R.cx (drawOk R.cx R.mixed) R.ext R.name rounds k
  obtain ⟨-, hc⟩ := K.fn he h wf (w := w) (ρ := ρ) ⟨inv, fun i hi _ => by
      cases hr : ρ i with
      | none => rfl
      | some rb => exact absurd (dom i rb hr) (by omega), nm, fun b o hb => ⟨hfx b o hb, ro b⟩⟩ ha
  refine callsIn_wide.1 (CallsIn.mono (hc Fence.wide wide_wide) ?_)
  rintro e w' ⟨v', ρ', rfl, hv, st⟩
  exact ⟨v', ρ', rfl, hv, st.os, st.tape, st.out, st.size, fun i hi => st.frame i hi (ro i)⟩

/-- a reading of blocks, below a number alone -/
def cutRho (ρ : Rho) (n : Nat) : Rho := ⟨fun i => if i < n then ρ i else none, ρ.σ⟩

theorem cutRho_at (ρ : Rho) (n i : Nat) : cutRho ρ n i = if i < n then ρ i else none := rfl
theorem cutRho_lt {ρ : Rho} {n i : Nat} {rb : RB} (h : ρ i = some rb) (hi : i < n) : cutRho ρ n i = some rb := by rw [cutRho_at, if_pos hi]; exact h
theorem cutRho_of {ρ : Rho} {n i : Nat} {rb : RB} (h : cutRho ρ n i = some rb) : i < n ∧ ρ i = some rb := by
  rw [cutRho_at] at h
  split at h
  · exact ⟨‹_›, h⟩
  · cases h

theorem VR.agg_inv {ρ : Rho} {l : List Value} {u : Value} (h : VR ρ (.agg l.toArray) u) : ∃ l', u = .agg l'.toArray ∧ VRs ρ l l' := by
  generalize e : Value.agg l.toArray = x at h
  cases h with
  | agg m m' h1 h2 =>
    injection e with e
    have e : l = m := by simpa using e
    subst e
    exact ⟨m', rfl, h1, h2⟩
  | _ => cases e

theorem VR.tup_inv {ρ : Rho} {l : List Value} {u : Value} (h : VR ρ (.tuple l.toArray) u) : ∃ l', u = .tuple l'.toArray ∧ VRs ρ l l' := by
  generalize e : Value.tuple l.toArray = x at h
  cases h with
  | tup m m' h1 h2 =>
    injection e with e
    have e : l = m := by simpa using e
    subst e
    exact ⟨m', rfl, h1, h2⟩
  | _ => cases e

theorem VR.fn_inv {ρ : Rho} {f : FuncId} {l k : List Value} {u : Value} (h : VR ρ (.func (.func f) l.toArray k.toArray) u) : ∃ l' k', u = .func (.func f) l'.toArray k'.toArray ∧ VRs ρ l l' ∧ VRs ρ k k' := by
  generalize e : Value.func (.func f) l.toArray k.toArray = x at h
  cases h with
  | fn g l2 l2' m m' h1 h2 h3 h4 =>
    injection e with e0 e1 e2
    injection e0 with e0
    have e1 : l = l2 := by simpa using e1
    have e2 : k = m := by simpa using e2
    subst e0 e1 e2
    exact ⟨l2', m', rfl, ⟨h1, h2⟩, h3, h4⟩
  | _ => cases e

theorem VR.cut {ρ0 ρ : Rho} {n : Nat} (hn : ∀ i rb, ρ0 i = some rb → i < n) {v v' : Value} (h : VR ρ v v') : ∀ {v0 : Value}, VR ρ0 v v0 → VR (cutRho ρ n) v v' := by
  induction h with
  | bool b => intro _ _; exact .bool b
  | int k n => intro _ _; exact .int k n
  | str s => intro _ _; exact .str s
  | ptr0 => intro _ _; exact .ptr0
  | ptr b o rb h1 h2 =>
    intro v0 h0
    cases h0 with
    | ptr _ _ rb0 g1 g2 => exact .ptr b o rb (cutRho_lt h1 (hn _ _ g1)) h2
  | sl0 n c => intro _ _; exact .sl0 n c
  | sl b o n c c' rb h1 h2 h3 =>
    intro v0 h0
    cases h0 with
    | sl _ _ _ _ _ rb0 g1 g2 g3 => exact .sl b o n c c' rb (cutRho_lt h1 (hn _ _ g1)) h2 h3
    | slg _ _ _ _ rb0 g1 g2 => exact .sl b o _ _ c' rb (cutRho_lt h1 (hn _ _ g1)) h2 h3
  | slg b o c' a' rb h1 h2 =>
    intro v0 h0
    cases h0 with
    | sl _ _ _ _ _ rb0 g1 g2 g3 => exact .slg b o c' a' rb (cutRho_lt h1 (hn _ _ g1)) h2
    | slg _ _ _ _ rb0 g1 g2 => exact .slg b o c' a' rb (cutRho_lt h1 (hn _ _ g1)) h2
  | map0 => intro _ _; exact .map0
  | map r rb h1 =>
    intro v0 h0
    cases h0 with
    | map _ rb0 g1 => exact .map r rb (cutRho_lt h1 (hn _ _ g1))
  | chan r rb h1 =>
    intro v0 h0
    cases h0 with
    | chan _ rb0 g1 => exact .chan r rb (cutRho_lt h1 (hn _ _ g1))
  | nilF => intro _ _; exact .nilF
  | nilI => intro _ _; exact .nilI
  | sym lo hi z h1 h2 h3 => intro _ _; exact .sym lo hi z h1 h2 h3
  | sym8 lo hi z h1 h2 h3 => intro _ _; exact .sym8 lo hi z h1 h2 h3
  | opq n a c => intro _ _; exact .opq n a c
  | name i h1 h2 => intro _ _; exact VR.name (ρ := cutRho ρ n) i h1 h2
  | any v h1 h2 => intro _ _; exact .any v h1 h2
  | fn f l l' m m' h1 _ h3 _ ih1 ih2 =>
    intro v0 h0
    obtain ⟨l0, m0, -, hl, hm⟩ := h0.fn_inv
    exact .fn f l l' m m' h1 (fun j v v' hj hj' => let ⟨_, _, hr⟩ := hl.get hj; ih1 j v v' hj hj' hr) h3 (fun j v v' hj hj' => let ⟨_, _, hr⟩ := hm.get hj; ih2 j v v' hj hj' hr)
  | yld l rb h1 =>
    intro v0 h0
    cases h0 with
    | yld _ rb0 g1 => exact .yld l rb (cutRho_lt h1 (hn _ _ g1))
  | agg l l' h1 _ ih =>
    intro v0 h0
    obtain ⟨l0, -, hl⟩ := h0.agg_inv
    exact .agg l l' h1 (fun j v v' hj hj' => let ⟨_, _, hr⟩ := hl.get hj; ih j v v' hj hj' hr)
  | tup l l' h1 _ ih =>
    intro v0 h0
    obtain ⟨l0, -, hl⟩ := h0.tup_inv
    exact .tup l l' h1 (fun j v v' hj hj' => let ⟨_, _, hr⟩ := hl.get hj; ih j v v' hj hj' hr)

theorem OR.cut {ρ0 ρ : Rho} {n : Nat} (hn : ∀ i rb, ρ0 i = some rb → i < n) {w0 w : World} {rb0 rb : RB} {x : IObj} (h : OR Γ ρ w rb x) (h0 : OR Γ ρ0 w0 rb0 x) (hg : rb0.ghost = rb.ghost) : OR Γ (cutRho ρ n) w rb x := by
  cases x with
  | cells c e l ro st =>
    refine ⟨h.1, fun hg' => ?_⟩
    obtain ⟨cs, e', fr, h1, cr⟩ := h.2 hg'
    obtain ⟨cs0, e0', fr0, h10, cr0⟩ := h0.2 (hg.trans hg')
    exact ⟨cs, e', fr, h1, cr.size, cr.len, cr.le, cr.loose, cr.tight, cr.esz, fun j v hv => let ⟨v', a, b⟩ := cr.cells j v hv; let ⟨_, _, b0⟩ := cr0.cells j v hv; ⟨v', a, b.cut hn b0⟩, cr.free, cr.plain⟩
  | map es clock =>
    obtain ⟨es', h1, ⟨h2, h3⟩, h4⟩ := h
    obtain ⟨es0', h10, ⟨h20, h30⟩, h40⟩ := h0
    refine ⟨es', h1, ⟨h2, fun j e e' he he' => ?_⟩, h4⟩
    obtain ⟨a1, a2, a3, a4⟩ := h3 j e e' he he'
    have hj : j < es0'.toList.length := by rw [← h20]; exact (List.getElem?_eq_some_iff.1 he).1
    obtain ⟨-, -, b3, -⟩ := h30 j e _ he (List.getElem?_eq_getElem hj)
    exact ⟨a1, a2, a3.cut hn b3, a4⟩
  | strIter s pos => exact h
  | mapIter m since seen stepped =>
    obtain ⟨m', a, b, c⟩ := h
    obtain ⟨m0', -, b0, -⟩ := h0
    refine ⟨m', a, ?_, c⟩
    cases m <;> cases m' <;> cases m0' <;> simp only [OptR] at b b0 ⊢
    obtain ⟨rb, e1, e2⟩ := b
    obtain ⟨rb0, e10, -⟩ := b0
    exact ⟨rb, cutRho_lt e1 (hn _ _ e10), e2⟩
  | loop st pend fn T size ps as bd mk =>
    obtain ⟨lp, a1, a2, a3, a4, a5, a6, a7, a8, a9, ⟨rb2, b1, b2⟩, a10⟩ := h
    obtain ⟨lp0, -, -, -, -, a50, -, -, -, -, ⟨rb20, b10, -⟩, -⟩ := h0
    exact ⟨lp, a1, a2, a3, a4, fun t v hv => let ⟨v', p, q⟩ := a5 t v hv; let ⟨_, _, q0⟩ := a50 t v hv; ⟨v', p, q.cut hn q0⟩, a6, a7, a8, a9, ⟨rb2, cutRho_lt b1 (hn _ _ b10), b2⟩, a10⟩
  | mark => exact h
  | chan cap buf =>
    obtain ⟨⟨b', s, r, a, b⟩, c⟩ := h
    obtain ⟨⟨b0', s0, r0, a0, b0⟩, c0⟩ := h0
    exact ⟨⟨b', s, r, a, b.1, fun j v v' hv hv' => let ⟨_, _, q⟩ := b0.get hv; (b.2 j v v' hv hv').cut hn q⟩, c⟩
  | zeros m e => exact h
  | dead => trivial

/-- a call upon what is known -/
theorem call_known (R : Ready P Γ) (hfx : ∀ b, Γ.fix b = none) {rounds k f M N : Nat} {as : List Value} {v u r : Value} {s s' : HS} (he : Γ.ext f = none)
    (h : callF Γ rounds k true f (v :: as) s = some (r, s')) (has : ∀ a ∈ as, plainConst a = true) {w : World} (hk : Known Γ s v M N w u) (hM : M ≤ w.heap.size) :
    Calls P f (u :: as).toArray w fun e w' => ∃ r' ρ', e = .returned r' ∧ VR ρ' r r' ∧ Below M w w' ∧ (∀ b, N ≤ b → b < w.heap.size → w'.heap[b]? = w.heap[b]?) ∧
      ((∀ i, i < s.nx → s'.h.get i = s.h.get i) → Known Γ s v M N w' u) := by
  have K := callF_ok R.cx (drawOk R.cx R.mixed) R.ext R.name rounds k
  obtain ⟨wf, ρ, h1, h2, h3, h4, h5, h6⟩ := hk
  have up := (Loc.callF (Γ := Γ) rounds k true f (v :: as)).up _ _ _ h
  obtain ⟨-, hc⟩ := K.fn he h wf (w := w) (ρ := ρ) (as' := u :: as) ⟨h2, fun i hi _ => by
      cases hr : ρ i with
      | none => rfl
      | some rb => exact absurd (h3 i rb hr) (by omega), h6, fun b o hb => by rw [hfx] at hb; cases hb⟩ (VRs.cons h1 (VRs.refl_of fun a ha => plainConst_VR ρ (has a ha)))
  refine callsIn_wide.1 (CallsIn.mono (hc Fence.wide wide_wide) ?_)
  rintro e w' ⟨r', ρ', rfl, hv, st⟩
  refine ⟨r', ρ', rfl, hv, ⟨st.os, st.tape, st.out, st.size, fun i hi => st.frame i (by omega) fun hb => ?_⟩, fun b hb hlt => st.frame b hlt fun hi => ?_, fun hh => ?_⟩
  · have := h4 i hb; omega
  · have := h5 b hi.toL; omega
  · have hle : Rho.le ρ (cutRho ρ' s.nx) := ⟨st.ext.val, fun i rb hi => cutRho_lt (st.ext.get _ _ hi) (h3 i rb hi)⟩
    have hold : ∀ i rb, cutRho ρ' s.nx i = some rb → ρ i = some rb := fun i rb hi => by
      obtain ⟨g1, g2⟩ := cutRho_of hi
      rcases st.dom i rb g2 with g | ⟨g, -⟩
      · exact g
      · omega
    refine ⟨wf, cutRho ρ' s.nx, h1.mono hle, ⟨fun i x rb hx hr => ?_, fun i j x y rb rb' hij hx hy lx ly hr hr' => ?_, fun i rb hr => st.inv.lim i rb (cutRho_of hr).2⟩, fun i rb hi => (cutRho_of hi).1, fun b hb => ?_, fun b hb => ?_, h6.up hle⟩
    · obtain ⟨g1, g2⟩ := cutRho_of hr
      exact (st.inv.obj i x rb (by rw [hh i g1]; exact hx) g2).cut h3 (h2.obj i x rb hx (hold i rb hr)) rfl
    · obtain ⟨g1, g2⟩ := cutRho_of hr
      obtain ⟨g1', g2'⟩ := cutRho_of hr'
      exact st.inv.apart i j x y rb rb' hij (by rw [hh i g1]; exact hx) (by rw [hh j g1']; exact hy) lx ly g2 g2'
    · obtain ⟨i, x, rb, g1, g2, g3, g4⟩ := hb
      exact h4 b ⟨i, x, rb, g1, g2, hold i rb g3, g4⟩
    · obtain ⟨i, x, rb, g1, g2, g3, g4⟩ := hb
      exact h5 b ⟨i, x, rb, g1, g2, hold i rb g3, g4⟩

/-- a run of whatever made new blocks alone is a step of a state that it does not know of -/
theorem Stp.below {ρ : Rho} {s s' : HS} {w w' : World} (inv : Inv Γ ρ s.h w) (hb : Below w.heap.size w w') (hh : s'.h = s.h) : Stp Γ ρ s w ρ s' w' where
  ext := Rho.le.refl ρ
  dom _ _ h := .inl h
  inv := by
    rw [hh]
    exact ⟨fun j y rb hj hr => (inv.obj j y rb hj hr).of_heap_g fun hg hl => hb.block _ ((inv.obj j y rb hj hr).lt hl hg), inv.apart, inv.lim⟩
  os := hb.os
  tape := hb.tape
  out := hb.output
  size := hb.size
  own _ h := .inr (by rw [hh] at h; exact h)
  frame b h _ := hb.block b h
  ownL _ h := .inr (by rw [hh] at h; exact h)

theorem VR.notAgg {ρ : Rho} {v u : Value} (hv : cellOk v = true) (h : VR ρ v u) : (∀ l, u ≠ .agg l) ∧ ∀ l, u ≠ .tuple l := by
  cases h with
  | any _ h1 h2 => exact ⟨h1, h2⟩
  | name _ h1 h2 => exact ⟨h1, h2⟩
  | agg => cases hv
  | tup => cases hv
  | _ => exact ⟨(fun l h => by cases h), (fun l h => by cases h)⟩

theorem flat_same {ρ : Rho} {v u : Value} (hv : flat v = true) (h : VR ρ v u) : u = v := by
  unfold flat at hv
  split at hv <;> first | (cases hv; done) | (cases h; rfl)

theorem plainConst_eq {ρ : Rho} {v u : Value} (hv : plainConst v = true) (h : VR ρ v u) : u = v := by
  unfold plainConst at hv
  split at hv
  · rename_i cs
    cases h with
    | agg l l' h1 h2 =>
      have : l' = l := by
        apply List.ext_getElem?
        intro j
        cases hj : l[j]? with
        | none =>
          have : l.length ≤ j := List.getElem?_eq_none_iff.1 hj
          exact List.getElem?_eq_none_iff.2 (by omega)
        | some a =>
          have hlt : j < l'.length := by have := (List.getElem?_eq_some_iff.1 hj).1; omega
          have e := flat_same (List.all_eq_true.1 hv a (by simpa using List.mem_of_getElem? hj)) (h2 j a _ hj (List.getElem?_eq_getElem hlt))
          rw [List.getElem?_eq_getElem hlt, e]
      rw [this]
  · rename_i cs
    cases h with
    | tup l l' h1 h2 =>
      have e : l = [] := by simpa using hv
      subst e
      have : l' = [] := List.eq_nil_of_length_eq_zero (by simpa using h1.symm)
      rw [this]
  · exact flat_same hv h

end top
end Go.Ideal

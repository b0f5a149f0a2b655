/- Maps with stamped entries, as functions: what is put, taken out, looked up, gone through. -/
import Derived.Test.YtkefgcleaalnnaaGreatAbsY
namespace Go.Proofs.YtkefgcleaalnnaaGreat
set_option linter.unusedVariables false
set_option linter.unusedSimpArgs false
namespace Abs

set_option linter.unusedSectionVars false
section
variable {q : S → S → Option Bool} {κ β : Type} [DecidableEq κ] {ek : κ → S} {ev : β → S}

structure SM (κ β : Type) where
 clock : Nat
 es : List (Nat × κ × β)
def smE (ek : κ → S) (ev : β → S) (es : List (Nat × κ × β)) : Ents := es.map fun e => (e.1, ek e.2.1, ev e.2.2)
abbrev smO (ek : κ → S) (ev : β → S) (s : SM κ β) : Ob := .map s.clock (smE ek ev s.es)
def SM.m (s : SM κ β) : List (κ × β) := s.es.map (·.2)
def SM.get (s : SM κ β) (x : κ) : Option β := mget s.m x
def eput (c : Nat) : List (Nat × κ × β) → κ → β → List (Nat × κ × β)
 | [], x, y => [(c, x, y)]
 | e :: r, x, y => if e.2.1 = x then (e.1, x, y) :: r else e :: eput c r x y
def edel : List (Nat × κ × β) → κ → List (Nat × κ × β)
 | [], _ => []
 | e :: r, x => if e.2.1 = x then r else e :: edel r x
def estamp (c : Nat) : List (Nat × κ × β) → κ → Nat
 | [], _ => c
 | e :: r, x => if e.2.1 = x then e.1 else estamp c r x
def SM.put (s : SM κ β) (x : κ) (y : β) : SM κ β := ⟨if (s.get x).isSome then s.clock else s.clock + 1, eput s.clock s.es x y⟩
def SM.del (s : SM κ β) (x : κ) : SM κ β := ⟨s.clock, edel s.es x⟩
def SM.stamp (s : SM κ β) (x : κ) : Nat := estamp s.clock s.es x
def SM.nil : SM κ β := ⟨0, []⟩
structure SM.ok (s : SM κ β) : Prop where
 lt : ∀ e ∈ s.es, e.1 < s.clock
 nd : (s.es.map (·.1)).Nodup
 kn : (s.m.map (·.1)).Nodup

theorem SM.ok.isM {s : SM κ β} (h : s.ok) : MapIs ek ev s.m s.clock (smE ek ev s.es) := by
 refine ⟨?_, ?_, ?_, h.kn⟩
 ·simp [smE, SM.m]
 ·intro e he
  obtain ⟨x, hx, rfl⟩ := List.mem_map.1 he
  exact h.lt x hx
 ·have : (smE ek ev s.es).map (·.1) = s.es.map (·.1) := by simp [smE, Function.comp_def]
  rw [this]; exact h.nd
theorem SM.ok_nil : (SM.nil : SM κ β).ok := ⟨by simp [SM.nil], by simp [SM.nil], by simp [SM.nil, SM.m]⟩
theorem eput_m (c : Nat) : ∀ (es : List (Nat × κ × β)) (x : κ) (y : β), (eput c es x y).map (·.2) = mput (es.map (·.2)) x y
 | [], x, y => rfl
 | e :: r, x, y => by
  by_cases h : e.2.1 = x
  ·simp [eput, mput, h]
  ·simp [eput, mput, h, eput_m c r]
theorem edel_m : ∀ (es : List (Nat × κ × β)) (x : κ), (edel es x).map (·.2) = mdel (es.map (·.2)) x
 | [], x => rfl
 | e :: r, x => by
  by_cases h : e.2.1 = x
  ·simp [edel, mdel, h]
  ·simp [edel, mdel, h, edel_m r]
theorem SM.m_put (s : SM κ β) (x : κ) (y : β) : (s.put x y).m = mput s.m x y := eput_m _ _ _ _
theorem SM.m_del (s : SM κ β) (x : κ) : (s.del x).m = mdel s.m x := edel_m _ _
theorem SM.get_put (s : SM κ β) (x x' : κ) (y : β) : (s.put x y).get x' = if x = x' then some y else s.get x' := by
 unfold SM.get; rw [SM.m_put]; exact mget_put
theorem mget_none {m : List (κ × β)} {x : κ} (h : ∀ p ∈ m, p.1 ≠ x) : mget m x = none := by
 unfold mget
 rw [List.find?_eq_none.2 (by intro p hp; simp [h p hp])]; rfl
theorem mget_del {m : List (κ × β)} (hn : (m.map (·.1)).Nodup) {x x' : κ} : mget (mdel m x) x' = if x = x' then none else mget m x' := by
 induction m with
 | nil => simp [mdel, mget]
 | cons p r ih =>
  rw [List.map_cons, List.nodup_cons] at hn
  by_cases h : p.1 = x
  ·simp only [mdel, if_pos h]
   split
   ·rename_i e
    refine mget_none fun q hq e2 => hn.1 ?_
    rw [h, e, ← e2]; exact List.mem_map.2 ⟨q, hq, rfl⟩
   ·rename_i e
    simp [mget, List.find?_cons, show ¬ p.1 = x' from fun h2 => e (h ▸ h2)]
  ·simp only [mdel, if_neg h]
   by_cases h2 : p.1 = x'
   ·rw [if_neg (fun e => h (h2.trans e.symm))]
    simp [mget, List.find?_cons, h2]
   ·have h3 : ∀ q : List (κ × β), mget (p :: q) x' = mget q x' := fun q => by simp [mget, List.find?_cons, h2]
    rw [h3, h3, ih hn.2]
theorem SM.get_del {s : SM κ β} (h : s.ok) (x x' : κ) : (s.del x).get x' = if x = x' then none else s.get x' := by
 unfold SM.get; rw [SM.m_del]; exact mget_del h.kn
theorem SM.get_nil (x : κ) : (SM.nil : SM κ β).get x = none := rfl
theorem eput_mem {c : Nat} : ∀ {es : List (Nat × κ × β)} {x : κ} {y : β} {e : Nat × κ × β}, e ∈ eput c es x y → e ∈ es ∨ (e = (estamp c es x, x, y))
 | [], x, y, e, h => by simp [eput] at h; exact .inr (by simp [estamp, h])
 | a :: r, x, y, e, h => by
  by_cases hx : a.2.1 = x
  ·simp only [eput, if_pos hx, List.mem_cons] at h
   rcases h with h | h
   ·exact .inr (by simp [estamp, hx, h])
   ·exact .inl (by simp [h])
  ·simp only [eput, if_neg hx, List.mem_cons] at h
   rcases h with h | h
   ·exact .inl (by simp [h])
   ·rcases eput_mem h with h | h
    ·exact .inl (by simp [h])
    ·exact .inr (by simp [estamp, hx, h])
theorem estamp_mem {c : Nat} : ∀ {es : List (Nat × κ × β)} {x : κ}, (mget (es.map (·.2)) x).isSome → estamp c es x ∈ es.map (·.1)
 | [], x, h => by simp [mget] at h
 | a :: r, x, h => by
  by_cases hx : a.2.1 = x
  ·simp [estamp, hx]
  ·simp only [estamp, if_neg hx, List.map_cons, List.mem_cons]
   refine .inr (estamp_mem ?_)
   simpa [mget, List.find?_cons, hx] using h
theorem estamp_none {c : Nat} : ∀ {es : List (Nat × κ × β)} {x : κ}, mget (es.map (·.2)) x = none → estamp c es x = c
 | [], x, h => rfl
 | a :: r, x, h => by
  by_cases hx : a.2.1 = x
  ·simp [mget, List.find?_cons, hx] at h
  ·simp only [estamp, if_neg hx]
   exact estamp_none (by simpa [mget, List.find?_cons, hx] using h)
theorem eput_born {c : Nat} : ∀ {es : List (Nat × κ × β)} {x : κ} {y : β}, (eput c es x y).map (·.1) = if (mget (es.map (·.2)) x).isSome then es.map (·.1) else es.map (·.1) ++ [c]
 | [], x, y => by simp [eput, mget]
 | a :: r, x, y => by
  by_cases hx : a.2.1 = x
  ·simp [eput, mget, hx]
  ·have h1 : mget ((a :: r).map (·.2)) x = mget (r.map (·.2)) x := by simp [mget, List.find?_cons, hx]
   rw [h1]
   simp only [eput, if_neg hx, List.map_cons, eput_born]
   split <;> simp
theorem SM.ok.put {s : SM κ β} (h : s.ok) (x : κ) (y : β) : (s.put x y).ok := by
 refine ⟨?_, ?_, ?_⟩
 ·intro e he
  show e.1 < if (s.get x).isSome then s.clock else s.clock + 1
  rcases eput_mem he with h1 | h1
  ·have := h.lt e h1
   split <;> omega
  ·rw [h1]
   show estamp s.clock s.es x < _
   split
   ·rename_i h2
    obtain ⟨e', h3, h4⟩ := List.mem_map.1 (estamp_mem (c := s.clock) h2)
    rw [← h4]; exact h.lt e' h3
   ·rename_i h2
    rw [estamp_none (by simpa [SM.get, SM.m] using h2)]; omega
 ·show ((eput s.clock s.es x y).map (·.1)).Nodup
  rw [eput_born]
  split
  ·exact h.nd
  ·rw [List.nodup_append]
   refine ⟨h.nd, by simp, ?_⟩
   intro a ha b hb
   simp at hb; subst hb
   obtain ⟨e, he, rfl⟩ := List.mem_map.1 ha
   have := h.lt e he
   omega
 ·rw [SM.m_put]; exact mput_nodup h.kn
theorem edel_sub : ∀ {es : List (Nat × κ × β)} {x : κ}, (edel es x).Sublist es
 | [], x => List.Sublist.refl _
 | e :: r, x => by
  by_cases hp : e.2.1 = x
  ·simp only [edel, if_pos hp]; exact List.sublist_cons_self _ _
  ·simp only [edel, if_neg hp]; exact edel_sub.cons_cons _
theorem SM.ok.del {s : SM κ β} (h : s.ok) (x : κ) : (s.del x).ok :=
 ⟨fun e he => h.lt e (edel_sub.subset he), (edel_sub.map _).nodup h.nd, by rw [SM.m_del]; exact (mdel_sub.map _).nodup h.kn⟩
theorem SM.put_clock {s : SM κ β} {x : κ} {y z : β} : (s.put x y).clock = (s.put x z).clock := rfl

theorem findM_sm (hk : KeyEnc q ek) (x : κ) : ∀ (es : List (Nat × κ × β)) (c i : Nat),
  (mget (es.map (·.2)) x = none ∧ findM q (ek x) (smE ek ev es) i = some none ∧ (∀ y, smE ek ev (eput c es x y) = smE ek ev es ++ [(c, ek x, ev y)]) ∧ edel es x = es) ∨
  (∃ j v, mget (es.map (·.2)) x = some v ∧ findM q (ek x) (smE ek ev es) i = some (some (i + j, estamp c es x, ev v)) ∧ (smE ek ev es)[j]? = some (estamp c es x, ek x, ev v) ∧ (∀ y, (smE ek ev es).set j (estamp c es x, ek x, ev y) = smE ek ev (eput c es x y)) ∧ (smE ek ev es).eraseIdx j = smE ek ev (edel es x))
 | [], c, i => .inl ⟨rfl, rfl, fun y => rfl, rfl⟩
 | e :: es, c, i => by
  have hq : q (ek x) (ek e.2.1) = some (decide (x = e.2.1)) := hk.eq _ _
  by_cases hx : e.2.1 = x
  ·right
   refine ⟨0, e.2.2, by simp [mget, hx], ?_, ?_, ?_, ?_⟩
   ·rw [smE, List.map_cons]; have hq2 : q (ek x) (ek e.2.1) = some true := by rw [hq, hx]; simp
    simp only [findM, hq2, estamp, if_pos hx, Nat.add_zero]
   ·simp [smE, estamp, hx]
   ·intro y; simp [smE, estamp, eput, hx]
   ·simp [smE, edel, hx]
  ·have hx' : ¬ x = e.2.1 := fun h => hx h.symm
   have hg : mget ((e :: es).map (·.2)) x = mget (es.map (·.2)) x := by simp [mget, List.find?_cons, hx]
   have hf : findM q (ek x) (smE ek ev (e :: es)) i = findM q (ek x) (smE ek ev es) (i + 1) := by
    show findM q (ek x) ((e.1, ek e.2.1, ev e.2.2) :: smE ek ev es) i = _
    simp [findM, hq, hx']
   have hc : ∀ r, smE ek ev (e :: r) = (e.1, ek e.2.1, ev e.2.2) :: smE ek ev r := fun r => rfl
   rcases findM_sm hk x es c (i + 1) with ⟨g1, g2, g3, g4⟩ | ⟨j, v, g1, g2, g3, g4, g5⟩
   ·left
    refine ⟨by rw [hg, g1], by rw [hf, g2], fun y => ?_, ?_⟩
    ·simp only [eput, if_neg hx, hc, g3 y, List.cons_append]
    ·simp only [edel, if_neg hx, g4]
   ·right
    refine ⟨j + 1, v, by rw [hg, g1], ?_, ?_, ?_, ?_⟩
    ·rw [hf, g2, show i + 1 + j = i + (j + 1) by omega]; simp only [estamp, if_neg hx]
    ·rw [hc]; simpa only [estamp, if_neg hx, List.getElem?_cons_succ] using g3
    ·intro y; rw [hc]; simp only [eput, estamp, if_neg hx, List.set_cons_succ, hc, g4 y]
    ·rw [hc]; simp only [edel, if_neg hx, List.eraseIdx_cons_succ, hc, g5]

theorem sm_look (hk : KeyEnc q ek) (s : SM κ β) (x : κ) (z : β) {zs : S} (hz : zs = ev z) {k : S → Bool → Prop} (hq : k (ev ((s.get x).getD z)) (s.get x).isSome) : LookG (findM q (ek x) (smE ek ev s.es) 0) zs k := by
 subst hz
 have hg : s.get x = mget (s.es.map (·.2)) x := rfl
 rcases findM_sm (ev := ev) hk x s.es s.clock 0 with ⟨g1, g2, _⟩ | ⟨j, v, g1, g2, _⟩
 ·rw [hg, g1] at hq; exact .mk _ _ (.inr ⟨g2, rfl, rfl⟩) hq
 ·rw [hg, g1] at hq; exact .mk _ _ (.inl ⟨_, _, g2, rfl⟩) hq
theorem sm_upd (hk : KeyEnc q ek) (s : SM κ β) (x : κ) (y : β) {k : Nat → Ents → Prop} (hq : k (s.put x y).clock (smE ek ev (s.put x y).es)) : UpdG (findM q (ek x) (smE ek ev s.es) 0) (sameAt (smE ek ev s.es) (ek x)) s.clock (smE ek ev s.es) (ek x) (ev y) k := by
 have hg : s.get x = mget (s.es.map (·.2)) x := rfl
 rcases findM_sm (ev := ev) hk x s.es s.clock 0 with ⟨g1, g2, g3, _⟩ | ⟨j, v, g1, g2, g3, g4, _⟩
 ·refine .mk _ _ (.inr ⟨g2, rfl, rfl⟩) ?_
  simp only [SM.put, hg, g1, g3] at hq
  exact hq
 ·rw [Nat.zero_add] at g2
  refine .mk _ _ (.inl ⟨j, _, _, g2, ⟨_, g3, hk.same x⟩, rfl, rfl⟩) ?_
  simp only [SM.put, hg, g1] at hq
  rw [g4 y]
  exact hq
theorem sm_del (hk : KeyEnc q ek) (s : SM κ β) (x : κ) {k : Ents → Prop} (hq : k (smE ek ev (s.del x).es)) : DelG (findM q (ek x) (smE ek ev s.es) 0) (smE ek ev s.es) k := by
 rcases findM_sm (ev := ev) hk x s.es s.clock 0 with ⟨g1, g2, _, g4⟩ | ⟨j, v, g1, g2, g3, _, g5⟩
 ·refine .mk _ (.inr ⟨g2, rfl⟩) ?_
  simp only [SM.del, g4] at hq
  exact hq
 ·rw [Nat.zero_add] at g2
  refine .mk _ (.inl ⟨j, _, _, g2, rfl⟩) ?_
  rw [g5]
  exact hq
theorem sm_entry (hk : KeyEnc q ek) (s : SM κ β) (x : κ) (z : β) {zs : S} (hz : zs = ev z) {k : S → Nat → Nat → Ents → Prop} (hq : k (ev ((s.get x).getD z)) (s.stamp x) (s.put x ((s.get x).getD z)).clock (smE ek ev (s.put x ((s.get x).getD z)).es)) :
  EntG (findM q (ek x) (smE ek ev s.es) 0) (sameAt (smE ek ev s.es) (ek x)) s.clock (smE ek ev s.es) (ek x) zs k := by
 subst hz
 have hg : s.get x = mget (s.es.map (·.2)) x := rfl
 rcases findM_sm (ev := ev) hk x s.es s.clock 0 with ⟨g1, g2, g3, _⟩ | ⟨j, v, g1, g2, g3, g4, _⟩
 ·have hs : s.stamp x = s.clock := estamp_none g1
  refine .mk _ _ _ _ (.inr ⟨g2, rfl, rfl, rfl, rfl⟩) ?_
  rw [hs] at hq
  simp only [SM.put, hg, g1, g3, Option.getD_none] at hq
  exact hq
 ·rw [Nat.zero_add] at g2
  refine .mk _ _ _ _ (.inl ⟨j, g2, ⟨_, g3, hk.same x⟩, rfl, rfl⟩) ?_
  simp only [SM.put, hg, g1, Option.getD_some] at hq
  rw [g4 v]
  exact hq
theorem eput_stamp {c : Nat} : ∀ (es : List (Nat × κ × β)), (∀ e ∈ es, e.1 < c) → (es.map (·.1)).Nodup → ∀ (x : κ) (y : β), ∃ j : Nat, (smE ek ev (eput c es x y))[j]? = some (estamp c es x, ek x, ev y) ∧ (∀ i, i < j → ∀ e : Nat × S × S, (smE ek ev (eput c es x y))[i]? = some e → e.1 ≠ estamp c es x) ∧ ∀ z, (smE ek ev (eput c es x y)).set j (estamp c es x, ek x, ev z) = smE ek ev (eput c es x z)
 | [], _, _, x, y => ⟨0, by simp [smE, eput, estamp], by omega, fun z => by simp [smE, eput, estamp]⟩
 | e :: r, hlt, hnd, x, y => by
  have hc : ∀ r, smE ek ev (e :: r) = (e.1, ek e.2.1, ev e.2.2) :: smE ek ev r := fun r => rfl
  rw [List.map_cons, List.nodup_cons] at hnd
  by_cases hx : e.2.1 = x
  ·exact ⟨0, by simp [smE, eput, estamp, hx], by omega, fun z => by simp [smE, eput, estamp, hx]⟩
  ·obtain ⟨j, h1, h2, h3⟩ := eput_stamp r (fun e he => hlt e (by simp [he])) hnd.2 x y
   have hne : e.1 ≠ estamp c r x := by
    intro he
    cases hg : mget (r.map (·.2)) x with
    | none =>
     rw [estamp_none hg] at he
     have := hlt e (by simp)
     omega
    | some v => exact hnd.1 (he ▸ estamp_mem (by rw [hg]; rfl))
   refine ⟨j + 1, ?_, ?_, ?_⟩
   ·simp only [eput, estamp, if_neg hx, hc, List.getElem?_cons_succ, h1]
   ·intro i hi e' he'
    simp only [eput, estamp, if_neg hx, hc] at he' ⊢
    cases i with
    | zero => simp at he'; rw [← he']; exact hne
    | succ i => exact h2 i (by omega) e' (by simpa using he')
   ·intro z
    simp only [eput, estamp, if_neg hx, hc, List.set_cons_succ, h3 z]
theorem sm_stamp {s : SM κ β} (hs : s.ok) (x : κ) (y z : β) {k : Ents → Prop} {n : Int} (hn : n = (s.stamp x : Int)) (hq : k (smE ek ev (s.put x z).es)) : StampG (smE ek ev (s.put x y).es) n (ev z) k := by
 subst hn
 obtain ⟨j, h1, h2, h3⟩ := eput_stamp (ek := ek) (ev := ev) s.es hs.lt hs.nd x y
 refine .mk j _ (ek x) (ev y) ⟨h1, rfl, fun i hi e he hen => h2 i hi e he (by have : (e.1 : Int) = ((estamp s.clock s.es x : Nat) : Int) := hen; omega)⟩ ?_
 have := h3 z
 show k ((smE ek ev (eput s.clock s.es x y)).set j (estamp s.clock s.es x, ek x, ev z))
 rw [this]; exact hq

theorem unseen_sm (vis es : List (Nat × κ × β)) : unseen (vis.map (·.1)) (smE ek ev es) = (es.filter fun e => !(vis.map (·.1)).contains e.1).map fun e => (e.1, ek e.2.1, ev e.2.2) := by
 unfold unseen smE
 rw [List.filter_map]; rfl
structure Vis (s : SM κ β) (vis : List (Nat × κ × β)) : Prop where
 nd : (vis.map (·.1)).Nodup
 sub : ∀ e ∈ vis, e ∈ s.es
theorem Vis.nil (s : SM κ β) : Vis s [] := ⟨by simp, by simp⟩
theorem born_inj {s : SM κ β} (hs : s.ok) {a b : Nat × κ × β} (ha : a ∈ s.es) (hb : b ∈ s.es) (h : a.1 = b.1) : a = b := by
 have hnd := hs.nd
 generalize s.es = es at ha hb hnd
 clear hs
 induction es with
 | nil => cases ha
 | cons e r ih =>
  rw [List.map_cons, List.nodup_cons] at hnd
  rcases List.mem_cons.1 ha with h1 | h1
  ·rcases List.mem_cons.1 hb with h2 | h2
   ·rw [h1, h2]
   ·exact (hnd.1 (by rw [← h1, h]; exact List.mem_map.2 ⟨b, h2, rfl⟩)).elim
  ·rcases List.mem_cons.1 hb with h2 | h2
   ·exact (hnd.1 (by rw [← h2, ← h]; exact List.mem_map.2 ⟨a, h1, rfl⟩)).elim
   ·exact ih h1 h2 hnd.2
theorem Vis.cons {s : SM κ β} (hs : s.ok) {vis : List (Nat × κ × β)} (h : Vis s vis) {e : Nat × κ × β} (he : e ∈ s.es) (hn : e ∉ vis) : Vis s (e :: vis) := by
 refine ⟨?_, ?_⟩
 ·rw [List.map_cons, List.nodup_cons]
  refine ⟨fun hm => ?_, h.nd⟩
  obtain ⟨a, ha, hae⟩ := List.mem_map.1 hm
  exact hn (born_inj hs (h.sub a ha) he hae ▸ ha)
 ·intro a ha
  rcases List.mem_cons.1 ha with rfl | ha
  ·exact he
  ·exact h.sub a ha
theorem nodup_of_map {α β' : Type} {f : α → β'} : ∀ {l : List α}, (l.map f).Nodup → l.Nodup
 | [], _ => by simp
 | a :: r, h => by
  rw [List.map_cons, List.nodup_cons] at h
  rw [List.nodup_cons]
  exact ⟨fun hm => h.1 (List.mem_map.2 ⟨a, hm, rfl⟩), nodup_of_map h.2⟩
theorem nodup_sub_len {α : Type} : ∀ {l m : List α}, l.Nodup → (∀ x ∈ l, x ∈ m) → l.length ≤ m.length
 | [], _, _, _ => Nat.zero_le _
 | a :: r, m, hn, hs => by
  rw [List.nodup_cons] at hn
  obtain ⟨m1, m2, rfl⟩ := List.append_of_mem (hs a (by simp))
  have := nodup_sub_len (l := r) (m := m1 ++ m2) hn.2 (fun x hx => by
   have h1 := hs x (by simp [hx])
   have h2 : x ≠ a := fun e => hn.1 (e ▸ hx)
   simp only [List.mem_append, List.mem_cons] at h1 ⊢
   rcases h1 with h1 | h1 | h1
   ·exact .inl h1
   ·exact (h2 h1).elim
   ·exact .inr h1)
  simp only [List.length_append, List.length_cons] at this ⊢
  omega
theorem perm_of_nodup {α : Type} : ∀ {l m : List α}, l.Nodup → m.Nodup → (∀ x, x ∈ l ↔ x ∈ m) → l.Perm m
 | [], m, _, _, h => by
  have : m = [] := List.eq_nil_iff_forall_not_mem.2 (fun x hx => by have := (h x).2 hx; cases this)
  rw [this]
 | a :: r, m, hl, hm, h => by
  rw [List.nodup_cons] at hl
  obtain ⟨m1, m2, rfl⟩ := List.append_of_mem ((h a).1 (by simp))
  have hm' := hm
  have hp : (m1 ++ a :: m2).Perm (a :: (m1 ++ m2)) := List.perm_middle
  rw [hp.nodup_iff, List.nodup_cons] at hm
  refine (List.Perm.cons a (perm_of_nodup hl.2 hm.2 (fun x => ?_))).trans hp.symm
  have h1 := h x
  constructor
  ·intro hx
   have hne : x ≠ a := fun e => hl.1 (e ▸ hx)
   have := h1.1 (by simp [hx])
   simp only [List.mem_append, List.mem_cons] at this ⊢
   rcases this with h | h | h
   ·exact .inl h
   ·exact (hne h).elim
   ·exact .inr h
  ·intro hx
   have hne : x ≠ a := fun e => hm.1 (e ▸ hx)
   have := h1.2 (by simp only [List.mem_append, List.mem_cons] at hx ⊢; rcases hx with h | h <;> simp [h])
   simpa [hne] using this
theorem Vis.len {s : SM κ β} {vis : List (Nat × κ × β)} (h : Vis s vis) : vis.length ≤ s.es.length := nodup_sub_len (nodup_of_map h.nd) h.sub
theorem sm_next {s : SM κ β} (hs : s.ok) {vis : List (Nat × κ × β)} (hv : Vis s vis) {over : Prop} {k : Nat → S → S → Prop} (h0 : vis.Perm s.es → over) (h1 : ∀ e, e ∈ s.es → e ∉ vis → Vis s (e :: vis) → vis.length < s.es.length → k e.1 (ek e.2.1) (ev e.2.2)) :
  NextG (unseen (vis.map (·.1)) (smE ek ev s.es)) over k := by
 have hin : ∀ e, e ∈ s.es → (e.1 ∈ vis.map (·.1) ↔ e ∈ vis) := fun e he => by
  constructor
  ·intro hm
   obtain ⟨a, ha, hae⟩ := List.mem_map.1 hm
   exact born_inj hs (hv.sub a ha) he hae ▸ ha
  ·intro hm; exact List.mem_map.2 ⟨e, hm, rfl⟩
 refine .mk (fun e : Nat × κ × β => (e.1, ek e.2.1, ev e.2.2)) (s.es.filter fun e => !(vis.map (·.1)).contains e.1) (unseen_sm vis s.es) (fun h => h0 ?_) (fun e he => ?_)
 ·refine perm_of_nodup (nodup_of_map hv.nd) (nodup_of_map hs.nd) fun x => ⟨hv.sub x, fun hx => ?_⟩
  rw [List.filter_eq_nil_iff] at h
  have := h x hx
  simp only [Bool.not_eq_true', Bool.not_eq_false, List.contains_iff_mem] at this
  exact (hin x hx).1 this
 ·rw [List.mem_filter] at he
  have hn : e ∉ vis := fun hm => by
   have := (hin e he.1).2 hm
   have h2 := he.2
   simp only [Bool.not_eq_true', ← Bool.not_eq_true, List.contains_iff_mem] at h2
   exact h2 this
  have hc := hv.cons hs he.1 hn
  exact h1 e he.1 hn hc (by have := hc.len; simp only [List.length_cons] at this; omega)
theorem sm_at {s : SM κ β} (hs : s.ok) {e : Nat × κ × β} (he : e ∈ s.es) {k : S → S → Prop} (hk : k (ek e.2.1) (ev e.2.2)) : EntryG (smE ek ev s.es) e.1 k := by
 refine .mk _ _ ?_ hk
 have hnd := hs.nd
 unfold smE
 rw [List.find?_map]
 have : List.find? ((fun e' : Nat × S × S => e'.1 == e.1) ∘ fun e' : Nat × κ × β => (e'.1, ek e'.2.1, ev e'.2.2)) s.es = some e := by
  generalize s.es = es at he hnd
  clear hk
  induction es with
  | nil => cases he
  | cons a r ih =>
   rw [List.map_cons, List.nodup_cons] at hnd
   rw [List.find?_cons]
   rcases List.mem_cons.1 he with rfl | he
   ·simp
   ·have : ¬ a.1 = e.1 := fun h => hnd.1 (h ▸ List.mem_map.2 ⟨e, he, rfl⟩)
    simp only [Function.comp_apply, beq_eq_false_iff_ne.2 this]
    exact ih he hnd.2
 rw [this]; rfl
theorem keyStr {T : List (Nat × TI)} {kt : Nat} : KeyEnc (keyE2 T kt) (fun b : ByteArray => S.c (.str b)) := by
 refine ⟨fun x y => ?_, fun x => rfl⟩
 show some (x.toList == y.toList) = _
 congr 1
 rw [Bool.eq_iff_iff, beq_iff_eq, decide_eq_true_iff]
 constructor
 ·intro h
  rw [ByteArray.toList_eq, ByteArray.toList_eq] at h
  exact ByteArray.ext (Array.toList_inj.1 h)
 ·intro h; rw [h]
theorem keyInt (k : IntKind) {T : List (Nat × TI)} {kt : Nat} : KeyEnc (keyE2 T kt) (fun n : Int => S.c (.int k n)) := by
 refine ⟨fun x y => ?_, fun x => ⟨rfl, rfl⟩⟩
 show (bif beqK k k then some (x == y) else none) = _
 have : beqK k k = true := by cases k <;> rfl
 rw [this]
 simp only [cond_true]
 congr 1
end
end Abs
end Go.Proofs.YtkefgcleaalnnaaGreat

/- Parts of the proof, in order. -/
import Derived.Test.YtkefgcleaalnnaaGreatMWaysFound2

namespace Go.Proofs.YtkefgcleaalnnaaGreat
set_option linter.unusedVariables false
set_option linter.unusedSimpArgs false
open Abs
set_option maxHeartbeats 4000000
set_option maxRecDepth 100000
structure Trail (ds : List Du) (a site : ByteArray) (m : Nat) (s : Nat → ByteArray) (ix : Nat → Nat) : Prop where
 s0 : s 0 = a
 sm : s m = site
 ixl : ∀ j, j < m → ix j < ds.length
 ixi : ∀ i j, i < m → j < m → ix i = ix j → i = j
 ends : ∀ j, j < m → ((ds.getD (ix j) du0).a = s j ∧ (ds.getD (ix j) du0).b = s (j + 1)) ∨ ((ds.getD (ix j) du0).a = s (j + 1) ∧ (ds.getD (ix j) du0).b = s j)
section
variable {ds : List Du} {a site : ByteArray} {m : Nat} {s : Nat → ByteArray} {ix : Nat → Nat}
theorem Trail.begin (ds : List Du) (a : ByteArray) : Trail ds a a 0 (fun _ => a) (fun _ => 0) :=
 ⟨rfl, rfl, fun j h => by omega, fun i j h => by omega, fun j h => by omega⟩
theorem Trail.step (h : Trail ds a site m s ix) {k : Nat} (hk : k < ds.length) (hu : ∀ j, j < m → ix j ≠ k) (hat : (ds.getD k du0).at site) {site' : ByteArray} (hs : site' = if (ds.getD k du0).a = site then (ds.getD k du0).b else (ds.getD k du0).a) :
  Trail ds a site' (m + 1) (fun j => if j = m + 1 then site' else s j) (fun j => if j = m then k else ix j) where
 s0 := by rw [if_neg (by omega)]; exact h.s0
 sm := by simp
 ixl j hj := by
  split
  ·exact hk
  ·exact h.ixl j (by omega)
 ixi i j hi hj e := by
  split at e <;> split at e
  ·omega
  ·exact absurd e.symm (hu j (by omega))
  ·exact absurd e (hu i (by omega))
  ·exact h.ixi i j (by omega) (by omega) e
 ends j hj := by
  rw [if_neg (show ¬ j = m + 1 by omega)]
  by_cases q : j = m
  ·subst q
   rw [if_pos rfl, if_pos rfl, h.sm, hs]
   by_cases w : (ds.getD k du0).a = site
   ·rw [if_pos w]; exact .inl ⟨w, rfl⟩
   ·rw [if_neg w]; exact .inr ⟨rfl, hat.resolve_left w⟩
  ·rw [if_neg q, if_neg (show ¬ j + 1 = m + 1 by omega)]
   exact h.ends j (by omega)
theorem Trail.at_left (h : Trail ds a site m s ix) {j : Nat} (hj : j < m) : (ds.getD (ix j) du0).at (s j) := by
 rcases h.ends j hj with ⟨e, _⟩ | ⟨_, e⟩
 ·exact .inl e
 ·exact .inr e
theorem Trail.at_right (h : Trail ds a site m s ix) {j : Nat} (hj : j < m) : (ds.getD (ix j) du0).at (s (j + 1)) := by
 rcases h.ends j hj with ⟨_, e⟩ | ⟨e, _⟩
 ·exact .inr e
 ·exact .inl e
theorem Trail.path (h : Trail ds a site ds.length s ix) (hpos : 0 < ds.length) (hne : ∀ i, i < ds.length → (ds.getD i du0).a ≠ (ds.getD i du0).b) (h2 : ∀ t, (atL ds ds.length t).length ≤ 2) (h1 : (atL ds ds.length a).length = 1) : PathOf ds s ix where
 pos := hpos
 ixl := h.ixl
 ixi := h.ixi
 ends := h.ends
 si := by
  have hmem : ∀ {j t}, j < ds.length → (ds.getD (ix j) du0).at t → ix j ∈ atL ds ds.length t := fun hj hat => atL_mem.2 ⟨h.ixl _ hj, hat⟩
  have hst : ∀ j, j < ds.length → s j ≠ s (j + 1) := fun j hj e => by
   have := hne _ (h.ixl j hj)
   rcases h.ends j hj with ⟨e1, e2⟩ | ⟨e1, e2⟩
   ·exact this (e1.trans (e.trans e2.symm))
   ·exact this (e1.trans (e.symm.trans e2.symm))
  have key : ∀ i j, i < j → j ≤ ds.length → s i ≠ s j := by
   intro i j hij hj e
   by_cases q : j = i + 1
   ·subst q; exact hst i (by omega) e
   have m1 : ix i ∈ atL ds ds.length (s i) := hmem (by omega) (h.at_left (by omega))
   have m2 : ix (j - 1) ∈ atL ds ds.length (s i) := hmem (by omega) (by
    have := h.at_right (j := j - 1) (by omega)
    rw [show j - 1 + 1 = j by omega, ← e] at this
    exact this)
   have d12 : ix i ≠ ix (j - 1) := fun w => by have := h.ixi _ _ (by omega) (by omega) w; omega
   rcases Nat.eq_zero_or_pos i with rfl | h0
   ·rw [h.s0] at m1 m2
    have := nodup_sub_len (l := [ix 0, ix (j - 1)]) (m := atL ds ds.length a) (by simp [d12]) (fun x hx => by
     simp only [List.mem_cons, List.not_mem_nil, or_false] at hx
     rcases hx with rfl | rfl
     ·exact m1
     ·exact m2)
    simp at this
    omega
   ·have m3 : ix (i - 1) ∈ atL ds ds.length (s i) := hmem (by omega) (by
     have := h.at_right (j := i - 1) (by omega)
     rw [show i - 1 + 1 = i by omega] at this
     exact this)
    have d13 : ix i ≠ ix (i - 1) := fun w => by have := h.ixi _ _ (by omega) (by omega) w; omega
    have d23 : ix (j - 1) ≠ ix (i - 1) := fun w => by have := h.ixi _ _ (by omega) (by omega) w; omega
    have := nodup_sub_len (l := [ix i, ix (j - 1), ix (i - 1)]) (m := atL ds ds.length (s i)) (by simp [d12, d13, d23]) (fun x hx => by
     simp only [List.mem_cons, List.not_mem_nil, or_false] at hx
     rcases hx with rfl | rfl | rfl
     ·exact m1
     ·exact m2
     ·exact m3)
    have := h2 (s i)
    simp at *
    omega
  intro i j hi hj e
  rcases Nat.lt_trichotomy i j with q | q | q
  ·exact absurd e (key i j q hj)
  ·exact q
  ·exact absurd e.symm (key j i q hi)
structure WalkT (ds : List Du) (a site : ByteArray) (seen : SM Int Unit) : Prop where
 ok : seen.ok
 tr : ∃ m s ix, Trail ds a site m s ix ∧ ∀ x, (seen.get x).isSome ↔ ∃ j, j < m ∧ x = ((ix j : Nat) : Int)
theorem WalkT.begin (ds : List Du) (a : ByteArray) : WalkT ds a a SM.nil where
 ok := SM.ok_nil
 tr := ⟨0, _, _, Trail.begin ds a, fun x => by rw [SM.get_nil]; simp⟩
theorem WalkT.step {seen : SM Int Unit} (h : WalkT ds a site seen) {k : Nat} (hk : k ∈ atL ds ds.length site) (hu : (seen.get (k : Int)).isSome = false) {site' : ByteArray} (hs' : site' = if (ds.getD k du0).a = site then (ds.getD k du0).b else (ds.getD k du0).a) : WalkT ds a site' (seen.put (k : Int) ()) where
 ok := h.ok.put _ _
 tr := by
  obtain ⟨m, s, ix, ht, hs⟩ := h.tr
  obtain ⟨hkl, hat⟩ := atL_mem.1 hk
  have hun : ∀ j, j < m → ix j ≠ k := fun j hj e => by
   have := (hs (k : Int)).2 ⟨j, hj, by rw [e]⟩
   rw [hu] at this; cases this
  refine ⟨m + 1, _, _, ht.step hkl hun hat hs', fun x => ?_⟩
  rw [SM.get_put]
  by_cases q : (k : Int) = x
  ·rw [if_pos q]
   exact ⟨fun _ => ⟨m, by omega, by rw [if_pos rfl]; exact q.symm⟩, fun _ => rfl⟩
  ·rw [if_neg q, hs x]
   constructor
   ·rintro ⟨j, hj, e⟩
    exact ⟨j, by omega, by rw [if_neg (by omega)]; exact e⟩
   ·rintro ⟨j, hj, e⟩
    by_cases w : j = m
    ·subst w; rw [if_pos rfl] at e; exact absurd e.symm q
    ·rw [if_neg w] at e; exact ⟨j, by omega, e⟩
theorem WalkT.len {seen : SM Int Unit} (h : WalkT ds a site seen) : ∃ s ix, Trail ds a site seen.es.length s ix := by
 obtain ⟨m, s, ix, ht, hs⟩ := h.tr
 have hnd : ((List.range m).map fun j => ((ix j : Nat) : Int)).Nodup := by
  rw [List.nodup_iff_pairwise_ne, List.pairwise_map]
  refine List.Pairwise.imp_of_mem ?_ List.nodup_range
  intro i j hi hj hne e
  exact hne (ht.ixi i j (List.mem_range.1 hi) (List.mem_range.1 hj) (by omega))
 have h1 := nodup_sub_len (m := seen.es.map (·.2.1)) hnd (fun x hx => by
  obtain ⟨j, hj, rfl⟩ := List.mem_map.1 hx
  obtain ⟨v, hv⟩ := Option.isSome_iff_exists.1 ((hs _).2 ⟨j, List.mem_range.1 hj, rfl⟩)
  obtain ⟨n, hn⟩ := SM.mem_of hv
  exact List.mem_map.2 ⟨_, hn, rfl⟩)
 have h2 := nodup_sub_len (m := (List.range m).map fun j => ((ix j : Nat) : Int)) (SM.keys_nd h.ok) (fun x hx => by
  obtain ⟨e, he, rfl⟩ := List.mem_map.1 hx
  obtain ⟨j, hj, e2⟩ := (hs e.2.1).1 (by rw [SM.get_of h.ok he]; rfl)
  exact List.mem_map.2 ⟨j, List.mem_range.2 hj, e2.symm⟩)
 simp at h1 h2
 have : seen.es.length = m := by omega
 rw [this]
 exact ⟨s, ix, ht⟩
end
theorem sm_hitP {κ β : Type} [DecidableEq κ] {q : S → S → Option Bool} {ek : κ → S} {ev : β → S} (hk : KeyEnc q ek) (s : SM κ β) (x : κ) (y : β) (h : s.get x = some y) {zs : S} {k : S → Bool → Prop} (hq : k (ev y) true) : LookG (findM q (ek x) (smE ek ev s.es) 0) zs k := by
 have hg : s.get x = mget (s.es.map (·.2)) x := rfl
 rcases findM_sm (ev := ev) hk x s.es s.clock 0 with ⟨g1, g2, _⟩ | ⟨j, v, g1, g2, _⟩
 ·rw [hg, g1] at h; cases h
 ·rw [hg, g1] at h; cases h; exact .mk _ _ (.inl ⟨_, _, g2, rfl⟩) hq
theorem sm_missP {κ β : Type} [DecidableEq κ] {q : S → S → Option Bool} {ek : κ → S} {ev : β → S} (hk : KeyEnc q ek) (s : SM κ β) (x : κ) (h : s.get x = none) {zs : S} {k : S → Bool → Prop} (hq : k zs false) : LookG (findM q (ek x) (smE ek ev s.es) 0) zs k := by
 have hg : s.get x = mget (s.es.map (·.2)) x := rfl
 rcases findM_sm (ev := ev) hk x s.es s.clock 0 with ⟨g1, g2, _⟩ | ⟨j, v, g1, g2, _⟩
 ·exact .mk _ _ (.inr ⟨g2, rfl, rfl⟩) hq
 ·rw [hg, g1] at h; cases h
theorem sm_entryP {κ β : Type} [DecidableEq κ] {q : S → S → Option Bool} {ek : κ → S} {ev : β → S} (hk : KeyEnc q ek) (s : SM κ β) (x : κ) (z y : β) {zs : S} (hz : zs = ev z) (h : (s.get x).getD z = y) {k : S → Nat → Nat → Ents → Prop} (hq : k (ev y) (s.stamp x) (s.put x y).clock (smE ek ev (s.put x y).es)) :
  EntG (findM q (ek x) (smE ek ev s.es) 0) (sameAt (smE ek ev s.es) (ek x)) s.clock (smE ek ev s.es) (ek x) zs k := sm_entry hk s x z hz (by rw [h]; exact hq)
abbrev evP (p : Nat) : PV → S
 | .no => .c .nils
 | .inn i c => .c (.inn p i c)
 | .row q => .c (.row q)
abbrev pmO (q : Bool) (p : Nat) (M : SM ByteArray PV) : Ob := .pmap q p M.clock (smE ekS (evP p) M.es)
def ixR (l : List Nat) : List (List V) := l.map fun (j : Nat) => [V.int .i64 (j : Int)]
theorem putAt_get {α : Type} {l : List α} {i : Nat} (hi : i ≤ l.length) (x : α) (j : Nat) : (putAt l i x)[j]? = if j = i then some x else l[j]? := by
 unfold putAt
 split
 ·rename_i h
  rw [List.getElem?_set]
  by_cases e : i = j
  ·subst e; simp [h]
  ·rw [if_neg e, if_neg (Ne.symm e)]
 ·rename_i h
  have : i = l.length := by omega
  subst this
  by_cases e : j = l.length
  ·subst e; simp
  ·rw [if_neg e]
   by_cases e2 : j < l.length
   ·rw [List.getElem?_append_left e2]
   ·rw [List.getElem?_eq_none (by simp; omega), List.getElem?_eq_none (by omega)]
def Rl {κ β : Type} (x : κ) (y z : β) (es1 es2 : List (Nat × κ × β)) : Prop := es1.length = es2.length ∧ ∀ (j : Nat) (e : Nat × κ × β), es1[j]? = some e → es2[j]? = some e ∨ (e.2 = (x, y) ∧ es2[j]? = some (e.1, x, z))
theorem Rl.put {κ β : Type} [DecidableEq κ] {x b : κ} {y z v : β} {cl : Nat} (hb : x ≠ b) : ∀ {es1 es2 : List (Nat × κ × β)}, Rl x y z es1 es2 → Rl x y z (eput cl es1 b v) (eput cl es2 b v)
 | [], [], _ => ⟨rfl, fun j e h => .inl h⟩
 | [], _ :: _, h => by have := h.1; simp at this
 | _ :: _, [], h => by have := h.1; simp at this
 | f :: r, g :: t, h => by
  have hr : Rl x y z r t := ⟨by have := h.1; simpa using this, fun j e he => by have := h.2 (j + 1) e (by simpa using he); simpa using this⟩
  have h0 := h.2 0 f rfl
  simp only [List.getElem?_cons_zero, Option.some.injEq] at h0
  have ih := Rl.put (v := v) (cl := cl) hb hr
  have hk : g.2.1 = f.2.1 := by
   rcases h0 with e | ⟨e1, e2⟩
   ·rw [e]
   ·rw [e2, e1]
  by_cases q : f.2.1 = b
  ·have q2 : g.2.1 = b := hk.trans q
   have hfg : g = f := by
    rcases h0 with e | ⟨e1, e2⟩
    ·exact e
    ·rw [e1] at q; exact absurd q hb
   refine ⟨by simp [eput, q, q2]; exact hr.1, fun j e he => ?_⟩
   cases j with
   | zero => simp [eput, q, q2, hfg] at he ⊢; exact .inl he
   | succ j => simp [eput, q, q2] at he ⊢; exact hr.2 j e he
  ·have q2 : ¬ g.2.1 = b := fun e => q (hk.symm.trans e)
   refine ⟨by simp [eput, q, q2]; exact ih.1, fun j e he => ?_⟩
   cases j with
   | zero =>
    simp [eput, q, q2] at he ⊢
    subst he
    rcases h0 with e | ⟨e1, e2⟩
    ·exact .inl e
    ·exact .inr ⟨e1, e2⟩
   | succ j => simp [eput, q, q2] at he ⊢; exact ih.2 j e he
theorem rl_ents {p a i : Nat} {c : Value} {x : ByteArray} {es1 es2 : List (Nat × ByteArray × PV)} (h : Rl x (.row a) (.inn i c) es1 es2) : (smE ekS (evP p) es2).length = (smE ekS (evP p) es1).length ∧ ∀ (j : Nat) (u v : Nat × S × S), (smE ekS (evP p) es1)[j]? = some u → (smE ekS (evP p) es2)[j]? = some v → v = u ∨ (u.2.2 = .c (.row a) ∧ v = (u.1, u.2.1, .c (.inn p i c))) := by
 unfold smE
 refine ⟨by simp [h.1], fun j u v hu hv => ?_⟩
 rw [List.getElem?_map] at hu hv
 cases q : es1[j]? with
 | none => rw [q] at hu; cases hu
 | some e =>
  rw [q] at hu
  cases hu
  rcases h.2 j e q with q2 | ⟨e1, q2⟩
  ·rw [q2] at hv; cases hv; exact .inl rfl
  ·rw [q2] at hv; cases hv
   obtain ⟨n, k, w⟩ := e
   simp only [Prod.mk.injEq] at e1
   obtain ⟨rfl, rfl⟩ := e1
   exact .inr ⟨rfl, rfl⟩
theorem put2_clock (M : SM ByteArray PV) {A B : ByteArray} (hne : A ≠ B) (y y' z z' : PV) : ((M.put A y).put B z).clock = ((M.put A y').put B z').clock := by
 have h : ∀ y, (M.put A y).get B = M.get B := fun y => by rw [SM.get_put, if_neg hne]
 have e : ∀ y z, ((M.put A y).put B z).clock = if ((M.put A y).get B).isSome then (M.put A y).clock else (M.put A y).clock + 1 := fun _ _ => rfl
 rw [e, e, h, h]
 rfl
section
variable {ds : List Du} {k : Nat} {M : SM ByteArray PV} {ins : List (Value × Option (List (List V)))}
theorem AtInv.lt (h : AtInv ds k M ins) {s : ByteArray} {i : Nat} {c : Value} (hg : M.get s = some (.inn i c)) : i < ins.length ∧ ins[i]? = some (c, some (ixR (atL ds k s))) := by
 obtain ⟨i', c', e, hi⟩ := h.ent s _ hg
 cases e
 exact ⟨(List.getElem?_eq_some_iff.1 hi).1, hi⟩
theorem AtInv.next (h : AtInv ds k M ins) (hk : k < ds.length) {A B : ByteArray} (hA : ds[k].a = A) (hB : ds[k].b = B) (hne : A ≠ B) {iA iB : Nat} {c c2 : Value} {ins2 : List (Value × Option (List (List V)))}
  (h1 : (∃ c0, M.get A = some (.inn iA c0)) ∨ (M.get A = none ∧ ins.length ≤ iA)) (h2 : (∃ c0, M.get B = some (.inn iB c0)) ∨ (M.get B = none ∧ ins.length ≤ iB)) (hab : iA ≠ iB)
  (hins : ∀ i, ins2[i]? = if i = iB then some (c2, some (ixR (atL ds (k + 1) B))) else if i = iA then some (c, some (ixR (atL ds (k + 1) A))) else ins[i]?) :
  AtInv ds (k + 1) ((M.put A (.inn iA c)).put B (.inn iB c2)) ins2 := by
 have hkd : ds.getD k du0 = ds[k] := by simp [hk]
 have hs : ∀ s, s ≠ A → s ≠ B → atL ds (k + 1) s = atL ds k s := fun s q1 q2 => by
  rw [atL_succ, hkd, if_neg (fun q => by
   rcases q with q | q
   ·exact q1 (q.symm.trans hA)
   ·exact q2 (q.symm.trans hB)), List.append_nil]
 have hAn : atL ds (k + 1) A ≠ [] := by rw [atL_succ, hkd, if_pos (.inl hA)]; simp
 have hBn : atL ds (k + 1) B ≠ [] := by rw [atL_succ, hkd, if_pos (.inr hB)]; simp
 have hfr : ∀ s i c0, s ≠ A → s ≠ B → M.get s = some (.inn i c0) → i ≠ iA ∧ i ≠ iB := fun s i c0 q1 q2 hg => by
  have := (h.lt hg).1
  refine ⟨fun e => ?_, fun e => ?_⟩
  ·subst e
   rcases h1 with ⟨c1, hg2⟩ | ⟨_, e⟩
   ·exact q1 (h.inj _ _ _ _ _ hg hg2)
   ·omega
  ·subst e
   rcases h2 with ⟨c1, hg2⟩ | ⟨_, e⟩
   ·exact q2 (h.inj _ _ _ _ _ hg hg2)
   ·omega
 have hget : ∀ s, ((M.put A (.inn iA c)).put B (.inn iB c2)).get s = if B = s then some (.inn iB c2) else if A = s then some (.inn iA c) else M.get s := fun s => by rw [SM.get_put, SM.get_put]
 refine ⟨(h.ok.put _ _).put _ _, fun s => ?_, fun s v hg => ?_, fun s s' i c1 c1' g1 g2 => ?_⟩
 ·rw [hget]
  by_cases q2 : B = s
  ·subst q2; simp [hBn]
  ·by_cases q1 : A = s
   ·subst q1; simp [q2, hAn]
   ·rw [if_neg q2, if_neg q1, hs s (Ne.symm q1) (Ne.symm q2)]; exact h.has s
 ·rw [hget] at hg
  by_cases q2 : B = s
  ·subst q2
   rw [if_pos rfl] at hg
   cases hg
   exact ⟨iB, c2, rfl, by rw [hins, if_pos rfl]; rfl⟩
  ·by_cases q1 : A = s
   ·subst q1
    rw [if_neg q2, if_pos rfl] at hg
    cases hg
    exact ⟨iA, c, rfl, by rw [hins, if_neg hab, if_pos rfl]; rfl⟩
   ·rw [if_neg q2, if_neg q1] at hg
    obtain ⟨i, c0, rfl, hi⟩ := h.ent s v hg
    obtain ⟨f1, f2⟩ := hfr s i c0 (Ne.symm q1) (Ne.symm q2) hg
    exact ⟨i, c0, rfl, by rw [hins, if_neg f2, if_neg f1, hs s (Ne.symm q1) (Ne.symm q2)]; exact hi⟩
 ·rw [hget] at g1 g2
  by_cases q2 : B = s
  ·by_cases q2' : B = s'
   ·exact q2.symm.trans q2'
   ·rw [if_pos q2] at g1
    cases g1
    rw [if_neg q2'] at g2
    by_cases q1' : A = s'
    ·rw [if_pos q1'] at g2; cases g2; exact absurd rfl hab
    ·rw [if_neg q1'] at g2; exact absurd rfl (hfr s' _ _ (Ne.symm q1') (Ne.symm q2') g2).2
  ·rw [if_neg q2] at g1
   by_cases q1 : A = s
   ·rw [if_pos q1] at g1
    cases g1
    by_cases q2' : B = s'
    ·rw [if_pos q2'] at g2; cases g2; exact absurd rfl hab
    ·rw [if_neg q2'] at g2
     by_cases q1' : A = s'
     ·exact q1.symm.trans q1'
     ·rw [if_neg q1'] at g2; exact absurd rfl (hfr s' _ _ (Ne.symm q1') (Ne.symm q2') g2).1
   ·rw [if_neg q1] at g1
    by_cases q2' : B = s'
    ·rw [if_pos q2'] at g2; cases g2; exact absurd rfl (hfr s _ _ (Ne.symm q1) (Ne.symm q2) g1).2
    ·rw [if_neg q2'] at g2
     by_cases q1' : A = s'
     ·rw [if_pos q1'] at g2; cases g2; exact absurd rfl (hfr s _ _ (Ne.symm q1) (Ne.symm q2) g1).1
     ·rw [if_neg q1'] at g2; exact h.inj s s' i c1 c1' g1 g2
theorem AtInv.inn (h : AtInv ds k M ins) {p : Nat} : ∀ x ∈ smE ekS (evP p) M.es, innS x.2.2 := by
 intro x hx
 obtain ⟨e, he, rfl⟩ := List.mem_map.1 hx
 obtain ⟨i, c, hv, _⟩ := h.ent _ _ (SM.get_of h.ok he)
 show innS (evP p e.2.2)
 rw [hv]; trivial
theorem ixR_snoc {s : ByteArray} (hk : k < ds.length) (hat : ds[k].at s) : ixR (atL ds (k + 1) s) = ixR (atL ds k s) ++ [[.int .i64 (k : Int)]] := by
 have hkd : ds.getD k du0 = ds[k] := by simp [hk]
 rw [atL_succ, hkd, if_pos hat]
 unfold ixR
 rw [List.map_append]; rfl
theorem ghost2 {K : St → Prop} {σ : St} {A B : ByteArray} {a b e iA iB : Nat} {ins1 : List (Value × Option (List (List V)))} {rA rB : List (List V)} (hne : A ≠ B) (hI : AtInv ds k M ins)
  (h1 : getA σ.hp 0 = some (.pmap true 1 ((M.put A (.row a)).put B (.row b)).clock (smE ekS (evP 1) ((M.put A (.row a)).put B (.row b)).es))) (h2 : getA σ.hp 1 = some (.pool e 1 ins1)) (h3 : getA σ.hp a = some (.row e 1 rA)) (h4 : getA σ.hp b = some (.row e 1 rB))
  (hab : a ≠ b ∧ 2 ≤ a ∧ 2 ≤ b) (hB : iB ≤ ins1.length ∧ ∀ x, ins1[iB]? = some x → x.2 = none) (hA : iA ≤ (putAt ins1 iB ((.bool true : Value), some rB)).length ∧ ∀ x, ins1[iA]? = some x → x.2 = none) (hi : iA ≠ iB)
  (hk : ∀ c1 c2, K ⟨σ.fr, updH (updH (updH σ.hp [(b, .dead), (1, .pool e 1 (putAt ins1 iB (c2, some rB))), (0, .pmap true 1 ((M.put A (.row a)).put B (.row b)).clock (smE ekS (evP 1) ((M.put A (.row a)).put B (.inn iB c2)).es))])
   [(a, .dead), (1, .pool e 1 (putAt (putAt ins1 iB (c2, some rB)) iA (c1, some rA))), (0, .pmap true 1 ((M.put A (.row a)).put B (.row b)).clock (smE ekS (evP 1) ((M.put A (.inn iA c1)).put B (.inn iB c2)).es))]) [(0, .pmap false 1 ((M.put A (.row a)).put B (.row b)).clock (smE ekS (evP 1) ((M.put A (.inn iA c1)).put B (.inn iB c2)).es))], σ.nx⟩) : GhostG K σ := by
 obtain ⟨q1, q2, q3⟩ := hab
 have hlenB : ∀ c : Value, (putAt ins1 iB (c, some rB)).length = (putAt ins1 iB ((.bool true : Value), some rB)).length := fun c => by unfold putAt; split <;> simp
 have hpa : ∀ c : Value, ∀ x, (putAt ins1 iB (c, some rB))[iA]? = some x → x.2 = none := fun c x hx => by
  rw [putAt_get hB.1, if_neg hi] at hx; exact hA.2 x hx
 have two : ∀ v v' : PV, Rl B v v' ((M.put A (.row a)).put B v).es ((M.put A (.row a)).put B v').es := fun v v' => by
  have := eput_two (cl := (M.put A (.row a)).clock) (M.put A (.row a)).es B v v'
  exact this
 have one : ∀ (v : PV) (c : Value), Rl A (.row a) (.inn iA c) ((M.put A (.row a)).put B v).es ((M.put A (.inn iA c)).put B v).es := fun v c => by
  have h := eput_two (cl := M.clock) M.es A (.row a) (.inn iA c)
  exact Rl.put (cl := (M.put A (.row a)).clock) hne h
 refine .adopt 0 1 b _ e 1 iB _ (fun c => smE ekS (evP 1) ((M.put A (.row a)).put B (.inn iB c)).es) ins1 rB h1 h2 h4 hB (fun c => rl_ents (two _ _)) fun c2 => ?_
 refine .adopt 0 1 a ((M.put A (.row a)).put B (.row b)).clock e 1 iA (smE ekS (evP 1) ((M.put A (.row a)).put B (.inn iB c2)).es) (fun c => smE ekS (evP 1) ((M.put A (.inn iA c)).put B (.inn iB c2)).es) (putAt ins1 iB (c2, some rB)) rA ?_ ?_ ?_ ⟨by rw [hlenB]; exact hA.1, hpa c2⟩ (fun c => rl_ents (one _ _)) fun c1 => ?_
 ·simp [getA_updH, chGet]
 ·simp [getA_updH, chGet]
 ·simp only [getA_updH, chGet]
  rw [if_neg (by omega), if_neg (by omega), if_neg (Ne.symm q1)]
  exact h3
 refine .shut 0 1 ((M.put A (.row a)).put B (.row b)).clock (smE ekS (evP 1) ((M.put A (.inn iA c1)).put B (.inn iB c2)).es) ?_ ?_ (.done (hk c1 c2))
 ·simp [getA_updH, chGet]
 ·intro x hx
  obtain ⟨f, hf, rfl⟩ := List.mem_map.1 hx
  have hg := SM.get_of ((hI.ok.put A (.inn iA c1)).put B (.inn iB c2)) hf
  rw [SM.get_put, SM.get_put] at hg
  show innS (evP 1 f.2.2)
  by_cases w2 : B = f.2.1
  ·rw [if_pos w2] at hg; rw [← Option.some.inj hg]; trivial
  ·rw [if_neg w2] at hg
   by_cases w1 : A = f.2.1
   ·rw [if_pos w1] at hg; rw [← Option.some.inj hg]; trivial
   ·rw [if_neg w1] at hg
    obtain ⟨i, c, hv, _⟩ := hI.ent _ _ hg
    rw [hv]; trivial
theorem put2_get {ins1 : List (Value × Option (List (List V)))} {iA iB : Nat} {x y : Value × Option (List (List V))} (hB : iB ≤ ins1.length) (hA : iA ≤ (putAt ins1 iB x).length) (hi : iA ≠ iB) (ho : ∀ i, i ≠ iA → i ≠ iB → ins1[i]? = ins[i]?) (i : Nat) :
  (putAt (putAt ins1 iB x) iA y)[i]? = if i = iB then some x else if i = iA then some y else ins[i]? := by
 rw [putAt_get hA, putAt_get hB]
 by_cases q1 : i = iA
 ·subst q1
  rw [if_pos rfl, if_neg hi, if_pos rfl]
 ·rw [if_neg q1]
  by_cases q2 : i = iB
  ·rw [if_pos q2, if_pos q2]
  ·rw [if_neg q2, if_neg q2, if_neg q1, ho i q1 q2]
theorem putAt_len {α : Type} (l : List α) (i : Nat) (x : α) : l.length ≤ (putAt l i x).length := by
 unfold putAt; split <;> simp
theorem AtInv.miss (h : AtInv ds k M ins) (hk : k < ds.length) {s : ByteArray} (hs : M.get s = none) (hat : ds[k].at s) : ixR (atL ds (k + 1) s) = [[.int .i64 (k : Int)]] := by
 have h1 : atL ds k s = [] := Classical.byContradiction fun q => by
  have := (h.has s).2 q
  rw [hs] at this; cases this
 rw [ixR_snoc hk hat, h1]; rfl
end
def toL (ds : List Du) (M : SM ByteArray PV) : SM ByteArray (List Nat) := ⟨M.clock, M.es.map fun e => (e.1, e.2.1, atL ds ds.length e.2.1)⟩
abbrev evL : List Nat → S := fun l => .c (.lst 1 (ixR l))
theorem toL_get (ds : List Du) (M : SM ByteArray PV) (s : ByteArray) : (toL ds M).get s = if (M.get s).isSome then some (atL ds ds.length s) else none := by
 unfold SM.get SM.m toL
 simp only
 generalize M.es = es
 induction es with
 | nil => rfl
 | cons e r ih =>
  unfold mget at *
  simp only [List.map_cons, List.find?_cons]
  by_cases q : e.2.1 = s
  ·subst q; simp
  ·simp only [q, decide_false]; exact ih
theorem toL_ok {ds : List Du} {M : SM ByteArray PV} (h : M.ok) : (toL ds M).ok where
 lt e he := by
  obtain ⟨f, hf, rfl⟩ := List.mem_map.1 he
  exact h.lt f hf
 nd := by
  have : (toL ds M).es.map (·.1) = M.es.map (·.1) := by simp [toL, Function.comp_def]
  rw [this]; exact h.nd
 kn := by
  have : (toL ds M).m.map (·.1) = M.m.map (·.1) := by simp [toL, SM.m, Function.comp_def]
  rw [this]; exact h.kn
theorem toL_mem {ds : List Du} {M : SM ByteArray PV} {ins : List (Value × Option (List (List V)))} (h : AtInv ds ds.length M ins) {e : Nat × ByteArray × List Nat} (he : e ∈ (toL ds M).es) : e.2.2 = atL ds ds.length e.2.1 ∧ e.2.2 ≠ [] := by
 obtain ⟨f, hf, rfl⟩ := List.mem_map.1 he
 refine ⟨rfl, (h.has _).1 ?_⟩
 rw [SM.get_of h.ok hf]; rfl
theorem toL_frz {ds : List Du} {M : SM ByteArray PV} {ins : List (Value × Option (List (List V)))} (h : AtInv ds ds.length M ins) {p : Nat} :
  (smE ekS evL (toL ds M).es).length = (smE ekS (evP p) M.es).length ∧ ∀ (j : Nat) (x y : Nat × S × S), (smE ekS (evP p) M.es)[j]? = some x → (smE ekS evL (toL ds M).es)[j]? = some y → y.1 = x.1 ∧ y.2.1 = x.2.1 ∧ ((x.2.2 = .c .nils ∧ y.2.2 = .c .nils) ∨ ∃ i c rows, x.2.2 = .c (.inn p i c) ∧ ins[i]? = some (c, some rows) ∧ y.2.2 = .c (.lst 1 rows)) := by
 unfold smE toL
 refine ⟨by simp, fun j x y hx hy => ?_⟩
 simp only [List.map_map, List.getElem?_map] at hx hy
 cases q : M.es[j]? with
 | none => rw [q] at hx; cases hx
 | some e =>
  rw [q] at hx hy
  cases hx
  cases hy
  have hg := SM.get_of h.ok (List.mem_of_getElem? q)
  obtain ⟨i, c, hv, hi⟩ := h.ent _ _ hg
  refine ⟨rfl, rfl, .inr ⟨i, c, _, ?_, hi, rfl⟩⟩
  show evP p e.2.2 = _
  rw [hv]
theorem toL_len {ds : List Du} {M : SM ByteArray PV} {ins : List (Value × Option (List (List V)))} (h : AtInv ds ds.length M ins) {s : Nat → ByteArray} {ix : Nat → Nat} (hP : PathOf ds s ix) : M.es.length = ds.length + 1 := by
 have h1 := hP.sites (l := M.es.map (·.2.1)) (SM.keys_nd h.ok) (fun t => by
  rw [← h.has t]
  constructor
  ·intro hm
   obtain ⟨e, he, rfl⟩ := List.mem_map.1 hm
   rw [SM.get_of h.ok he]; rfl
  ·intro hs
   obtain ⟨v, hv⟩ := Option.isSome_iff_exists.1 hs
   obtain ⟨n, hn⟩ := SM.mem_of hv
   exact List.mem_map.2 ⟨_, hn, rfl⟩)
 rw [List.length_map] at h1
 exact h1
def StI (a : ByteArray) (vis : List (Nat × ByteArray × List Nat)) : Prop := (∀ e ∈ vis, e.2.2.length ≤ 2) ∧ ((a = ⟨#[]⟩ ∧ ∀ e ∈ vis, e.2.2.length ≠ 1) ∨ ∃ e ∈ vis, e.2.1 = a ∧ e.2.2.length = 1)
theorem StI.fin {ds : List Du} {M : SM ByteArray PV} {ins : List (Value × Option (List (List V)))} (h : AtInv ds ds.length M ins) {a : ByteArray} {vis : List (Nat × ByteArray × List Nat)} (hs : StI a vis) (hp : vis.Perm (toL ds M).es) {s : Nat → ByteArray} {ix : Nat → Nat} (hP : PathOf ds s ix) : ∃ s' ix', PathOf ds s' ix' ∧ s' 0 = a := by
 rcases hs.2 with ⟨_, hs⟩ | ⟨e, he, rfl, h1⟩
 ·exfalso
  have h0 : ((toL ds M).get (s 0)) = some (atL ds ds.length (s 0)) := by
   rw [toL_get, if_pos ((h.has _).2 (hP.ne (Nat.zero_le _)))]
  obtain ⟨n, hn⟩ := SM.mem_of h0
  exact hs _ (hp.mem_iff.2 hn) ((hP.one (Nat.zero_le _)).2 (.inl rfl))
 ·obtain ⟨e1, e2⟩ := toL_mem h (hp.mem_iff.1 he)
  rw [e1] at h1 e2
  obtain ⟨j, hj, e3⟩ := hP.site e2
  rw [← e3] at h1 ⊢
  rcases (hP.one hj).1 h1 with rfl | rfl
  ·exact ⟨s, ix, hP, rfl⟩
  ·exact ⟨_, _, hP.rev, rfl⟩
theorem StI.le2 {ds : List Du} {M : SM ByteArray PV} {ins : List (Value × Option (List (List V)))} (h : AtInv ds ds.length M ins) {a : ByteArray} {vis : List (Nat × ByteArray × List Nat)} (hs : StI a vis) (hp : vis.Perm (toL ds M).es) : (∀ t, (atL ds ds.length t).length ≤ 2) ∧ (a = ⟨#[]⟩ ∨ (atL ds ds.length a).length = 1) := by
 refine ⟨fun t => ?_, ?_⟩
 ·by_cases q : atL ds ds.length t = []
  ·rw [q]; simp
  ·have h0 : ((toL ds M).get t) = some (atL ds ds.length t) := by rw [toL_get, if_pos ((h.has _).2 q)]
   obtain ⟨n, hn⟩ := SM.mem_of h0
   exact hs.1 _ (hp.mem_iff.2 hn)
 ·rcases hs.2 with ⟨e, _⟩ | ⟨e, he, rfl, h1⟩
  ·exact .inl e
  ·rw [(toL_mem h (hp.mem_iff.1 he)).1] at h1
   exact .inr h1
structure WalkI (ds : List Du) (a site : ByteArray) (seen : SM Int Unit) : Prop where
 ok : seen.ok
 dom : ∀ x, (seen.get x).isSome → ∃ k : Nat, x = (k : Int) ∧ k < ds.length
 way : ∀ s ix, PathOf ds s ix → s 0 = a → ∃ m, m ≤ ds.length ∧ site = s m ∧ ∀ k : Nat, (seen.get (k : Int)).isSome ↔ ∃ j, j < m ∧ ix j = k
theorem WalkI.begin (ds : List Du) (a : ByteArray) : WalkI ds a a SM.nil where
 ok := SM.ok_nil
 dom x h := by rw [SM.get_nil] at h; cases h
 way s ix hP h := ⟨0, Nat.zero_le _, h.symm, fun k => by rw [SM.get_nil]; simp⟩
section
variable {ds : List Du} {a site : ByteArray} {seen : SM Int Unit}
theorem seen_keys (h : seen.ok) {L : List Int} (hL : ∀ x, (seen.get x).isSome → x ∈ L) : seen.es.length ≤ L.length := by
 have := nodup_sub_len (SM.keys_nd h) (m := L) (fun x hx => by
  obtain ⟨e, he, rfl⟩ := List.mem_map.1 hx
  exact hL _ (by rw [SM.get_of h he]; rfl))
 rwa [List.length_map] at this
theorem WalkI.len (h : WalkI ds a site seen) : seen.es.length ≤ ds.length := by
 have := seen_keys h.ok (L := (List.range ds.length).map fun (k : Nat) => (k : Int)) (fun x hx => by
  obtain ⟨k, rfl, hk⟩ := h.dom x hx
  exact List.mem_map.2 ⟨k, List.mem_range.2 hk, rfl⟩)
 simpa using this
theorem WalkI.over (h : WalkI ds a site seen) (hu : ∀ k ∈ atL ds ds.length site, (seen.get (k : Int)).isSome = true) {s : Nat → ByteArray} {ix : Nat → Nat} (hP : PathOf ds s ix) (h0 : s 0 = a) : seen.es.length = ds.length := by
 obtain ⟨m, hm, rfl, hs⟩ := h.way s ix hP h0
 have hmn : m = ds.length := by
  refine Classical.byContradiction fun q => ?_
  have hlt : m < ds.length := by omega
  have h1 := hu (ix m) (atL_mem.2 ⟨hP.ixl _ hlt, (hP.at_iff hm hlt).2 (.inl rfl)⟩)
  obtain ⟨j, hj, e⟩ := (hs (ix m)).1 h1
  have := hP.ixi _ _ (by omega) hlt e
  omega
 subst hmn
 have h1 := h.len
 have h2 := nodup_sub_len (l := (List.range ds.length).map fun (k : Nat) => (k : Int)) (m := seen.es.map (·.2.1)) (by
  rw [List.nodup_iff_pairwise_ne, List.pairwise_map]
  exact List.Pairwise.imp (fun hne e => hne (by omega)) List.nodup_range) (fun x hx => by
  obtain ⟨k, hk, rfl⟩ := List.mem_map.1 hx
  obtain ⟨j, hj, e⟩ := hP.onto (List.mem_range.1 hk)
  obtain ⟨v, hv⟩ := Option.isSome_iff_exists.1 ((hs k).2 ⟨j, hj, e⟩)
  obtain ⟨n, hn⟩ := SM.mem_of hv
  exact List.mem_map.2 ⟨_, hn, rfl⟩)
 simp at h2
 omega
theorem WalkI.step (h : WalkI ds a site seen) {k : Nat} (hk : k ∈ atL ds ds.length site) (hu : (seen.get (k : Int)).isSome = false) {site' : ByteArray} (hs' : site' = if (ds.getD k du0).a = site then (ds.getD k du0).b else (ds.getD k du0).a) :
  WalkI ds a site' (seen.put (k : Int) ()) := by
 obtain ⟨hkl, hat⟩ := atL_mem.1 hk
 refine ⟨h.ok.put _ _, fun x hx => ?_, fun s ix hP h0 => ?_⟩
 ·rw [SM.get_put] at hx
  by_cases q : (k : Int) = x
  ·exact ⟨k, q.symm, hkl⟩
  ·rw [if_neg q] at hx; exact h.dom x hx
 ·obtain ⟨m, hm, rfl, hs⟩ := h.way s ix hP h0
  obtain ⟨j, hj, rfl⟩ := hP.onto hkl
  have hjm : j = m := by
   rcases (hP.at_iff hm hj).1 hat with e | e
   ·exact e
   ·have h1 := (hs (ix j)).2 ⟨j, by omega, rfl⟩
    rw [hu] at h1; cases h1
  subst hjm
  refine ⟨j + 1, by omega, ?_, fun k => ?_⟩
  ·rw [hs']
   rcases hP.ends j hj with ⟨e1, e2⟩ | ⟨e1, e2⟩
   ·rw [if_pos e1, e2]
   ·rw [if_neg (fun q => by
     have := hP.si _ _ (by omega) hm (e1.symm.trans q)
     omega), e1]
  ·rw [SM.get_put]
   by_cases q : ((ix j : Nat) : Int) = (k : Int)
   ·rw [if_pos q]
    exact ⟨fun _ => ⟨j, by omega, by omega⟩, fun _ => rfl⟩
   ·rw [if_neg q, hs k]
    constructor
    ·rintro ⟨i, hi, e⟩; exact ⟨i, by omega, e⟩
    ·rintro ⟨i, hi, e⟩
     refine ⟨i, ?_, e⟩
     rcases Nat.lt_succ_iff_lt_or_eq.1 hi with w | w
     ·exact w
     ·subst w; exact absurd (by rw [e]) q
theorem WalkI.put_len (h : WalkI ds a site seen) {k : Nat} (hu : (seen.get (k : Int)).isSome = false) : (seen.put (k : Int) ()).es.length = seen.es.length + 1 := by
 have : ∀ es : List (Nat × Int × Unit), mget (es.map (·.2)) (k : Int) = none → (eput seen.clock es (k : Int) ()).length = es.length + 1 := by
  intro es
  induction es with
  | nil => intro _; rfl
  | cons e r ih =>
   intro hm
   by_cases q : e.2.1 = (k : Int)
   ·simp [mget, q] at hm
   ·have := ih (by simpa [mget, List.find?_cons, q] using hm)
    simp [eput, q, this]
 exact this seen.es (Option.isNone_iff_eq_none.1 (Option.isSome_eq_false_iff.1 hu))
end
abbrev ekI2 : Int → S := fun n => .c (.int .i64 n)
abbrev evU : Unit → S := fun _ => .c (.bool true)
theorem idxP_orY {α : Type} (p : α → Bool) (l : List α) : (idxP p l = -1 ∧ ∀ x ∈ l, p x = false) ∨ ∃ i0, ∃ h0 : i0 < l.length, idxP p l = ((i0 : Nat) : Int) ∧ p l[i0] = true ∧ ∀ i (hi : i < l.length), i < i0 → p l[i] = false := by
 unfold idxP
 by_cases h : l.any p = true
 ·right
  have hlt := List.findIdx_lt_length_of_exists (p := p) (xs := l) (by simpa [List.any_eq_true] using h)
  refine ⟨l.findIdx p, hlt, by rw [if_pos h], List.findIdx_getElem (w := hlt), ?_⟩
  intro i hi hlt
  simpa using List.not_of_lt_findIdx hlt
 ·left
  refine ⟨by rw [if_neg h], fun x hx => ?_⟩
  cases hp : p x with
  | false => rfl
  | true => exact absurd (List.any_eq_true.2 ⟨x, hx, hp⟩) h
theorem isW1_pc (seen : SM Int Unit) (k : Nat) : PCp 95 [.c (.int .i64 (k : Int)), .c (.ptr 0 0)] [.box [.mp 1], smO ekI2 evU seen] (.c (.bool (!(seen.get (k : Int)).isSome))) [.box [.mp 1], smO ekI2 evU seen] := by
 cases h : seen.get (k : Int) with
 | none =>
  refine fnP Tryz.func95 Tryz.results95 ?_
  conv => whnf
  repeat' (first | ((refine sm_missP (ek := ekI2) (ev := evU) (keyInt .i64) seen (k : Int) h ?_); conv => whnf) | fail)
  exact finb rfl
 | some v =>
  refine fnP Tryz.func95 Tryz.results95 ?_
  conv => whnf
  repeat' (first | ((refine sm_hitP (ek := ekI2) (ev := evU) (keyInt .i64) seen (k : Int) v h ?_); conv => whnf) | fail)
  exact finb rfl
theorem ixSeen_pc (seen : SM Int Unit) (g : Nat) (p : Nat → Bool) (l : List Nat) (hl : l.length ≤ 1000000) (hg : ∀ x ∈ l, PCp g [.c (.int .i64 (( x : Nat) : Int)), .c (.ptr 0 0)] [.box [.mp 1], smO ekI2 evU seen] (.c (.bool (p x))) [.box [.mp 1], smO ekI2 evU seen]) : PCp 94 [.c (.lst 1 (l.map (fun (j : Nat) => [V.int .i64 (j : Int)]))), .c (.fn g [.ptr 0 0])] [.box [.mp 1], smO ekI2 evU seen] (.c (.int .i64 (idxP p l))) [.box [.mp 1], smO ekI2 evU seen] := by
 have hlm : (l.map (fun (j : Nat) => [V.int .i64 (j : Int)])).length = l.length := List.length_map ..
 refine fnP Tryz.func94 Tryz.results94 ?_
 conv => whnf
 refine loop_count (l.length) [] [0, 1, 7, 8] (fun k (_ : Unit) => ⟨[(0, .c (.lst 1 (l.map (fun (j : Nat) => [V.int .i64 (j : Int)])))), (1, .c (.fn g [.ptr 0 0])), (7, .c (.int .i64 (l.map (fun (j : Nat) => [V.int .i64 (j : Int)])).length)), (8, .c (.int .i64 k))], [(0, .box [.mp 1]), (1, smO ekI2 evU seen)], 2⟩) (fun k (_ : Unit) => ∀ i (hi : i < l.length), i < k → p l[i] = false) (()) ?_ ?_ ?_
 ·conv => whnf
  exact ⟨rfl, by intro i hi h; omega⟩
 ·intro k _ hk hi
  conv => whnf
  repeat' (first | (refine CondG.mk (fun h => ?_) (fun h => ?_) <;> (try simp only [decide_eq_true_eq, decide_eq_false_iff_not, Bool.not_eq_true', Bool.not_eq_false', beq_iff_eq, beq_eq_false_iff_ne, bne_iff_ne, bne_eq_false_iff_eq] at h) <;> (first | (exfalso; first | omega | exact h trivial) | (conv => whnf))) | (refine  CallX.mk _ _ (by exact hg l[k] (List.getElem_mem hk)) ?_; conv => whnf) | (refine idx_at _ (by with_reducible rfl) (by first | assumption | omega) ?_; conv => whnf) | fail)
  ·exact .mk ⟨by rw [idxP_hit hk (fun i hi' => hi i (by omega) hi') h]; rfl, rfl⟩
  ·refine count_next () hk (by rw [wrap_succ hk (by omega)]; rfl) ?_
   exact all_succ' hi h
 ·intro _ hi
  conv => whnf
  repeat' (first | (refine CondG.mk (fun h => ?_) (fun h => ?_) <;> (try simp only [decide_eq_true_eq, decide_eq_false_iff_not, Bool.not_eq_true', Bool.not_eq_false', beq_iff_eq, beq_eq_false_iff_ne] at h) <;> (first | (exfalso; first | omega | exact h trivial) | (conv => whnf))) | fail)
  exact .mk ⟨by rw [idxP_miss (fun i h => hi i h h)]; rfl, rfl⟩
theorem isWay_pc (ds : List Du) (hl : ds.length ≤ 1000) (hne : ∀ x ∈ ds, x.a ≠ x.b) (hz : ∀ x ∈ ds, x.a.size ≠ 0 ∧ x.b.size ≠ 0) :
  PCq 45 [.c (.lst 5 (ds.map encDu))] [] fun r os => os = [] ∧ ∃ b : Bool, r = .c (.bool b) ∧ (∀ s ix, PathOf ds s ix → b = true) ∧ (b = true → ∃ s ix, PathOf ds s ix) := by
 have hdm : (ds.map encDu).length = ds.length := List.length_map ..
 have h0 := AtInv.begin ds
 refine fnPX Tryz.func45 Tryz.results45 ?_
 conv => whnf
 refine .gr ?_
 conv => whnf
 skip
 refine loop_for2 (ds.length) [] [0, 3, 14, 15, 16] (fun k (M : SM ByteArray PV) (ins : List (Value × Option (List (List V)))) => [(16, .c (.int .i64 (k : Int)))]) (fun k (M : SM ByteArray PV) (ins : List (Value × Option (List (List V)))) => [(0, pmO false 1 M), (1, .pool 3 1 ins)]) (fun k (M : SM ByteArray PV) (ins : List (Value × Option (List (List V)))) => AtInv ds k M ins) (SM.nil) ([]) ?_
 conv => whnf
 refine ⟨?_, ?_, ?_, ?_⟩
 ·rfl
 ·exact h0
 ·intro k M ins hk hI
  have hab := hne _ (List.getElem_mem hk)
  have hlA := atL_len ds k ds[k].a
  have hlB := atL_len ds k ds[k].b
  have hrA : (ixR (atL ds k ds[k].a)).length = (atL ds k ds[k].a).length := List.length_map ..
  have hrB : (ixR (atL ds k ds[k].b)).length = (atL ds k ds[k].b).length := List.length_map ..
  rcases hA : M.get ds[k].a with _ | vA
  ·rcases hB : M.get ds[k].b with _ | vB
   ·skip
    have hmA := hI.miss hk hA (.inl rfl)
    have hmB := hI.miss hk hB (.inr rfl)
    have hl1 : ins.length = ins.length := by simp
    conv => whnf
    repeat' (first | (refine CondG.mk (fun h => ?_) (fun h => ?_) <;> (try simp only [decide_eq_true_eq, decide_eq_false_iff_not, Bool.not_eq_true', Bool.not_eq_false', beq_iff_eq, beq_eq_false_iff_ne, bne_iff_ne, bne_eq_false_iff_eq] at h) <;> (first | (exfalso; first | omega | exact h trivial) | (conv => whnf))) | (refine .mk (by first | omega | (unfold roomOK; simp [cutRows]; done) | (unfold roomOK; simp [cutRows]; omega) | (simp [cutRows]; done) | (simp [cutRows]; omega)) ?_; conv => whnf) | (refine idx_at _ (by with_reducible rfl) (by first | assumption | omega) ?_; conv => whnf) | ((refine sm_missP (ek := ekS) (ev := evP 1) keyStr M ds[k].a hA ?_); conv => whnf) | ((refine sm_missP (ek := ekS) (ev := evP 1) keyStr M ds[k].b hB ?_); conv => whnf) | ((refine sm_entryP (ek := ekS) (ev := evP 1) keyStr M ds[k].a PV.no PV.no rfl (by rw [hA]; rfl) ?_); conv => whnf) | ((refine sm_stamp (ek := ekS) (ev := evP 1) hI.ok ds[k].a PV.no (PV.row _) rfl ?_); conv => whnf) | ((refine sm_upd (ek := ekS) (ev := evP 1) keyStr (M.put ds[k].a (PV.row _)) ds[k].b (PV.row _) ?_); conv => whnf) | fail)
    have hiAB2 : (ins.length + 1) ≠ ins.length := by omega
    have hB1 : ins.length ≤ ins.length := by omega
    have hA1 : ∀ x, (ins.length + 1) ≤ (putAt ins ins.length x).length := fun x => by unfold putAt; simp
    have hBn : ∀ x, ins[ins.length]? = some x → x.2 = none := fun x hx => by
     rw [List.getElem?_eq_none (by omega)] at hx
     cases hx
    have hAn : ∀ x, ins[(ins.length + 1)]? = some x → x.2 = none := fun x hx => by
     rw [List.getElem?_eq_none (by omega)] at hx
     cases hx
    have hot : ∀ i, i ≠ (ins.length + 1) → i ≠ ins.length → ins[i]? = ins[i]? := fun i q1 q2 => by
     rfl
    refine ghost2 (a := 306) (b := 418) (iA := (ins.length + 1)) (iB := ins.length) hab hI rfl rfl rfl rfl (by decide) ⟨hB1, hBn⟩ ⟨hA1 _, hAn⟩ hiAB2 fun c1 c2 => ?_
    conv => whnf
    skip
    have hins := put2_get (ins := ins) (x := (c2, some [[V.int .i64 (k : Int)]])) (y := (c1, some [[V.int .i64 (k : Int)]])) hB1 (hA1 _) hiAB2 hot
    have hN := hI.next hk rfl rfl hab (iA := (ins.length + 1)) (iB := ins.length) (c := c1) (c2 := c2) (ins2 := putAt (putAt ins ins.length (c2, some [[V.int .i64 (k : Int)]])) (ins.length + 1) (c1, some [[V.int .i64 (k : Int)]])) (.inr ⟨hA, by omega⟩) (.inr ⟨hB, by omega⟩) hiAB2 (fun i => by rw [hins i, hmB, hmA])
    exact count_next ((M.put ds[k].a (.inn (ins.length + 1) c1)).put ds[k].b (.inn ins.length c2), putAt (putAt ins ins.length (c2, some [[V.int .i64 (k : Int)]])) (ins.length + 1) (c1, some [[V.int .i64 (k : Int)]])) hk (by rw [wrap_succ hk (by omega), put2_clock M hab (.row 306) (.inn (ins.length + 1) c1) (.row 418) (.inn ins.length c2)]; rfl) hN
   ·obtain ⟨iB, cB, rfl, _⟩ := hI.ent _ _ hB
    have hmA := hI.miss hk hA (.inl rfl)
    obtain ⟨hlB2, hiB⟩ := hI.lt hB
    have hl1 : (ins.set iB (cB, none)).length = ins.length := by simp
    conv => whnf
    repeat' (first | (refine CondG.mk (fun h => ?_) (fun h => ?_) <;> (try simp only [decide_eq_true_eq, decide_eq_false_iff_not, Bool.not_eq_true', Bool.not_eq_false', beq_iff_eq, beq_eq_false_iff_ne, bne_iff_ne, bne_eq_false_iff_eq] at h) <;> (first | (exfalso; first | omega | exact h trivial) | (conv => whnf))) | (refine .mk (by first | omega | (unfold roomOK; simp [cutRows]; done) | (unfold roomOK; simp [cutRows]; omega) | (simp [cutRows]; done) | (simp [cutRows]; omega)) ?_; conv => whnf) | (refine idx_at _ (by with_reducible rfl) (by first | assumption | omega) ?_; conv => whnf) | ((refine sm_missP (ek := ekS) (ev := evP 1) keyStr M ds[k].a hA ?_); conv => whnf) | ((refine sm_hitP (ek := ekS) (ev := evP 1) keyStr M ds[k].b _ hB ?_); conv => whnf) | fail)
    refine .mk _ (hiB) ?_
    conv => whnf
    repeat' (first | (refine .mk (by first | omega | (unfold roomOK; simp [cutRows]; done) | (unfold roomOK; simp [cutRows]; omega) | (simp [cutRows]; done) | (simp [cutRows]; omega)) ?_; conv => whnf) | ((refine sm_entryP (ek := ekS) (ev := evP 1) keyStr M ds[k].a PV.no PV.no rfl (by rw [hA]; rfl) ?_); conv => whnf) | ((refine sm_stamp (ek := ekS) (ev := evP 1) hI.ok ds[k].a PV.no (PV.row _) rfl ?_); conv => whnf) | ((refine sm_upd (ek := ekS) (ev := evP 1) keyStr (M.put ds[k].a (PV.row _)) ds[k].b (PV.row _) ?_); conv => whnf) | fail)
    have hiAB2 : ins.length ≠ iB := by omega
    have hB1 : iB ≤ (ins.set iB (cB, none)).length := by omega
    have hA1 : ∀ x, ins.length ≤ (putAt (ins.set iB (cB, none)) iB x).length := fun x => by have := putAt_len (ins.set iB (cB, none)) iB x; omega
    have hBn : ∀ x, (ins.set iB (cB, none))[iB]? = some x → x.2 = none := fun x hx => by
     rw [List.getElem?_set_self (by first | omega | (simp; omega))] at hx
     cases hx; rfl
    have hAn : ∀ x, (ins.set iB (cB, none))[ins.length]? = some x → x.2 = none := fun x hx => by
     rw [List.getElem?_eq_none (by omega)] at hx
     cases hx
    have hot : ∀ i, i ≠ ins.length → i ≠ iB → (ins.set iB (cB, none))[i]? = ins[i]? := fun i q1 q2 => by
     rw [List.getElem?_set_ne (Ne.symm q2)]
    refine ghost2 (a := 306) (b := 418) (iA := ins.length) (iB := iB) hab hI rfl rfl rfl rfl (by decide) ⟨hB1, hBn⟩ ⟨hA1 _, hAn⟩ hiAB2 fun c1 c2 => ?_
    conv => whnf
    skip
    have hins := put2_get (ins := ins) (x := (c2, some (ixR (atL ds k ds[k].b) ++ [[V.int .i64 (k : Int)]]))) (y := (c1, some [[V.int .i64 (k : Int)]])) hB1 (hA1 _) hiAB2 hot
    have hN := hI.next hk rfl rfl hab (iA := ins.length) (iB := iB) (c := c1) (c2 := c2) (ins2 := putAt (putAt (ins.set iB (cB, none)) iB (c2, some (ixR (atL ds k ds[k].b) ++ [[V.int .i64 (k : Int)]]))) ins.length (c1, some [[V.int .i64 (k : Int)]])) (.inr ⟨hA, by omega⟩) (.inl ⟨cB, hB⟩) hiAB2 (fun i => by rw [hins i, (ixR_snoc hk (.inr rfl)), hmA])
    exact count_next ((M.put ds[k].a (.inn ins.length c1)).put ds[k].b (.inn iB c2), putAt (putAt (ins.set iB (cB, none)) iB (c2, some (ixR (atL ds k ds[k].b) ++ [[V.int .i64 (k : Int)]]))) ins.length (c1, some [[V.int .i64 (k : Int)]])) hk (by rw [wrap_succ hk (by omega), put2_clock M hab (.row 306) (.inn ins.length c1) (.row 418) (.inn iB c2)]; rfl) hN
  ·obtain ⟨iA, cA, rfl, _⟩ := hI.ent _ _ hA
   rcases hB : M.get ds[k].b with _ | vB
   ·skip
    obtain ⟨hlA2, hiA⟩ := hI.lt hA
    have hmB := hI.miss hk hB (.inr rfl)
    have hl1 : (ins.set iA (cA, none)).length = ins.length := by simp
    conv => whnf
    repeat' (first | (refine CondG.mk (fun h => ?_) (fun h => ?_) <;> (try simp only [decide_eq_true_eq, decide_eq_false_iff_not, Bool.not_eq_true', Bool.not_eq_false', beq_iff_eq, beq_eq_false_iff_ne, bne_iff_ne, bne_eq_false_iff_eq] at h) <;> (first | (exfalso; first | omega | exact h trivial) | (conv => whnf))) | (refine idx_at _ (by with_reducible rfl) (by first | assumption | omega) ?_; conv => whnf) | ((refine sm_hitP (ek := ekS) (ev := evP 1) keyStr M ds[k].a _ hA ?_); conv => whnf) | fail)
    refine .mk _ hiA ?_
    conv => whnf
    repeat' (first | (refine .mk (by first | omega | (unfold roomOK; simp [cutRows]; done) | (unfold roomOK; simp [cutRows]; omega) | (simp [cutRows]; done) | (simp [cutRows]; omega)) ?_; conv => whnf) | ((refine sm_missP (ek := ekS) (ev := evP 1) keyStr M ds[k].b hB ?_); conv => whnf) | ((refine sm_entryP (ek := ekS) (ev := evP 1) keyStr M ds[k].a PV.no (PV.inn iA cA) rfl (by rw [hA]; rfl) ?_); conv => whnf) | ((refine sm_stamp (ek := ekS) (ev := evP 1) hI.ok ds[k].a (PV.inn iA cA) (PV.row _) rfl ?_); conv => whnf) | ((refine sm_upd (ek := ekS) (ev := evP 1) keyStr (M.put ds[k].a (PV.row _)) ds[k].b (PV.row _) ?_); conv => whnf) | fail)
    have hiAB2 : iA ≠ ins.length := by omega
    have hB1 : ins.length ≤ (ins.set iA (cA, none)).length := by omega
    have hA1 : ∀ x, iA ≤ (putAt (ins.set iA (cA, none)) ins.length x).length := fun x => by have := putAt_len (ins.set iA (cA, none)) ins.length x; omega
    have hBn : ∀ x, (ins.set iA (cA, none))[ins.length]? = some x → x.2 = none := fun x hx => by
     rw [List.getElem?_eq_none (by omega)] at hx
     cases hx
    have hAn : ∀ x, (ins.set iA (cA, none))[iA]? = some x → x.2 = none := fun x hx => by
     rw [List.getElem?_set_self (by omega)] at hx
     cases hx; rfl
    have hot : ∀ i, i ≠ iA → i ≠ ins.length → (ins.set iA (cA, none))[i]? = ins[i]? := fun i q1 q2 => by
     rw [List.getElem?_set_ne (Ne.symm q1)]
    refine ghost2 (a := 306) (b := 418) (iA := iA) (iB := ins.length) hab hI rfl rfl rfl rfl (by decide) ⟨hB1, hBn⟩ ⟨hA1 _, hAn⟩ hiAB2 fun c1 c2 => ?_
    conv => whnf
    skip
    have hins := put2_get (ins := ins) (x := (c2, some [[V.int .i64 (k : Int)]])) (y := (c1, some (ixR (atL ds k ds[k].a) ++ [[V.int .i64 (k : Int)]]))) hB1 (hA1 _) hiAB2 hot
    have hN := hI.next hk rfl rfl hab (iA := iA) (iB := ins.length) (c := c1) (c2 := c2) (ins2 := putAt (putAt (ins.set iA (cA, none)) ins.length (c2, some [[V.int .i64 (k : Int)]])) iA (c1, some (ixR (atL ds k ds[k].a) ++ [[V.int .i64 (k : Int)]]))) (.inl ⟨cA, hA⟩) (.inr ⟨hB, by omega⟩) hiAB2 (fun i => by rw [hins i, hmB, (ixR_snoc hk (.inl rfl))])
    exact count_next ((M.put ds[k].a (.inn iA c1)).put ds[k].b (.inn ins.length c2), putAt (putAt (ins.set iA (cA, none)) ins.length (c2, some [[V.int .i64 (k : Int)]])) iA (c1, some (ixR (atL ds k ds[k].a) ++ [[V.int .i64 (k : Int)]]))) hk (by rw [wrap_succ hk (by omega), put2_clock M hab (.row 306) (.inn iA c1) (.row 418) (.inn ins.length c2)]; rfl) hN
   ·obtain ⟨iB, cB, rfl, _⟩ := hI.ent _ _ hB
    obtain ⟨hlA2, hiA⟩ := hI.lt hA
    obtain ⟨hlB2, hiB⟩ := hI.lt hB
    have hiAB : iA ≠ iB := fun e => by subst e; exact hab (hI.inj _ _ _ _ _ hA hB)
    have hl1 : ((ins.set iA (cA, none)).set iB (cB, none)).length = ins.length := by simp
    conv => whnf
    repeat' (first | (refine CondG.mk (fun h => ?_) (fun h => ?_) <;> (try simp only [decide_eq_true_eq, decide_eq_false_iff_not, Bool.not_eq_true', Bool.not_eq_false', beq_iff_eq, beq_eq_false_iff_ne, bne_iff_ne, bne_eq_false_iff_eq] at h) <;> (first | (exfalso; first | omega | exact h trivial) | (conv => whnf))) | (refine idx_at _ (by with_reducible rfl) (by first | assumption | omega) ?_; conv => whnf) | ((refine sm_hitP (ek := ekS) (ev := evP 1) keyStr M ds[k].a _ hA ?_); conv => whnf) | fail)
    refine .mk _ hiA ?_
    conv => whnf
    repeat' (first | (refine .mk (by first | omega | (unfold roomOK; simp [cutRows]; done) | (unfold roomOK; simp [cutRows]; omega) | (simp [cutRows]; done) | (simp [cutRows]; omega)) ?_; conv => whnf) | ((refine sm_hitP (ek := ekS) (ev := evP 1) keyStr M ds[k].b _ hB ?_); conv => whnf) | fail)
    refine .mk _ (by rw [List.getElem?_set_ne hiAB]; exact hiB) ?_
    conv => whnf
    repeat' (first | (refine .mk (by first | omega | (unfold roomOK; simp [cutRows]; done) | (unfold roomOK; simp [cutRows]; omega) | (simp [cutRows]; done) | (simp [cutRows]; omega)) ?_; conv => whnf) | ((refine sm_entryP (ek := ekS) (ev := evP 1) keyStr M ds[k].a PV.no (PV.inn iA cA) rfl (by rw [hA]; rfl) ?_); conv => whnf) | ((refine sm_stamp (ek := ekS) (ev := evP 1) hI.ok ds[k].a (PV.inn iA cA) (PV.row _) rfl ?_); conv => whnf) | ((refine sm_upd (ek := ekS) (ev := evP 1) keyStr (M.put ds[k].a (PV.row _)) ds[k].b (PV.row _) ?_); conv => whnf) | fail)
    have hiAB2 : iA ≠ iB := by exact hiAB
    have hB1 : iB ≤ ((ins.set iA (cA, none)).set iB (cB, none)).length := by omega
    have hA1 : ∀ x, iA ≤ (putAt ((ins.set iA (cA, none)).set iB (cB, none)) iB x).length := fun x => by have := putAt_len ((ins.set iA (cA, none)).set iB (cB, none)) iB x; omega
    have hBn : ∀ x, ((ins.set iA (cA, none)).set iB (cB, none))[iB]? = some x → x.2 = none := fun x hx => by
     rw [List.getElem?_set_self (by first | omega | (simp; omega))] at hx
     cases hx; rfl
    have hAn : ∀ x, ((ins.set iA (cA, none)).set iB (cB, none))[iA]? = some x → x.2 = none := fun x hx => by
     rw [List.getElem?_set_ne (Ne.symm hiAB), List.getElem?_set_self (by omega)] at hx
     cases hx; rfl
    have hot : ∀ i, i ≠ iA → i ≠ iB → ((ins.set iA (cA, none)).set iB (cB, none))[i]? = ins[i]? := fun i q1 q2 => by
     rw [List.getElem?_set_ne (Ne.symm q2), List.getElem?_set_ne (Ne.symm q1)]
    refine ghost2 (a := 306) (b := 418) (iA := iA) (iB := iB) hab hI rfl rfl rfl rfl (by decide) ⟨hB1, hBn⟩ ⟨hA1 _, hAn⟩ hiAB2 fun c1 c2 => ?_
    conv => whnf
    skip
    have hins := put2_get (ins := ins) (x := (c2, some (ixR (atL ds k ds[k].b) ++ [[V.int .i64 (k : Int)]]))) (y := (c1, some (ixR (atL ds k ds[k].a) ++ [[V.int .i64 (k : Int)]]))) hB1 (hA1 _) hiAB2 hot
    have hN := hI.next hk rfl rfl hab (iA := iA) (iB := iB) (c := c1) (c2 := c2) (ins2 := putAt (putAt ((ins.set iA (cA, none)).set iB (cB, none)) iB (c2, some (ixR (atL ds k ds[k].b) ++ [[V.int .i64 (k : Int)]]))) iA (c1, some (ixR (atL ds k ds[k].a) ++ [[V.int .i64 (k : Int)]]))) (.inl ⟨cA, hA⟩) (.inl ⟨cB, hB⟩) hiAB2 (fun i => by rw [hins i, (ixR_snoc hk (.inr rfl)), (ixR_snoc hk (.inl rfl))])
    exact count_next ((M.put ds[k].a (.inn iA c1)).put ds[k].b (.inn iB c2), putAt (putAt ((ins.set iA (cA, none)).set iB (cB, none)) iB (c2, some (ixR (atL ds k ds[k].b) ++ [[V.int .i64 (k : Int)]]))) iA (c1, some (ixR (atL ds k ds[k].a) ++ [[V.int .i64 (k : Int)]]))) hk (by rw [wrap_succ hk (by omega), put2_clock M hab (.row 306) (.inn iA c1) (.row 418) (.inn iB c2)]; rfl) hN
 ·intro M ins hI
  have hMl : (smE ekS (evP 1) M.es).length = M.es.length := by unfold smE; simp
  have hMk : ∀ s ix, PathOf ds s ix → M.es.length = ds.length + 1 := fun s ix hP => toL_len hI hP
  have hLok := toL_ok (ds := ds) hI.ok
  conv => whnf
  repeat' (first | (refine CondG.mk (fun h => ?_) (fun h => ?_) <;> (try simp only [decide_eq_true_eq, decide_eq_false_iff_not, Bool.not_eq_true', Bool.not_eq_false', beq_iff_eq, beq_eq_false_iff_ne, bne_iff_ne, bne_eq_false_iff_eq] at h) <;> (first | (exfalso; first | omega | exact h trivial) | (conv => whnf))) | fail)
  ·exact .mk _ _ ⟨rfl, false, rfl, fun s ix hP => by have := hMk s ix hP; rw [hMl, wrap_in (by omega) (by omega)] at *; omega, fun h => by cases h⟩ (.mk ⟨rfl, rfl⟩)
  refine .mk (smE ekS evL (toL ds M).es) (toL_frz hI).1 (toL_frz hI).2 ?_
  conv => whnf
  skip
  refine loop_while2 (fun (a : ByteArray) (vis : List (Nat × ByteArray × List Nat)) => (toL ds M).es.length - vis.length) [] [0, 3, 6, 51] (fun (a : ByteArray) (vis : List (Nat × ByteArray × List Nat)) => [(6, .c (.str a))]) (fun (a : ByteArray) (vis : List (Nat × ByteArray × List Nat)) => [(0, smO ekS evL (toL ds M)), (1, .iter 0 (toL ds M).clock (vis.map (·.1)))]) (fun (a : ByteArray) (vis : List (Nat × ByteArray × List Nat)) => Vis (toL ds M) vis ∧ StI a vis) (⟨#[]⟩) ([]) ?_
  conv => whnf
  refine ⟨?_, ?_, ?_⟩
  ·rfl
  ·exact ⟨Vis.nil _, by simp, .inl ⟨rfl, by simp⟩⟩
  ·intro a vis ⟨hv, hst⟩
   have hvl := hv.len
   conv => whnf
   refine .mk rfl ?_
   conv => whnf
   refine sm_next hLok hv (fun hp => ?_) (fun e he hn hv' hlt => ?_)
   ·obtain ⟨hd2, hd1⟩ := hst.le2 hI hp
    have hpos : 0 < ds.length := by
     have h9 : (M.es.length : Int) = IntKind.i64.wrap ((ds.length : Int) + 1) := by
      first | (rw [hMl, hdm] at *; omega) | (rw [hMl] at *; omega)
     rw [wrap_in (by omega) (by omega)] at h9
     refine Nat.pos_of_ne_zero fun q => ?_
     have h8 : M.es.length = 1 := by omega
     obtain ⟨e, he⟩ := List.exists_mem_of_length_pos (show 0 < M.es.length by omega)
     have h7 := (hI.has e.2.1).1 (by rw [SM.get_of hI.ok he]; rfl)
     have h6 := atL_len ds ds.length e.2.1
     exact h7 (List.length_eq_zero_iff.1 (by omega))
    have hback : ∀ site seen, WalkT ds a site seen → seen.es.length = ds.length → ∃ s ix, PathOf ds s ix := fun site seen hT hl' => by
     obtain ⟨s, ix, ht⟩ := hT.len
     rw [hl'] at ht
     refine ⟨s, ix, ht.path hpos (fun i hi => ?_) hd2 ?_⟩
     ·have : ds.getD i du0 = ds[i] := by simp [hi]
      rw [this]; exact hne _ (List.getElem_mem hi)
     ·rcases hd1 with rfl | h1
      ·exfalso
       have h0i := ht.ixl 0 hpos
       have hat := ht.at_left hpos
       rw [ht.s0] at hat
       have h5 : ds.getD (ix 0) du0 = ds[ix 0] := by simp [h0i]
       rw [h5] at hat
       have := hz _ (List.getElem_mem h0i)
       rcases hat with q | q
       ·exact this.1 (by rw [q]; rfl)
       ·exact this.2 (by rw [q]; rfl)
      ·exact h1
    have hfin : ∀ s ix, PathOf ds s ix → ∃ s' ix', PathOf ds s' ix' ∧ s' 0 = a := fun s ix hP => hst.fin hI hp hP
    conv => whnf
    skip
    refine loop_while2 (fun (site : ByteArray) (seen : SM Int Unit) => ds.length + 1 - seen.es.length) [] [0, 3, 9, 10] (fun (site : ByteArray) (seen : SM Int Unit) => [(10, .c (.str site))]) (fun (site : ByteArray) (seen : SM Int Unit) => [(2, smO ekI2 evU seen)]) (fun (site : ByteArray) (seen : SM Int Unit) => WalkI ds a site seen ∧ WalkT ds a site seen) (a) (SM.nil) ?_
    conv => whnf
    refine ⟨?_, ?_, ?_⟩
    ·rfl
    ·exact ⟨WalkI.begin ds a, WalkT.begin ds a⟩
    ·intro site seen ⟨hW, hT⟩
     have hwl := hW.len
     have hLg := toL_get ds M site
     have hsl : (smE ekI2 evU seen.es).length = seen.es.length := by unfold smE; simp
     have hal := atL_len ds ds.length site
     have hend : (∀ k ∈ atL ds ds.length site, (seen.get ((k : Nat) : Int)).isSome = true) → ∀ s ix, PathOf ds s ix → seen.es.length = ds.length := fun hu s ix hP => by
      obtain ⟨s', ix', hP', h0'⟩ := hfin s ix hP
      exact hW.over hu hP' h0'
     cases hg : (M.get site).isSome with
     | false =>
      rw [hg, if_neg (by decide)] at hLg
      have hz' : atL ds ds.length site = [] := Classical.byContradiction fun q => by
       have := (hI.has site).2 q
       rw [hg] at this; cases this
      have cI := (ixSeen_pc seen 95 (fun k => !(seen.get ((k : Nat) : Int)).isSome) [] (by simp) (fun x hx => by cases hx)).wk (P2.cons (.c (.nils 1)) (P2.cons (.refl _) P2.nil))
      rw [show idxP (fun k : Nat => !(seen.get ((k : Nat) : Int)).isSome) [] = -1 from rfl] at cI
      conv => whnf
      repeat' (first | (refine CondG.mk (fun h => ?_) (fun h => ?_) <;> (try simp only [decide_eq_true_eq, decide_eq_false_iff_not, Bool.not_eq_true', Bool.not_eq_false', beq_iff_eq, beq_eq_false_iff_ne, bne_iff_ne, bne_eq_false_iff_eq] at h) <;> (first | (exfalso; first | omega | exact h trivial) | (conv => whnf))) | (refine  CallX.mk _ _ (by exact cI) ?_; conv => whnf) | ((refine sm_missP (ek := ekS) (ev := evL) keyStr (toL ds M) site hLg ?_); conv => whnf) | fail)
      refine .mk _ _ ⟨rfl, _, rfl, fun s ix hP => ?_, fun h9 => hback site seen hT ?_⟩ (.mk ⟨rfl, rfl⟩)
      ·have := hend (by rw [hz']; simp) s ix hP
       simp [hsl, hdm, this]
      ·simp [hsl, hdm] at h9; omega
     | true =>
      rw [hg, if_pos rfl] at hLg
      have cI := ixSeen_pc seen 95 (fun k => !(seen.get ((k : Nat) : Int)).isSome) (atL ds ds.length site) (by omega) (fun x _ => isW1_pc seen x)
      rcases idxP_orY (fun k : Nat => !(seen.get ((k : Nat) : Int)).isSome) (atL ds ds.length site) with ⟨e, hall⟩ | ⟨q, hq, e, hp, _⟩
      ·rw [e] at cI
       conv => whnf
       repeat' (first | (refine CondG.mk (fun h => ?_) (fun h => ?_) <;> (try simp only [decide_eq_true_eq, decide_eq_false_iff_not, Bool.not_eq_true', Bool.not_eq_false', beq_iff_eq, beq_eq_false_iff_ne, bne_iff_ne, bne_eq_false_iff_eq] at h) <;> (first | (exfalso; first | omega | exact h trivial) | (conv => whnf))) | (refine  CallX.mk _ _ (by exact cI) ?_; conv => whnf) | ((refine sm_hitP (ek := ekS) (ev := evL) keyStr (toL ds M) site _ hLg ?_); conv => whnf) | fail)
       refine .mk _ _ ⟨rfl, _, rfl, fun s ix hP => ?_, fun h9 => hback site seen hT ?_⟩ (.mk ⟨rfl, rfl⟩)
       ·have := hend (fun k hk => by have := hall k hk; simpa using this) s ix hP
        simp [hsl, hdm, this]
       ·simp [hsl, hdm] at h9; omega
      ·rw [e] at cI
       have hmem := List.getElem_mem hq
       have hqv : (ixR (atL ds ds.length site))[q]? = some [V.int .i64 (((atL ds ds.length site)[q] : Nat) : Int)] := by unfold ixR; simp [hq]
       generalize (atL ds ds.length site)[q] = k0 at *
       obtain ⟨hkl, hat⟩ := atL_mem.1 hmem
       have hun : (seen.get (k0 : Int)).isSome = false := by simpa using hp
       have hkd : ds.getD k0 du0 = ds[k0] := by simp [hkl]
       have hpl := hW.put_len hun
       have hst1 : ∀ site', site' = (if ds[k0].a = site then ds[k0].b else ds[k0].a) → WalkI ds a site' (seen.put (k0 : Int) ()) ∧ WalkT ds a site' (seen.put (k0 : Int) ()) := fun site' h9 => ⟨hW.step hmem hun (by rw [hkd]; exact h9), hT.step hmem hun (by rw [hkd]; exact h9)⟩
       conv => whnf
       repeat' (first | (refine CondG.mk (fun h => ?_) (fun h => ?_) <;> (try simp only [decide_eq_true_eq, decide_eq_false_iff_not, Bool.not_eq_true', Bool.not_eq_false', beq_iff_eq, beq_eq_false_iff_ne] at h) <;> (first | (exfalso; first | omega | exact h trivial) | (conv => whnf))) | (refine  CallX.mk _ _ (by exact cI) ?_; conv => whnf) | ((refine sm_hitP (ek := ekS) (ev := evL) keyStr (toL ds M) site _ hLg ?_); conv => whnf) | fail)
       refine .mk [V.int .i64 (k0 : Int)] ⟨by omega, hqv⟩ ?_
       conv => whnf
       repeat' (first | (refine CondG.mk (fun h => ?_) (fun h => ?_) <;> (try simp only [decide_eq_true_eq, decide_eq_false_iff_not, Bool.not_eq_true', Bool.not_eq_false', beq_iff_eq, beq_eq_false_iff_ne, bne_iff_ne, bne_eq_false_iff_eq] at h) <;> (first | (exfalso; first | omega | exact h trivial) | (conv => whnf))) | (refine idx_at _ (by with_reducible rfl) (by first | assumption | omega) ?_; conv => whnf) | ((refine sm_upd (ek := ekI2) (ev := evU) (keyInt .i64) seen (k0 : Int) () ?_); conv => whnf) | fail)
       ·have hA : ds[k0].a = site := toList_inj (by assumption)
        exact meas_next (ds[k0].b, seen.put (k0 : Int) ()) (by show ds.length + 1 - (seen.put (k0 : Int) ()).es.length < ds.length + 1 - seen.es.length; omega) rfl (hst1 _ (by rw [if_pos hA]))
       ·have hA : ¬ ds[k0].a = site := fun q => absurd (congrArg ByteArray.toList q) (by assumption)
        exact meas_next (ds[k0].a, seen.put (k0 : Int) ()) (by show ds.length + 1 - (seen.put (k0 : Int) ()).es.length < ds.length + 1 - seen.es.length; omega) rfl (hst1 _ (by rw [if_neg hA]))
   ·obtain ⟨hm1, hm2⟩ := toL_mem hI he
    have hix : (ixR e.2.2).length = e.2.2.length := List.length_map ..
    conv => whnf
    refine .mk rfl ?_
    conv => whnf
    refine sm_at hLok he ?_
    conv => whnf
    repeat' (first | (refine CondG.mk (fun h => ?_) (fun h => ?_) <;> (try simp only [decide_eq_true_eq, decide_eq_false_iff_not, Bool.not_eq_true', Bool.not_eq_false', beq_iff_eq, beq_eq_false_iff_ne, bne_iff_ne, bne_eq_false_iff_eq] at h) <;> (first | (exfalso; first | omega | exact h trivial) | (conv => whnf))) | fail)
    ·refine .mk _ _ ⟨rfl, false, rfl, fun s ix hP => ?_, fun h => by cases h⟩ (.mk ⟨rfl, rfl⟩)
     rw [hm1] at hm2
     obtain ⟨j, hj, ej⟩ := hP.site hm2
     have h2 := hP.le2 hj
     rw [ej, ← hm1] at h2
     omega
    ·exact meas_next (e.2.1, e :: vis) (by simp only [List.length_cons]; omega) rfl ⟨hv', fun f hf => by
      rcases List.mem_cons.1 hf with rfl | hf
      ·omega
      ·exact hst.1 f hf, .inr ⟨e, by simp, rfl, by omega⟩⟩
    ·refine meas_next (a, e :: vis) (by simp only [List.length_cons]; omega) rfl ⟨hv', fun f hf => by
      rcases List.mem_cons.1 hf with rfl | hf
      ·omega
      ·exact hst.1 f hf, ?_⟩
     rcases hst.2 with ⟨h8, h9⟩ | ⟨f, hf, h9⟩
     ·refine .inl ⟨h8, fun f hf => ?_⟩
      rcases List.mem_cons.1 hf with rfl | hf
      ·omega
      ·exact h9 f hf
     ·exact .inr ⟨f, by simp [hf], h9⟩
theorem delLy_pc (l : List Ly) (i : Nat) (hi : i < l.length) (hl : l.length ≤ 1000000) (e : Int) (he : e = ((i + 1 : Nat) : Int)) : PCp 46 [.c (.row 0), .c (.int .i64 i), .c (.int .i64 e)] [.row 57 3 (l.map encLy)] (.c (.row 1)) [.dead, .row 57 3 ((l.eraseIdx i).map encLy)] := by
 have hlm : (l.map encLy).length = l.length := List.length_map ..
 subst he
 refine fnP Tryz.func46 Tryz.results46 ?_
 conv => whnf
 refine .mk (by omega) ?_
 conv => whnf
 refine .mk (fun h => ?_) (fun h => ?_)
 ·simp at h; omega
 conv => whnf
 refine .mk (by omega) ?_
 conv => whnf
 refine .vw ?_
 conv => whnf
 refine .mk (by omega) ?_
 conv => whnf
 refine .vw ?_
 conv => whnf
 have hsl : (sub (l.map encLy) (((i + 1 : Nat) : Int)).toNat ((((i + 1 : Nat) : Int)).toNat + ((l.map encLy).length - (((i + 1 : Nat) : Int)).toNat))) = (l.map encLy).drop (i + 1) := by
  rw [toN]; unfold sub; rw [List.take_of_length_le (by simp)]
 rw [hsl]
 have hys : ((l.map encLy).drop (i + 1)).length = l.length - (i + 1) := by simp
 refine .mk (by rw [hys, toN]; omega) ?_
 conv => whnf
 refine .mk (by rw [hys, toN]; unfold overR; simp; omega) ?_
 conv => whnf
 refine .cutv 0 _ _ _ _ (.inl rfl) rfl (by unfold overR; simp; omega) (.mk ⟨rfl, ?_⟩)
 rw [del_rows (l.map encLy) i (by omega) _ _ _ _ (by rw [toN]; omega) (by simp only [toN, List.length_drop, Nat.sub_zero, Nat.zero_add]) (by simp only [toN, List.length_drop, Nat.sub_zero, Nat.zero_add]), map_erase]
 rfl
theorem removed_pc (d : List Du) (l : List Ly) (h0 : lyFault d l = 0) (cable : ByteArray) (hck : keyB cable = true) (i : Nat) (hi : i < l.length) (hcab : cabIx l cable = (i : Int)) :
  PCp 10 [.c (.lst 5 (d.map encDu)), .c (.lst 3 (l.map encLy)), .c (.str cable)] [] (.tup [.c (.lst 3 ((l.eraseIdx i).map encLy)), .c (.int .i64 0)]) [] := by
 have hok := lyFault_ok h0
 have hx : ∀ x ∈ l, x.ducts.length ≤ 1000000 := fun x hm => (hok.rl x hm).2
 have hll := hok.len
 have c1 := checkLying_pc d l hx
 rw [h0] at c1
 have c2 := lying_pc l (by omega) cable
 rw [hcab] at c2
 have c5 := bKey_pc cable
 rw [hck] at c5
 have c7 := copied_pc l (by omega) hx
 have c8 := delLy_pc l i hi (by omega) ((i : Int) + 1) (by omega)
 have hw : IntKind.i64.wrap ((i : Int) + 1) = (i : Int) + 1 := wrap_in (by omega) (by omega)
 refine fnP Tryz.func10 Tryz.results10 ?_
 conv => whnf
 repeat' (first | (refine CondG.mk (fun h => ?_) (fun h => ?_) <;> (try simp only [decide_eq_true_eq, decide_eq_false_iff_not, Bool.not_eq_true', Bool.not_eq_false', beq_iff_eq, beq_eq_false_iff_ne, bne_iff_ne, bne_eq_false_iff_eq] at h) <;> (first | (exfalso; first | omega | exact h trivial | contradiction | (simp_all [eqRes]; done)) | (conv => whnf))) | (refine  CallX.mk _ _ (by first | exact c1 | exact c2 | exact c5 | exact c7 | exact (by rw [hw]; exact c8)) ?_; conv => whnf) | fail)
 exact .frz 0 _ _ _ rfl (.weak [_] (.tup _ _ rfl (fun i x y hx hy => by
  match i with
  | 0 => cases hx; cases hy; exact .fro 0 _ _ rfl
  | 1 => cases hx; cases hy; exact .refl _
  | n + 2 => cases hx)) rfl (Nat.le_refl _))
def oneW (d : List Du) (l : List Ly) (fr to : ByteArray) (o : Int) : Int := firstErr [lyFault d l, endsErr d fr to o]
def twoW (d : List Du) (l : List Ly) (cable fr to : ByteArray) (o : Int) : Int := firstErr [lyFault d l, if keyB cable then 0 else 5, if 0 ≤ cabIx l cable then 6 else 0, endsErr d fr to o]
def threeW (d : List Du) (l : List Ly) (cable : ByteArray) : Int := firstErr [lyFault d l, if keyB cable then 0 else 5, if cabIx l cable < 0 then 8 else 0]
theorem wayErr_pc (d : List Du) (l : List Ly) (hd : d.length ≤ 1000) (hx : ∀ x ∈ l, x.ducts.length ≤ 1000000) (fr to : ByteArray) (o : Int) (h : oneW d l fr to o ≠ 0) : PCp 7 [.c (.lst 5 (d.map encDu)), .c (.lst 3 (l.map encLy)), .c (.str fr), .c (.str to), .c (.int .i64 o)] [] (.tup [.c (.lst 1 []), .c (.int .i64 0), .c (.bool false), .c (.int .i64 (oneW d l fr to o))]) [] := by
 have c1 := checkLying_pc d l hx
 have c3 := waysFault_pc d hd fr to o
 unfold oneW at h ⊢
 generalize lyFault d l = f at *
 generalize endsErr d fr to o = E at *
 refine fnP Tryz.func7 Tryz.results7 ?_
 conv => whnf
 repeat' (first | (refine CondG.mk (fun h => ?_) (fun h => ?_) <;> (try simp only [decide_eq_true_eq, decide_eq_false_iff_not, Bool.not_eq_true', Bool.not_eq_false', beq_iff_eq, beq_eq_false_iff_ne, bne_iff_ne, bne_eq_false_iff_eq] at h) <;> (first | (exfalso; first | omega | exact h trivial) | (conv => whnf))) | (refine  CallX.mk _ _ (by first | exact c1 | exact c3) ?_; conv => whnf) | fail)
 all_goals first
  | exact .weak [] (.tup _ _ rfl (fun i x y hx hy => by
    match i with
    | 0 => cases hx; cases hy; exact .nil 1
    | 1 => cases hx; cases hy; exact .refl _
    | 2 => cases hx; cases hy; exact .refl _
    | 3 => cases hx; cases hy; simp only [firstErr]; first | (rw [if_neg (by assumption)]; exact .refl _) | (rw [if_pos (by first | assumption | omega), if_neg (by assumption)]; exact .refl _)
    | n + 4 => cases hx)) rfl (Nat.le_refl _)
  | (exfalso; simp_all [firstErr]; done)
theorem capErr_pc (d : List Du) (l : List Ly) (hd : d.length ≤ 1000) (hx : ∀ x ∈ l, x.ducts.length ≤ 1000000) (fr to : ByteArray) (o : Int) (h : oneW d l fr to o ≠ 0) : PCp 11 [.c (.lst 5 (d.map encDu)), .c (.lst 3 (l.map encLy)), .c (.str fr), .c (.str to), .c (.int .i64 o)] [] (.tup [.c (.int .i64 0), .c (.int .i64 (oneW d l fr to o))]) [] := by
 have c1 := checkLying_pc d l hx
 have c3 := waysFault_pc d hd fr to o
 unfold oneW at h ⊢
 generalize lyFault d l = f at *
 generalize endsErr d fr to o = E at *
 refine fnP Tryz.func11 Tryz.results11 ?_
 conv => whnf
 repeat' (first | (refine CondG.mk (fun h => ?_) (fun h => ?_) <;> (try simp only [decide_eq_true_eq, decide_eq_false_iff_not, Bool.not_eq_true', Bool.not_eq_false', beq_iff_eq, beq_eq_false_iff_ne, bne_iff_ne, bne_eq_false_iff_eq] at h) <;> (first | (exfalso; first | omega | exact h trivial) | (conv => whnf))) | (refine  CallX.mk _ _ (by first | exact c1 | exact c3) ?_; conv => whnf) | fail)
 all_goals first
  | (simp only [firstErr]; first | (rw [if_neg (by assumption)]; exact .mk ⟨rfl, rfl⟩) | (rw [if_pos (by first | assumption | omega), if_neg (by assumption)]; exact .mk ⟨rfl, rfl⟩))
  | (exfalso; simp_all [firstErr]; done)
theorem laidErr_pc (d : List Du) (l : List Ly) (hd : d.length ≤ 1000) (hl : l.length ≤ 1000000) (hx : ∀ x ∈ l, x.ducts.length ≤ 1000000) (cable fr to : ByteArray) (o : Int) (h : twoW d l cable fr to o ≠ 0) : PCp 8 [.c (.lst 5 (d.map encDu)), .c (.lst 3 (l.map encLy)), .c (.str cable), .c (.str fr), .c (.str to), .c (.int .i64 o)] [] (.tup [.c (.lst 3 []), .c (.int .i64 (twoW d l cable fr to o))]) [] := by
 have c1 := checkLying_pc d l hx
 have c2 := lying_pc l hl cable
 have c3 := waysFault_pc d hd fr to o
 have c5 := bKey_pc cable
 obtain ⟨t, ht⟩ : ∃ t, t = twoW d l cable fr to o := ⟨_, rfl⟩
 rw [← ht] at h ⊢
 unfold twoW at ht
 generalize lyFault d l = f at *
 generalize cabIx l cable = ci at *
 generalize keyB cable = kb at *
 generalize endsErr d fr to o = E at *
 refine fnP Tryz.func8 Tryz.results8 ?_
 conv => whnf
 repeat' (first | (refine CondG.mk (fun h => ?_) (fun h => ?_) <;> (try simp only [decide_eq_true_eq, decide_eq_false_iff_not, Bool.not_eq_true', Bool.not_eq_false', beq_iff_eq, beq_eq_false_iff_ne, bne_iff_ne, bne_eq_false_iff_eq] at h) <;> (first | (exfalso; first | omega | exact h trivial) | (conv => whnf))) | (refine  CallX.mk _ _ (by first | exact c1 | exact c2 | exact c3 | exact c5) ?_; conv => whnf) | fail)
 all_goals first
  | exact .weak [] (.tup _ _ rfl (fun i x y hx hy => by
    match i with
    | 0 => cases hx; cases hy; exact .nil 3
    | 1 => cases hx; cases hy; clear c1 c2 c3 c5; rw [ht]; simp only [firstErr]; simp [*]; exact .refl _
    | n + 2 => cases hx)) rfl (Nat.le_refl _)
  | (exfalso; simp_all [firstErr]; done)
  | (exfalso; simp_all [firstErr]; omega)
theorem removedErr_pc (d : List Du) (l : List Ly) (hl : l.length ≤ 1000000) (hx : ∀ x ∈ l, x.ducts.length ≤ 1000000) (cable : ByteArray) (h : threeW d l cable ≠ 0) : PCp 10 [.c (.lst 5 (d.map encDu)), .c (.lst 3 (l.map encLy)), .c (.str cable)] [] (.tup [.c (.lst 3 []), .c (.int .i64 (threeW d l cable))]) [] := by
 have c1 := checkLying_pc d l hx
 have c2 := lying_pc l hl cable
 have c5 := bKey_pc cable
 obtain ⟨t, ht⟩ : ∃ t, t = threeW d l cable := ⟨_, rfl⟩
 rw [← ht] at h ⊢
 unfold threeW at ht
 generalize lyFault d l = f at *
 generalize cabIx l cable = ci at *
 generalize keyB cable = kb at *
 refine fnP Tryz.func10 Tryz.results10 ?_
 conv => whnf
 repeat' (first | (refine CondG.mk (fun h => ?_) (fun h => ?_) <;> (try simp only [decide_eq_true_eq, decide_eq_false_iff_not, Bool.not_eq_true', Bool.not_eq_false', beq_iff_eq, beq_eq_false_iff_ne, bne_iff_ne, bne_eq_false_iff_eq] at h) <;> (first | (exfalso; first | omega | exact h trivial) | (conv => whnf))) | (refine  CallX.mk _ _ (by first | exact c1 | exact c2 | exact c5) ?_; conv => whnf) | fail)
 all_goals first
  | exact .weak [] (.tup _ _ rfl (fun i x y hx hy => by
    match i with
    | 0 => cases hx; cases hy; exact .nil 3
    | 1 => cases hx; cases hy; clear c1 c2 c5; rw [ht]; simp only [firstErr]; simp [*]; exact .refl _
    | n + 2 => cases hx)) rfl (Nat.le_refl _)
  | (exfalso; simp_all [firstErr]; done)
  | (exfalso; simp_all [firstErr]; omega)
theorem laidG_pc (d : List Du) (l : List Ly) (h0 : lyFault d l = 0) (cable : ByteArray) (hck : keyB cable = true) (hcab : cabIx l cable = -1) (fr to : ByteArray) (outer : Int) (he : endsErr d fr to outer = 0) (hll : l.length < 300) :
  PCq 8 [.c (.lst 5 (d.map encDu)), .c (.lst 3 (l.map encLy)), .c (.str cable), .c (.str fr), .c (.str to), .c (.int .i64 outer)] [] fun r os => os = [] ∧ ∃ g : CM, Costs (netE (fitCap l outer) d) to (sitesE (netE (fitCap l outer) d) to) g ∧
   ((g.get fr = none ∧ r = .tup [.c (.lst 3 []), .c (.int .i64 12)]) ∨ ∃ c P i, FW (netE (fitCap l outer) d) g to fr to c P ∧ i = cntL (fun x : Ly => cmpS x.cable cable) l ∧ r = .tup [.c (.lst 3 ((l.take i ++ [(⟨cable, outer, insSort cmpS (P.map Ed.key)⟩ : Ly)] ++ l.drop i).map encLy)), .c (.int .i64 0)]) := by
 have hdu := du_of h0
 have hok := lyFault_ok h0
 obtain ⟨e1, e2, e3, e4⟩ := ends_ok he
 have hx : ∀ x ∈ l, x.ducts.length ≤ 1000000 := fun x hm => (hok.rl x hm).2
 have hlm : (l.map encLy).length = l.length := List.length_map ..
 have c1 := checkLying_pc d l hx
 rw [h0] at c1
 have c2 := lying_pc l (by omega) cable
 rw [hcab] at c2
 have c3 := waysFault_pc d (by have := hok.du.len; omega) fr to outer
 rw [he] at c3
 have c4 := bsLy_pc 40 (fun x : Ly => cmpS x.cable cable) (.c (.str cable)) l (by omega) (fun i j hj hij h => by
  rcases Nat.lt_or_ge i j with q | q
  ·exact cmp_lt.2 (ltB_trans (Rise.at hok.rise q hj) (cmp_lt.1 h))
  ·have : i = j := by omega
   subst this; exact h) ⟨cable, rfl⟩ (fun x _ => laid1_pc x cable)
 have hcl : cntL (fun x : Ly => cmpS x.cable cable) l ≤ l.length := (List.takeWhile_prefix _).length_le
 generalize hci : cntL (fun x : Ly => cmpS x.cable cable) l = ci at *
 have c5 := bKey_pc cable
 rw [hck] at c5
 refine fnPX Tryz.func8 Tryz.results8 ?_
 conv => whnf
 repeat' (first | (refine CondG.mk (fun h => ?_) (fun h => ?_) <;> (try simp only [decide_eq_true_eq, decide_eq_false_iff_not, Bool.not_eq_true', Bool.not_eq_false', beq_iff_eq, beq_eq_false_iff_ne, bne_iff_ne, bne_eq_false_iff_eq] at h) <;> (first | (exfalso; first | omega | exact h trivial | contradiction | (simp_all [eqRes]; done)) | (conv => whnf))) | (refine  CallX.mk _ _ (by first | exact c1 | exact c5 | exact c2 | exact c3) ?_; conv => whnf) | fail)
 refine .ex _ (way_pc d l hdu hok fr to (site_size hdu e2) outer ⟨by omega, by omega⟩) ?_
 rintro _ _ ⟨g, hC, ⟨hn, rfl, rfl⟩ | ⟨c, P, hF, rfl, rfl⟩⟩
 ·conv => whnf
  repeat' (first | (refine CondG.mk (fun h => ?_) (fun h => ?_) <;> (try simp only [decide_eq_true_eq, decide_eq_false_iff_not, Bool.not_eq_true', Bool.not_eq_false', beq_iff_eq, beq_eq_false_iff_ne, bne_iff_ne, bne_eq_false_iff_eq] at h) <;> (first | (exfalso; first | omega | exact h trivial | contradiction | (simp_all [eqRes]; done)) | (conv => whnf))) | fail)
  refine .mk _ _ ⟨rfl, g, hC, .inl ⟨hn, rfl⟩⟩ (.weak [] (.tup _ _ rfl ?_) rfl (Nat.le_refl _))
  intro i x y hx hy
  match i with
  | 0 => cases hx; cases hy; exact .nil 3
  | 1 => cases hx; cases hy; exact .refl _
  | n + 2 => cases hx
 ·have hPl := hF.few hC
  have hnl := net_len (fitCap l outer) d
  have hdl := hok.du.len
  rw [sitesE_len] at hPl
  have c6 := sortG_pc (P.map Ed.key) (by rw [List.length_map]; omega)
  have c7 := copied_pc l (by omega) hx
  have c8 : PCp 42 [.c (.row 0), .c (.int .i64 ((ci : Nat) : Int)), .c (.row 1)] [.row 57 3 (l.map encLy), .row 57 3 ([(⟨cable, outer, insSort cmpS (P.map Ed.key)⟩ : Ly)].map encLy)] (.c (.row 2)) [.dead, .row 57 3 ([(⟨cable, outer, insSort cmpS (P.map Ed.key)⟩ : Ly)].map encLy), .row 57 3 ((l.take ci ++ [(⟨cable, outer, insSort cmpS (P.map Ed.key)⟩ : Ly)] ++ l.drop ci).map encLy)] := by
   rcases Nat.lt_or_ge ci l.length with q | q
   ·have := insM_pc (l.map encLy) ([(⟨cable, outer, insSort cmpS (P.map Ed.key)⟩ : Ly)].map encLy) ci (by omega) (by simp) (by omega) (by simp)
    rw [List.map_append, List.map_append, List.map_take, List.map_drop]
    exact this
   ·have e : ci = l.length := by omega
    subst e
    have := insert_pc l [(⟨cable, outer, insSort cmpS (P.map Ed.key)⟩ : Ly)] (by omega) (by simp) (by simp)
    rw [List.take_length, List.drop_length, List.append_nil]
    exact this
  conv => whnf
  repeat' (first | (refine CondG.mk (fun h => ?_) (fun h => ?_) <;> (try simp only [decide_eq_true_eq, decide_eq_false_iff_not, Bool.not_eq_true', Bool.not_eq_false', beq_iff_eq, beq_eq_false_iff_ne, bne_iff_ne, bne_eq_false_iff_eq] at h) <;> (first | (exfalso; first | omega | exact h trivial | contradiction | (simp_all [eqRes]; done)) | (conv => whnf))) | (refine  CallX.mk _ _ (by first | exact c6 | exact c4 | exact c7 | exact c8) ?_; conv => whnf) | (refine HookG.no ?_; conv => whnf) | fail)
  refine .mk _ _ ⟨rfl, g, hC, .inr ⟨c, P, ci, hF, rfl, rfl⟩⟩ (.frz 0 _ _ _ rfl (.weak [_] (.tup _ _ rfl ?_) rfl (Nat.le_refl _)))
  intro i x y hx hy
  match i with
  | 0 => cases hx; cases hy; exact .fro 0 _ _ rfl
  | 1 => cases hx; cases hy; exact .refl _
  | n + 2 => cases hx
def mtsL : List Nat := 71 :: 74 :: 60 :: mts
theorem ixLyR_pc (key : ByteArray) (g : Nat) (p : Ly → Bool) (l : List Ly) (hl : l.length ≤ 1000000) (hg : ∀ x ∈ l, PCp g [.agg (encLy x), .c (.ptr 0 0)] [.box [.str key]] (.c (.bool (p x))) [.box [.str key]]) : PCp 60 [.c (.row 0), .c (.fn g [.ptr 1 0])] [.row 57 3 (l.map encLy), .box [.str key]] (.c (.int .i64 (idxP p l))) [.row 57 3 (l.map encLy), .box [.str key]] := by
 have hlm : (l.map encLy).length = l.length := List.length_map ..
 refine fn_sound (mt := mtsL) tab_fits tab_mixed Tryz.func60 (by rfl) (by kernel_rfl) (by kernel_rfl) Tryz.results60 (Nat.le_of_ble_eq_true (by kernel_rfl)) ?_
 conv => whnf
 refine loop_for (l.length) [] [0, 1, 7, 8] (fun k (_ : Unit) => [(8, .c (.int .i64 (k : Int)))]) (fun k (_ : Unit) => []) (fun k (_ : Unit) => ∀ i (hi : i < l.length), i < k → p l[i] = false) (()) ?_
 conv => whnf
 refine ⟨(by first | rfl | (simp; done) | (simp; rfl)), ?_, ?_, ?_⟩
 ·intro i hi h; omega
 ·intro k _ hk hi
  conv => whnf
  repeat' (first | (refine CondG.mk (fun h => ?_) (fun h => ?_) <;> (try simp only [qA, qB, qC, qD, qE, qF, qG, qH] at h) <;> (first | (exfalso; first | omega | exact h trivial) | (conv => whnf))) | (refine  CallX.mk _ _ (by exact hg l[k] (List.getElem_mem hk)) ?_; conv => whnf) | (refine .mk (by first | omega | (unfold roomOK; simp [cutRows]; done) | (unfold roomOK; simp [cutRows]; omega) | (simp [cutRows]; done) | (simp [cutRows]; omega)) ?_; conv => whnf) | ((with_reducible refine row_map (by first | assumption | omega) ?_); conv => whnf) | fail)
  ·exact .mk ⟨by rw [idxP_hit hk (fun i hi' => hi i (by omega) hi') h]; rfl, rfl⟩
  ·refine count_next () hk (by rw [wrap_succ hk (by omega)]; rfl) ?_
   exact all_succ' hi h
 ·intro _ hi
  conv => whnf
  repeat' (first | (refine CondG.mk (fun h => ?_) (fun h => ?_) <;> (try simp only [decide_eq_true_eq, decide_eq_false_iff_not, Bool.not_eq_true', Bool.not_eq_false', beq_iff_eq, beq_eq_false_iff_ne] at h) <;> (first | (exfalso; first | omega | exact h trivial) | (conv => whnf))) | fail)
  exact .mk ⟨by rw [idxP_miss (fun i h => hi i h h)]; rfl, rfl⟩
theorem delfLy_pc (key : ByteArray) (g : Nat) (p : Ly → Bool) (l : List Ly) (hl : l.length ≤ 1000000) (hg : ∀ x ∈ l, PCp g [.agg (encLy x), .c (.ptr 0 0)] [.box [.str key]] (.c (.bool (p x))) [.box [.str key]]) : PCp 74 [.c (.row 0), .c (.fn g [.ptr 1 0])] [.row 57 3 (l.map encLy), .box [.str key]] (.c (.row 2)) [.dead, .box [.str key], .row 57 3 ((l.filter fun x => !p x).map encLy)] := by
 have hlm : (l.map encLy).length = l.length := List.length_map ..
 rcases idxP_or p l with ⟨hix, hno⟩ | ⟨i0, h0, hix, hp, hbef⟩
 ·have hf : l.filter (fun x => !p x) = l := List.filter_eq_self.2 (fun x hx => by simp [hno x hx])
  refine fn_sound (mt := mtsL) tab_fits tab_mixed Tryz.func74 (by rfl) (by kernel_rfl) (by kernel_rfl) Tryz.results74 (Nat.le_of_ble_eq_true (by kernel_rfl)) ?_
  conv => whnf
  repeat' (first | (refine CondG.mk (fun h => ?_) (fun h => ?_) <;> (try simp only [decide_eq_true_eq, decide_eq_false_iff_not, Bool.not_eq_true', Bool.not_eq_false', beq_iff_eq, beq_eq_false_iff_ne] at h) <;> (first | (exfalso; first | omega | exact h trivial) | (conv => whnf))) | (refine  CallX.mk _ _ (by exact ixLyR_pc key g p l hl hg) ?_; conv => whnf) | fail)
  ·refine .cutv 0 _ _ l.length _ (.inr ⟨rfl, hlm.symm⟩) rfl (by omega) (.mk ⟨rfl, ?_⟩)
   rw [hf, show List.take l.length (l.map encLy) = l.map encLy from List.take_of_length_le (by omega)]; rfl
 ·refine fn_sound (mt := mtsL) tab_fits tab_mixed Tryz.func74 (by rfl) (by kernel_rfl) (by kernel_rfl) Tryz.results74 (Nat.le_of_ble_eq_true (by kernel_rfl)) ?_
  conv => whnf
  refine .mk _ _ (ixLyR_pc key g p l hl hg) ?_
  rw [hix]
  conv => whnf
  refine .mk (fun h => ?_) (fun h => ?_)
  ·first | omega | (simp at h; done) | (simp at h; omega)
  conv => whnf
  rw [wrap_succ h0 (by omega)]
  refine loop_for2 (l.length - (i0 + 1)) [] [0, 1, 5, 6] (fun m (i : Nat) (q : List Ly) => [(5, .c (.int .i64 ((i : Nat) : Int))), (6, .c (.int .i64 ((i0 + 1 + m : Nat) : Int)))]) (fun m (i : Nat) (q : List Ly) => [(0, .row 57 3 (q.map encLy))]) (fun m (i : Nat) (q : List Ly) => q.length = l.length ∧ i < i0 + 1 + m ∧ q.drop (i0 + 1 + m) = l.drop (i0 + 1 + m) ∧ q.take i ++ (l.drop (i0 + 1 + m)).filter (fun x => !p x) = l.filter (fun x => !p x)) (i0) (l) ?_
  conv => whnf
  refine ⟨(by first | rfl | (simp; done) | (simp; rfl)), ?_, ?_, ?_⟩
  ·exact ⟨rfl, by omega, rfl, delf_start h0 hp hbef⟩
  ·intro m i q hm ⟨g1, g2, g3, g4⟩
   have hqm : (q.map encLy).length = q.length := List.length_map ..
   have hj : i0 + 1 + m < l.length := by omega
   have q1 : q[i0 + 1 + m]'(by omega) = l[i0 + 1 + m] := getElem_of_drop g3 (by omega) (by omega) (by omega)
   rw [List.drop_eq_getElem_cons hj, List.filter_cons] at g4
   conv => whnf
   refine .mk (fun h => ?_) (fun h => ?_)
   rotate_left
   ·first | omega | (simp at h; done) | (simp at h; omega)
   conv => whnf
   refine .mk (by omega) ?_
   conv => whnf
   refine row_at (i0 + 1 + m) toN (by omega) ?_
   conv => whnf
   rw [q1]
   refine .mk _ _ (hg _ (List.getElem_mem hj)) ?_
   conv => whnf
   refine .mk (fun h => ?_) (fun h => ?_)
   ·conv => whnf
    refine .mk (by omega) ?_
    conv => whnf
    refine row_at i toN (by omega) ?_
    conv => whnf
    rw [if_pos h] at g4
    refine count_next (i + 1, q.set i (l[i0 + 1 + m]'(by omega))) hm (by rw [wrap_succ (n := l.length) (by omega) (by omega), wrap_succ (n := l.length) (by omega) (by omega), toN, List.map_set]; rfl) ⟨by simp [g1], by simp only; omega, ?_, ?_⟩
    ·rw [List.drop_set_of_lt (by omega), show i0 + 1 + (m + 1) = i0 + 1 + m + 1 by omega, ← List.drop_drop, g3, List.drop_drop]
    ·rw [delf_set (by omega), show i0 + 1 + (m + 1) = i0 + 1 + m + 1 by omega, List.append_assoc]; exact g4
   ·conv => whnf
    rw [if_neg (by rw [h]; decide)] at g4
    refine count_next (i, q) hm (by rw [wrap_succ (n := l.length) (by omega) (by omega)]; rfl) ⟨g1, by simp only; omega, ?_, ?_⟩
    ·rw [show i0 + 1 + (m + 1) = i0 + 1 + m + 1 by omega, ← List.drop_drop, g3, List.drop_drop]
    ·rw [show i0 + 1 + (m + 1) = i0 + 1 + m + 1 by omega]; exact g4
  ·intro i q ⟨g1, g2, g3, g4⟩
   have hqm : (q.map encLy).length = q.length := List.length_map ..
   rw [List.drop_of_length_le (by omega), List.filter_nil, List.append_nil] at g4
   conv => whnf
   refine .mk (fun h => ?_) (fun h => ?_)
   ·first | omega | (simp at h; done) | (simp at h; omega)
   conv => whnf
   refine .mk (by omega) ?_
   conv => whnf
   refine .vw ?_
   conv => whnf
   refine .mk (by rw [overR]; simp; omega) ?_
   conv => whnf
   refine .cut ⟨rfl, ?_⟩
   conv => whnf
   rw [toN]
   have hrow : ∀ z : List V, (overR (q.map encLy) (List.replicate ((q.map encLy).length - i) z) i).take i = (l.filter fun x => !p x).map encLy := by
    intro z
    rw [← g4, List.map_take]; unfold overR
    rw [List.append_assoc, List.take_append_of_le_length (by simp; omega), List.take_take, Nat.min_self]
   rw [hrow]
   exact .mk ⟨rfl, rfl⟩
theorem cloneLyZ_pc (l : List Ly) (hl : l.length ≤ 1000000) : PCp 70 [.c (.lst 3 (l.map encLy))] [] (.c (.row 0)) [.row 57 3 (l.map encLy)] := by
 have hlm : (l.map encLy).length = l.length := List.length_map ..
 refine fn_sound (mt := mtsL) tab_fits tab_mixed Tryz.func70 (by rfl) (by kernel_rfl) (by kernel_rfl) Tryz.results70 (Nat.le_of_ble_eq_true (by kernel_rfl)) ?_
 conv => whnf
 refine .mk (fun h => ?_) ?_
 ·conv => whnf
  exact .own 57 3 rfl rfl (by rw [h]; rfl)
 ·conv => whnf
  repeat' (first | (refine AppG.mk (by first | omega | (unfold roomOK; simp [cutRows]; done) | (unfold roomOK; simp [cutRows]; omega)) ?_; conv => whnf) | fail)
  exact .mk ⟨rfl, rfl⟩
theorem remOf1_pc (x : Ly) (k : ByteArray) : PCp 75 [.agg (encLy x), .c (.ptr 0 0)] [.box [.str k]] (.c (.bool (decide (x.cable = k)))) [.box [.str k]] := by
 refine fn_sound (mt := mtsL) tab_fits tab_mixed Tryz.func75 (by rfl) (by kernel_rfl) (by kernel_rfl) Tryz.results75 (Nat.le_of_ble_eq_true (by kernel_rfl)) ?_
 conv => whnf
 skip
 exact .mk ⟨by rw [beqL]; rfl, rfl⟩
theorem rRemOf_pc (l : List Ly) (hl : l.length ≤ 1000000) (k : ByteArray) : PCp 22 [.c (.lst 3 (l.map encLy)), .c (.str k)] [] (.c (.lst 3 ((l.filter fun x => !decide (x.cable = k)).map encLy))) [] := by
 refine fn_sound (mt := mtsL) tab_fits tab_mixed Tryz.func22 (by rfl) (by kernel_rfl) (by kernel_rfl) Tryz.results22 (Nat.le_of_ble_eq_true (by kernel_rfl)) ?_
 conv => whnf
 repeat' (first | (refine  CallX.mk _ _ (by first | exact cloneLyZ_pc l hl | exact delfLy_pc k 75 (fun x => decide (x.cable = k)) l hl (fun x _ => remOf1_pc x k)) ?_; conv => whnf) | fail)
 exact .frz 0 _ _ _ rfl (.weak [_] (.fro 0 _ _ rfl) rfl (Nat.le_refl _))
theorem laidOf1_pc (x y : Ly) : PCp 72 [.agg (encLy x), .agg (encLy y)] [] (.c (.int .i64 (cmpS x.cable y.cable))) [] := by
 refine fn_sound (mt := mtsL) tab_fits tab_mixed Tryz.func72 (by rfl) (by kernel_rfl) (by kernel_rfl) Tryz.results72 (Nat.le_of_ble_eq_true (by kernel_rfl)) ?_
 conv => whnf
 repeat' (first | (refine  CallX.mk _ _ (by exact sCompare_pc _ _) ?_; conv => whnf) | fail)
 exact fini rfl
theorem sortLy_pc (l T : List Ly) (hl : l.length ≤ 1000000) (hp : T.Perm l) (hr : Rise Ly.cable T) :
  PCp 71 [.c (.row 0), .c (.fn 72 [])] [.row 57 3 (l.map encLy)] (.tup []) [.row 57 3 (T.map encLy)] := by
 have h := sort_pcx layLying (encA := encLy) (c := fun a b : Ly => cmpS a.cable b.cable) (by decide) (fun w => (tab_fits 57 _ rfl).isAgg w) (fun w => (tab_fits 57 _ rfl).sizeOf w) (fun x => rfl) (swo_key Ly.cable) laidOf1_pc 57 l (by omega)
 refine PCx.monoW h ?_
 rintro r os ⟨l', hs, h1, h2⟩
 have hp' : l'.Perm T := hs.1.trans hp.symm
 have : l' = T := rise_one hp' (rise_of hs.2 ((hp'.map _).nodup_iff.2 (rise_nodup hr))) hr
 subst this
 exact ⟨h1, h2⟩
theorem cntZ_cons (x : Ly) (a : Ly) (r : List Ly) : cntL (fun y : Ly => cmpS y.cable x.cable) (a :: r) = if ltB a.cable x.cable = true then cntL (fun y : Ly => cmpS y.cable x.cable) r + 1 else 0 := by
 unfold cntL
 rw [List.takeWhile_cons]
 by_cases h : ltB a.cable x.cable = true
 ·rw [if_pos h, if_pos (decide_eq_true (cmp_lt.2 h)), List.length_cons]
 ·rw [if_neg h, if_neg (by simpa using fun q => h (cmp_lt.1 q))]; rfl
theorem rise_mid (x : Ly) : ∀ {l : List Ly}, Rise Ly.cable l → (∀ y ∈ l, y.cable ≠ x.cable) → Rise Ly.cable (l.take (cntL (fun y : Ly => cmpS y.cable x.cable) l) ++ [x] ++ l.drop (cntL (fun y : Ly => cmpS y.cable x.cable) l))
 | [], _, _ => by simp [Rise]
 | a :: r, hr, hx => by
  have hr2 := List.pairwise_cons.1 hr
  rw [cntZ_cons]
  by_cases h : ltB a.cable x.cable = true
  ·rw [if_pos h, List.take_succ_cons, List.drop_succ_cons]
   have ih := rise_mid x (l := r) hr2.2 (fun y hy => hx y (List.mem_cons_of_mem _ hy))
   rw [List.cons_append, List.cons_append]
   refine List.pairwise_cons.2 ⟨fun z hz => ?_, ih⟩
   rcases List.mem_append.1 hz with hz | hz
   ·rcases List.mem_append.1 hz with hz | hz
    ·exact hr2.1 z (List.mem_of_mem_take hz)
    ·rw [List.mem_singleton] at hz; subst hz; exact h
   ·exact hr2.1 z (List.mem_of_mem_drop hz)
  ·rw [if_neg h, List.take_zero, List.drop_zero, List.nil_append, List.singleton_append]
   have hxa : ltB x.cable a.cable = true := by
    rcases ltB_tri x.cable a.cable with q | q | q
    ·exact q
    ·exact absurd q.symm (hx a (List.mem_cons_self ..))
    ·exact absurd q h
   refine List.pairwise_cons.2 ⟨fun z hz => ?_, hr⟩
   rcases List.mem_cons.1 hz with rfl | hz
   ·exact hxa
   ·exact ltB_trans hxa (hr2.1 z hz)
theorem wOpt_len {E : List Ed} (hE : EdsOk E) {fr s : ByteArray} {B : WM} (hB : WOpt E fr B) {w : Wy} (h : B.get s = some w) : w.1.length ≤ 2 * E.length := by
 obtain ⟨W, hW, rfl⟩ := hB.1 s w h
 obtain ⟨W0, h1, h2, h3⟩ := wk_cut hE hW
 obtain ⟨w', h4, h5⟩ := hB.2 s W0 h1
 rw [h] at h4; cases h4
 have e := wLe_one h5 h3
 have := congrArg (fun z : Wy => z.1.length) e
 simp only [wyOf, List.length_map] at this ⊢
 omega
theorem rLaidOf_pc (d : List Du) (l : List Ly) (h0 : lyFault d l = 0) (hd6 : d.length ≤ 100) (hll : l.length < 300) (cable fr to : ByteArray) (hcab : cabIx l cable = -1) (o : Int) (ho : 0 ≤ o ∧ o ≤ 1000) :
  PCq 20 [.c (.lst 5 (d.map encDu)), .c (.lst 3 (l.map encLy)), .c (.str cable), .c (.str fr), .c (.str to), .c (.int .i64 o)] [] fun r os => os = [] ∧ ∃ B : WM, WOpt (netE (fitCap l o) d) fr B ∧
   ((B.get to = none ∧ r = .tup [.c (.lst 3 []), .c (.int .i64 12)]) ∨ ∃ w i, B.get to = some w ∧ i = cntL (fun x : Ly => cmpS x.cable cable) l ∧ r = .tup [.c (.lst 3 ((l.take i ++ [(⟨cable, o, insSort cmpS w.1⟩ : Ly)] ++ l.drop i).map encLy)), .c (.int .i64 0)]) := by
 have hok := lyFault_ok h0
 have hlm : (l.map encLy).length = l.length := List.length_map ..
 have hno : ∀ y ∈ l, y.cable ≠ cable := fun y hy q => by
  rcases idxP_or (fun x : Ly => decide (x.cable = cable)) l with ⟨_, h⟩ | ⟨i, hi, hix, _⟩
  ·have := h y hy; simp [q] at this
  ·unfold cabIx at hcab; rw [hix] at hcab; omega
 refine fn_soundX (mt := mtsL) tab_fits tab_mixed Tryz.func20 (by rfl) (by kernel_rfl) (by kernel_rfl) Tryz.results20 (Nat.le_of_ble_eq_true (by kernel_rfl)) ?_
 conv => whnf
 skip
 refine .ex _ (rWayOf_pc d l h0 hd6 fr to o ho) ?_
 rintro _ _ ⟨rfl, B, hB, ⟨hn, rfl⟩ | ⟨w, hw, rfl⟩⟩
 ·conv => whnf
  repeat' (first | (refine CondG.mk (fun h => ?_) (fun h => ?_) <;> (try simp only [qA, qB, qC, qD, qE, qF, qG, qH] at h) <;> (first | (exfalso; first | omega | exact h trivial | contradiction | (simp_all [eqRes]; done)) | (conv => whnf))) | fail)
  refine .mk _ _ ⟨rfl, B, hB, .inl ⟨hn, rfl⟩⟩ (.weak [] (.tup _ _ rfl ?_) rfl (Nat.le_refl _))
  intro i x y hx hy
  match i with
  | 0 => cases hx; cases hy; exact .nil 3
  | 1 => cases hx; cases hy; exact .refl _
  | n + 2 => cases hx
 ·have hwl : w.1.length ≤ 1000000 := by
   have h1 := wOpt_len (net_ok (du_of h0) (fitCap l o)).1 hB hw
   have h2 := net_len (fitCap l o) d
   omega
  have c1 := cloneS_pc w.1 hwl
  have c2 := sortG_pc w.1 (by omega)
  have c3 := cloneLyZ_pc l (by omega)
  have hr := rise_mid (⟨cable, o, insSort cmpS w.1⟩ : Ly) hok.rise hno
  have hp : (l.take (cntL (fun y : Ly => cmpS y.cable cable) l) ++ [(⟨cable, o, insSort cmpS w.1⟩ : Ly)] ++ l.drop (cntL (fun y : Ly => cmpS y.cable cable) l)).Perm (l ++ [(⟨cable, o, insSort cmpS w.1⟩ : Ly)]) := by
   have : (l.take (cntL (fun y : Ly => cmpS y.cable cable) l) ++ [(⟨cable, o, insSort cmpS w.1⟩ : Ly)] ++ l.drop (cntL (fun y : Ly => cmpS y.cable cable) l)).Perm (l.take (cntL (fun y : Ly => cmpS y.cable cable) l) ++ (l.drop (cntL (fun y : Ly => cmpS y.cable cable) l) ++ [(⟨cable, o, insSort cmpS w.1⟩ : Ly)])) := by
    rw [List.append_assoc]; exact List.Perm.append_left _ List.perm_append_comm
   rwa [← List.append_assoc, List.take_append_drop] at this
  have c4 := sortLy_pc (l ++ [(⟨cable, o, insSort cmpS w.1⟩ : Ly)]) _ (by simp; omega) hp hr
  rw [List.map_append] at c4
  conv => whnf
  repeat' (first | (refine CondG.mk (fun h => ?_) (fun h => ?_) <;> (try simp only [qA, qB, qC, qD, qE, qF, qG, qH] at h) <;> (first | (exfalso; first | omega | exact h trivial | contradiction | (simp_all [eqRes]; done)) | (conv => whnf))) | (refine  CallX.mk _ _ (by first | exact c1 | exact c2 | exact c3 | exact c4) ?_; conv => whnf) | (refine AppG.mk (by first | omega | (unfold roomOK; simp [cutRows]; done) | (unfold roomOK; simp [cutRows]; omega) | (simp [cutRows]; done) | (simp [cutRows]; omega)) ?_; conv => whnf) | (refine HookG.no ?_; conv => whnf) | fail)
  refine .mk _ _ ⟨rfl, B, hB, .inr ⟨w, _, hw, rfl, rfl⟩⟩ (.frz 0 _ _ _ rfl (.weak [_] (.tup _ _ rfl ?_) rfl (Nat.le_refl _)))
  intro i x y hx hy
  match i with
  | 0 => cases hx; cases hy; exact .fro 0 _ _ rfl
  | 1 => cases hx; cases hy; exact .refl _
  | n + 2 => cases hx
def ixZ (Z : List ByteArray) (s : ByteArray) : Nat := Z.findIdx fun x => decide (s = x)
def sideM (Z : List ByteArray) (m : Nat) (s : ByteArray) : Bool := m.testBit (ixZ Z s)
def maskOf (C : ByteArray → Bool) : List ByteArray → Nat
 | [] => 0
 | z :: r => (if C z = true then 1 else 0) + 2 * maskOf C r
theorem maskOf_lt (C : ByteArray → Bool) : ∀ Z : List ByteArray, maskOf C Z < 2 ^ Z.length
 | [] => by simp [maskOf]
 | z :: r => by
  have := maskOf_lt C r
  rw [maskOf, List.length_cons, Nat.pow_succ]
  split <;> omega
theorem maskOf_bit (C : ByteArray → Bool) : ∀ (Z : List ByteArray) (i : Nat) (hi : i < Z.length), (maskOf C Z).testBit i = C Z[i]
 | [], i, hi => by simp at hi
 | z :: r, 0, _ => by
  rw [Nat.testBit_zero, maskOf]
  cases h : C z <;> simp [h] <;> omega
 | z :: r, i + 1, hi => by
  rw [Nat.testBit_succ, maskOf]
  have e : ((if C z = true then 1 else 0) + 2 * maskOf C r) / 2 = maskOf C r := by split <;> omega
  rw [e, maskOf_bit C r i (by simpa using hi)]
  rfl
theorem ixZ_at {Z : List ByteArray} {s : ByteArray} (h : s ∈ Z) : ∃ hi : ixZ Z s < Z.length, Z[ixZ Z s] = s := by
 have hi : ixZ Z s < Z.length := List.findIdx_lt_length_of_exists ⟨s, h, by simp⟩
 have := List.findIdx_getElem (p := fun x => decide (s = x)) (w := hi)
 exact ⟨hi, (of_decide_eq_true this).symm⟩
theorem side_mask {Z : List ByteArray} (C : ByteArray → Bool) {s : ByteArray} (h : s ∈ Z) : sideM Z (maskOf C Z) s = C s := by
 obtain ⟨hi, e⟩ := ixZ_at h
 unfold sideM
 rw [maskOf_bit C Z _ hi, e]
def cutK (cap : Du → Int) (C : ByteArray → Bool) : List Du → Int
 | [] => 0
 | x :: r => (if C x.a = C x.b then 0 else cap x) + cutK cap C r
theorem cutK_app (cap : Du → Int) (C : ByteArray → Bool) (y : Du) : ∀ d, cutK cap C (d ++ [y]) = cutK cap C d + (if C y.a = C y.b then 0 else cap y)
 | [] => by simp [cutK]
 | x :: r => by rw [List.cons_append, cutK, cutK_app cap C y r, cutK]; omega
theorem cutK_net (cap : Du → Int) (C : ByteArray → Bool) : ∀ d : List Du, (∀ x ∈ d, 0 ≤ cap x) → cutC C (netE cap d) = cutK cap C d
 | [], _ => rfl
 | x :: r, h => by
  have ih := cutK_net cap C r (fun y hy => h y (List.mem_cons_of_mem _ hy))
  have h0 := h x (List.mem_cons_self ..)
  unfold netE at ih ⊢
  rw [List.filter_cons, cutK, ← ih]
  by_cases hp : 0 < cap x
  ·rw [if_pos (by simpa using hp), List.map_cons, cutC]
   rfl
  ·rw [if_neg (by simpa using hp)]
   have : cap x = 0 := by omega
   rw [this]
   split <;> omega
theorem cutK_eq (cap : Du → Int) {C C' : ByteArray → Bool} : ∀ d : List Du, (∀ x ∈ d, C x.a = C' x.a ∧ C x.b = C' x.b) → cutK cap C d = cutK cap C' d
 | [], _ => rfl
 | x :: r, h => by
  rw [cutK, cutK, cutK_eq cap r (fun y hy => h y (List.mem_cons_of_mem _ hy)), (h x (List.mem_cons_self ..)).1, (h x (List.mem_cons_self ..)).2]
theorem cutK_nn (cap : Du → Int) (C : ByteArray → Bool) (m : Int) : ∀ d : List Du, (∀ x ∈ d, 0 ≤ cap x ∧ cap x ≤ m) → 0 ≤ m → 0 ≤ cutK cap C d ∧ cutK cap C d ≤ m * d.length
 | [], _, _ => by simp [cutK]
 | x :: r, h, hm => by
  have ih := cutK_nn cap C m r (fun y hy => h y (List.mem_cons_of_mem _ hy)) hm
  have := h x (List.mem_cons_self ..)
  rw [cutK, List.length_cons]
  push_cast
  rw [Int.mul_add]
  split <;> omega
def BestM (cap : Du → Int) (d : List Du) (Z : List ByteArray) (fr to : ByteArray) (k : Nat) (b : Int) : Prop :=
 (b = -1 ∧ ∀ m, m < k → ¬ (sideM Z m fr = true ∧ sideM Z m to = false)) ∨
 (0 ≤ b ∧ (∃ m, m < k ∧ sideM Z m fr = true ∧ sideM Z m to = false ∧ cutK cap (sideM Z m) d = b) ∧ ∀ m, m < k → sideM Z m fr = true → sideM Z m to = false → b ≤ cutK cap (sideM Z m) d)
theorem BestM.skip {cap : Du → Int} {d : List Du} {Z : List ByteArray} {fr to : ByteArray} {k : Nat} {b : Int} (h : BestM cap d Z fr to k b) (hk : ¬ (sideM Z k fr = true ∧ sideM Z k to = false)) : BestM cap d Z fr to (k + 1) b := by
 rcases h with ⟨h1, h2⟩ | ⟨h1, ⟨m, h2, h3⟩, h4⟩
 ·refine .inl ⟨h1, fun m hm => ?_⟩
  by_cases q : m = k
  ·subst q; exact hk
  ·exact h2 m (by omega)
 ·refine .inr ⟨h1, ⟨m, by omega, h3⟩, fun m hm g1 g2 => ?_⟩
  by_cases q : m = k
  ·subst q; exact absurd ⟨g1, g2⟩ hk
  ·exact h4 m (by omega) g1 g2
theorem BestM.put {cap : Du → Int} {d : List Du} {Z : List ByteArray} {fr to : ByteArray} {k : Nat} {b : Int} (h : BestM cap d Z fr to k b) (h1 : sideM Z k fr = true) (h2 : sideM Z k to = false) (h0 : 0 ≤ cutK cap (sideM Z k) d) (hb : b < 0 ∨ cutK cap (sideM Z k) d < b) : BestM cap d Z fr to (k + 1) (cutK cap (sideM Z k) d) := by
 refine .inr ⟨h0, ⟨k, by omega, h1, h2, rfl⟩, fun m hm g1 g2 => ?_⟩
 by_cases q : m = k
 ·subst q; exact Int.le_refl _
 ·rcases h with ⟨_, k2⟩ | ⟨k1, _, k4⟩
  ·exact absurd ⟨g1, g2⟩ (k2 m (by omega))
  ·have := k4 m (by omega) g1 g2
   omega
theorem BestM.keep {cap : Du → Int} {d : List Du} {Z : List ByteArray} {fr to : ByteArray} {k : Nat} {b : Int} (h : BestM cap d Z fr to k b) (hb : 0 ≤ b) (hc : b ≤ cutK cap (sideM Z k) d) : BestM cap d Z fr to (k + 1) b := by
 rcases h with ⟨k1, _⟩ | ⟨k1, ⟨m, k2, k3⟩, k4⟩
 ·omega
 ·refine .inr ⟨k1, ⟨m, by omega, k3⟩, fun m hm g1 g2 => ?_⟩
  by_cases q : m = k
  ·subst q; exact hc
  ·exact k4 m (by omega) g1 g2
theorem BestM.done {cap : Du → Int} {d : List Du} {Z : List ByteArray} {fr to : ByteArray} {b : Int} (hcap : ∀ x ∈ d, 0 ≤ cap x) (hZ : ∀ x ∈ d, x.a ∈ Z ∧ x.b ∈ Z) (hf : fr ∈ Z) (ht : to ∈ Z) (hne : fr ≠ to) (h : BestM cap d Z fr to (2 ^ Z.length) b) {n : Int} (hM : MinCut (netE cap d) fr to n) : b = n := by
 have key : ∀ C : ByteArray → Bool, C fr = true → C to = false → b ≤ cutC C (netE cap d) ∧ 0 ≤ b := by
  intro C h1 h2
  have g1 := side_mask C hf
  have g2 := side_mask C ht
  have g3 := maskOf_lt C Z
  rw [cutK_net cap C d hcap]
  rcases h with ⟨_, k2⟩ | ⟨k1, _, k4⟩
  ·exact absurd ⟨by rw [g1, h1], by rw [g2, h2]⟩ (k2 _ g3)
  ·have := k4 _ g3 (by rw [g1, h1]) (by rw [g2, h2])
   rw [cutK_eq cap d (fun x hx => ⟨side_mask C (hZ x hx).1, side_mask C (hZ x hx).2⟩)] at this
   exact ⟨this, k1⟩
 obtain ⟨⟨C, h1, h2, h3⟩, h4⟩ := hM
 have a := key C h1 h2
 rcases h with ⟨k1, _⟩ | ⟨k1, ⟨m, _, k2, k3, k5⟩, _⟩
 ·omega
 ·have := h4 (sideM Z m) k2 k3
  rw [cutK_net cap _ d hcap] at this
  omega
theorem indexSz_pc (v : ByteArray) (l : List ByteArray) (hl : l.length ≤ 1000000) : PCp 69 [.c (.row 0), .c (.str v)] [.row 9 1 (l.map encS)] (.c (.int .i64 (idxP (fun x => decide (v = x)) l))) [.row 9 1 (l.map encS)] := by
 have hlm : (l.map encS).length = l.length := List.length_map ..
 refine fnP Tryz.func69 Tryz.results69 ?_
 conv => whnf
 refine loop_for (l.length) [] [0, 1, 7, 8] (fun k (_ : Unit) => [(8, .c (.int .i64 (k : Int)))]) (fun k (_ : Unit) => []) (fun k (_ : Unit) => ∀ i (hi : i < l.length), i < k → (decide (v = l[i])) = false) (()) ?_
 conv => whnf
 refine ⟨(by first | rfl | (simp; done) | (simp; rfl)), ?_, ?_, ?_⟩
 ·intro i hi h; omega
 ·intro k _ hk hi
  conv => whnf
  repeat' (first | (refine CondG.mk (fun h => ?_) (fun h => ?_) <;> (try simp only [qA, qB, qC, qD, qE, qF, qG, qH] at h) <;> (first | (exfalso; first | omega | exact h trivial) | (conv => whnf))) | (refine .mk (by first | omega | (unfold roomOK; simp [cutRows]; done) | (unfold roomOK; simp [cutRows]; omega) | (simp [cutRows]; done) | (simp [cutRows]; omega)) ?_; conv => whnf) | ((with_reducible refine row_map (by first | assumption | omega) ?_); conv => whnf) | fail)
  ·exact .mk ⟨by rw [idxP_hit (p := fun x => decide (v = x)) hk (fun i hi' => hi i (by omega) hi') (by simpa [toList_eq'] using h)]; rfl, rfl⟩
  ·refine count_next () hk (by rw [wrap_succ hk (by omega)]; rfl) ?_
   exact all_succ' (p := fun x => decide (v = x)) hi (by simpa [toList_eq'] using h)
 ·intro _ hi
  conv => whnf
  repeat' (first | (refine CondG.mk (fun h => ?_) (fun h => ?_) <;> (try simp only [decide_eq_true_eq, decide_eq_false_iff_not, Bool.not_eq_true', Bool.not_eq_false', beq_iff_eq, beq_eq_false_iff_ne] at h) <;> (first | (exfalso; first | omega | exact h trivial) | (conv => whnf))) | fail)
  exact .mk ⟨by rw [idxP_miss (p := fun x => decide (v = x)) (fun i h => hi i h h)]; rfl, rfl⟩
theorem bit_test (m i : Nat) (hm : m < 1048576) (hi : i ≤ 20) : decide (bitsV .and .i64 (shV .shr .i64 (m : Int) (i : Int)) 1 = 1) = m.testBit i := by
 have h1 : shV .shr .i64 (m : Int) (i : Int) = ((m / 2 ^ i : Nat) : Int) := by
  unfold shV
  have : min ((i : Int)).toNat IntKind.i64.bits = i := by rw [toN]; exact Nat.min_eq_left (Nat.le_trans hi (by decide))
  simp only [this]
  rw [show ((2 : Int) ^ i) = ((2 ^ i : Nat) : Int) by push_cast; rfl, ← Int.ofNat_fdiv]
 rw [h1]
 have hn : m / 2 ^ i < 1048576 := Nat.lt_of_le_of_lt (Nat.div_le_self ..) hm
 rw [Nat.testBit_eq_decide_div_mod_eq]
 generalize m / 2 ^ i = n at *
 have h2 : bitsV .and .i64 (n : Int) 1 = ((n % 2 : Nat) : Int) := by
  unfold bitsV
  have e : (BitVec.ofInt IntKind.i64.bits (n : Int) &&& BitVec.ofInt IntKind.i64.bits 1).toNat = n % 2 := by
   rw [BitVec.toNat_and]
   have e1 : (BitVec.ofInt IntKind.i64.bits (n : Int)).toNat = n := by
    rw [BitVec.toNat_ofInt]
    show ((n : Int) % ((2 ^ 64 : Nat) : Int)).toNat = n
    omega
   have e2 : (BitVec.ofInt IntKind.i64.bits 1).toNat = 1 := by decide
   rw [e1, e2, Nat.and_one_is_mod]
  simp only [e]
  exact wrap_in (by omega) (by omega)
 rw [h2]
 congr 1
 apply propext
 omega
theorem cptA_mem {x : ByteArray} : ∀ (a : ByteArray) (l : List ByteArray), x ∈ a :: cptA a l ↔ x ∈ a :: l
 | a, [] => by simp [cptA]
 | a, b :: r => by
  rw [cptA]
  split
  ·rename_i e; subst e
   rw [cptA_mem b r]; simp
  ·have := cptA_mem (x := x) b r
   simp only [List.mem_cons] at this ⊢
   rw [this]
theorem cpt_mem {x : ByteArray} (l : List ByteArray) : x ∈ cpt l ↔ x ∈ l := by
 cases l with
 | nil => simp [cpt]
 | cons a r => rw [cpt]; exact cptA_mem a r
def siteL (d : List Du) : List ByteArray := d.flatMap fun x => [x.a, x.b]
def sitZ (d : List Du) : List ByteArray := cpt (insSort cmpS (siteL d))
theorem siteL_len : ∀ d : List Du, (siteL d).length = 2 * d.length
 | [] => rfl
 | x :: r => by have := siteL_len r; unfold siteL at *; rw [List.flatMap_cons, List.length_append, this]; simp; omega
theorem sitZ_mem {d : List Du} {s : ByteArray} : s ∈ sitZ d ↔ ∃ x ∈ d, s = x.a ∨ s = x.b := by
 unfold sitZ siteL
 rw [cpt_mem, (insSort_perm _ _).mem_iff, List.mem_flatMap]
 simp
theorem sitZ_len (d : List Du) : (sitZ d).length ≤ 2 * d.length := by
 have := cpt_len (insSort cmpS (siteL d))
 rw [(insSort_perm _ _).length_eq, siteL_len] at this
 exact this
theorem side_pc (Z : List ByteArray) (m : Nat) (s : ByteArray) (hs : s ∈ Z) (hZ : Z.length ≤ 12) (hm : m < 4096) : PCp 68 [.c (.str s), .c (.ptr 0 0), .c (.ptr 1 0)] [.box [.int .i64 (m : Nat)], .box [.row 2], .row 9 1 (Z.map encS)] (.c (.bool (sideM Z m s))) [.box [.int .i64 (m : Nat)], .box [.row 2], .row 9 1 (Z.map encS)] := by
 obtain ⟨hi, _⟩ := ixZ_at hs
 have hix : idxP (fun x => decide (s = x)) Z = ((ixZ Z s : Nat) : Int) := by
  unfold idxP ixZ
  rw [if_pos (List.any_eq_true.2 ⟨s, hs, by simp⟩)]
 have c1 := indexSz_pc s Z (by omega)
 rw [hix] at c1
 have hb := bit_test m (ixZ Z s) (by omega) (by omega)
 refine fnP Tryz.func68 Tryz.results68 ?_
 conv => whnf
 repeat' (first | (refine CallG.mk _ _ (by exact c1) ?_; conv => whnf) | (refine .mk (by first | omega | (unfold roomOK; simp [cutRows]; done) | (unfold roomOK; simp [cutRows]; omega) | (simp [cutRows]; done) | (simp [cutRows]; omega)) ?_; conv => whnf) | fail)
 exact .mk ⟨congrArg (fun b => S.c (V.bool b)) hb, rfl⟩
def mCap (l : List Ly) (o : Int) (x : Du) : Int := ((mostV x.inner (outV l x.key) o (20 - (outV l x.key).length) : Nat) : Int)
theorem mostZ_le (inner : Int) (all : List Int) (outer : Int) : ∀ n, mostV inner all outer n ≤ n
 | 0 => Nat.le_refl _
 | n + 1 => by
  have := mostZ_le inner all outer n
  rw [mostV]; split <;> omega
theorem mCap_bd (l : List Ly) (o : Int) (x : Du) : 0 ≤ mCap l o x ∧ mCap l o x ≤ 20 := by
 unfold mCap
 have := mostZ_le x.inner (outV l x.key) o (20 - (outV l x.key).length)
 omega
theorem fill_set (f : Du → Int) (d : List Du) (k : Nat) (hk : k < d.length) : (((d.take k).map f ++ List.replicate (d.length - k) (0 : Int)).map encI).set k [.int .i64 (f d[k])] = ((d.take (k + 1)).map f ++ List.replicate (d.length - (k + 1)) (0 : Int)).map encI := by
 have hl : (d.take k).length = k := by rw [List.length_take]; omega
 rw [show d.length - k = (d.length - (k + 1)) + 1 by omega, List.replicate_succ, List.map_append, List.map_append, List.set_append_right _ _ (by simp; omega), List.take_succ_eq_append_getElem hk, List.map_append, List.map_append]
 simp only [List.length_map, hl, Nat.sub_self, List.map_cons, List.set_cons_zero, List.map_nil, List.append_assoc, List.singleton_append]
 rfl
theorem fill_get (f : Du → Int) (d : List Du) (k : Nat) (hk : k < d.length) : (((d.take k).map f ++ List.replicate (d.length - k) (0 : Int)).map encI)[k]? = some [.int .i64 0] := by
 have hl : (d.take k).length = k := by rw [List.length_take]; omega
 rw [show d.length - k = (d.length - (k + 1)) + 1 by omega, List.replicate_succ, List.map_append, List.getElem?_append_right (by simp; omega)]
 simp only [List.length_map, hl, Nat.sub_self, List.map_cons]
 rfl
theorem cutK_cap (cap : Du → Int) (C : ByteArray → Bool) (d : List Du) (j : Nat) (hj : j < d.length) : cutK cap C (d.take (j + 1)) = cutK cap C (d.take j) + (if C d[j].a = C d[j].b then 0 else cap d[j]) := by
 rw [List.take_succ_eq_append_getElem hj, cutK_app]
theorem rCapOf_pc (d : List Du) (l : List Ly) (h0 : lyFault d l = 0) (hd6 : d.length ≤ 6) (fr to : ByteArray) (hne : fr ≠ to) (hfr : siteB d fr = true) (hto : siteB d to = true) (o : Int) (ho : 0 ≤ o ∧ o ≤ 1000) :
  PCq 19 [.c (.lst 5 (d.map encDu)), .c (.lst 3 (l.map encLy)), .c (.str fr), .c (.str to), .c (.int .i64 o)] [] fun r os => os = [] ∧ ∃ b, BestM (mCap l o) d (sitZ d) fr to (2 ^ (sitZ d).length) b ∧ r = .c (.int .i64 b) := by
 have hdu := du_of h0
 have hok := lyFault_ok h0
 have hdm : (d.map encDu).length = d.length := List.length_map ..
 have hZl : (sitZ d).length ≤ 12 := Nat.le_trans (sitZ_len d) (by omega)
 have hsl : (siteL d).length = 2 * d.length := siteL_len d
 have hil : (insSort cmpS (siteL d)).length = 2 * d.length := by rw [(insSort_perm _ _).length_eq, hsl]
 have cS := sortG_pc (siteL d) (by omega)
 have cC := cptS_pc (insSort cmpS (siteL d)) (by omega)
 have hzd : sitZ d = cpt (insSort cmpS (siteL d)) := rfl
 rw [← hzd] at cC
 have hsite : ∀ {s}, siteB d s = true → s ∈ sitZ d := fun {s} h => by
  unfold siteB at h
  obtain ⟨x, hx, h1⟩ := List.any_eq_true.1 h
  rw [Bool.or_eq_true, decide_eq_true_eq, decide_eq_true_eq] at h1
  exact sitZ_mem.2 ⟨x, hx, h1.imp Eq.symm Eq.symm⟩
 have hZa : ∀ x ∈ d, x.a ∈ sitZ d ∧ x.b ∈ sitZ d := fun x hx => ⟨sitZ_mem.2 ⟨x, hx, .inl rfl⟩, sitZ_mem.2 ⟨x, hx, .inr rfl⟩⟩
 have hff := hsite hfr
 have htt := hsite hto
 generalize hZ : sitZ d = Z at *
 have hzm : (Z.map encS).length = Z.length := List.length_map ..
 have hp12 : 2 ^ Z.length ≤ 4096 := Nat.le_trans (Nat.pow_le_pow_right (by decide) hZl) (by decide)
 have hp0 : (0 : Int) ≤ ((2 ^ Z.length : Nat) : Int) := Int.natCast_nonneg _
 refine fnPX Tryz.func19 Tryz.results19 ?_
 conv => whnf
 skip
 refine loop_for (d.length) [.bx 11 0 9 1] [0, 1, 2, 3, 4, 11, 23, 24, 25] (fun k (_ : Unit) => [(25, .c (.int .i64 (k : Int)))]) (fun k (_ : Unit) => [(1, .row 9 1 ((siteL (d.take k)).map encS))]) (fun k (_ : Unit) => True) (()) ?_
 conv => whnf
 refine ⟨?_, (by trivial), ?_, ?_⟩
 ·rfl
 ·intro k _ hk _
  have hk2 : (siteL (d.take k)).length = 2 * k := by rw [siteL_len, List.length_take]; omega
  have hk3 : ((siteL (d.take k)).map encS).length = 2 * k := by rw [List.length_map, hk2]
  have ht : siteL (d.take (k + 1)) = siteL (d.take k) ++ [d[k].a, d[k].b] := by
   rw [List.take_succ_eq_append_getElem hk]; unfold siteL; rw [List.flatMap_append]; rfl
  conv => whnf
  repeat' (first | (refine CondG.mk (fun h => ?_) (fun h => ?_) <;> (try simp only [qA, qB, qC, qD, qE, qF, qG, qH] at h) <;> (first | (exfalso; first | omega | exact h trivial) | (conv => whnf))) | (refine AppG.mk (by first | omega | (unfold roomOK; simp [cutRows]; done) | (unfold roomOK; simp [cutRows]; omega) | (simp [cutRows]; done) | (simp [cutRows]; omega)) ?_; conv => whnf) | (refine idx_at _ (by with_reducible rfl) (by first | assumption | omega) ?_; conv => whnf) | fail)
  exact count_next () hk (by rw [wrap_succ hk (by omega), ht, List.map_append]; rfl) trivial
 ·intro _ _
  rw [List.take_length]
  conv => whnf
  repeat' (first | (refine CondG.mk (fun h => ?_) (fun h => ?_) <;> (try simp only [qA, qB, qC, qD, qE, qF, qG, qH] at h) <;> (first | (exfalso; first | omega | exact h trivial) | (conv => whnf))) | (refine  CallX.mk _ _ (by first | exact cS | exact cC) ?_; conv => whnf) | (refine .mk (by first | omega | (unfold roomOK; simp [cutRows]; done) | (unfold roomOK; simp [cutRows]; omega) | (simp [cutRows]; done) | (simp [cutRows]; omega)) ?_; conv => whnf) | fail)
  have h0r : ((d.take 0).map (mCap l o) ++ List.replicate (d.length - 0) (0 : Int)).map encI = List.replicate (((d.map encDu).length : Nat) : Int).toNat [V.int .i64 0] := by simp [encI]
  refine loop_for (d.length) [] [0, 1, 2, 3, 4, 11, 14, 53, 54, 55] (fun k (_ : Unit) => [(55, .c (.int .i64 (k : Int)))]) (fun k (_ : Unit) => [(2, .row 3 1 (((d.take k).map (mCap l o) ++ List.replicate (d.length - k) (0 : Int)).map encI))]) (fun k (_ : Unit) => True) (()) ?_
  conv => whnf
  refine ⟨?_, (by trivial), ?_, ?_⟩
  ·rw [h0r]; rfl
  ·intro k _ hk _
   have hkm : d[k] ∈ d := List.getElem_mem hk
   have hh1 : hasD d d[k].key = true := hasD_iff.2 ⟨_, hkm, rfl⟩
   have cM := rMost_pc d l d[k].key o (by unfold oneE; rw [if_neg (fun q => q h0), if_pos hh1]) ho
   rw [duG_mem hok.du hkm] at cM
   have hrl : (((d.take k).map (mCap l o) ++ List.replicate (d.length - k) (0 : Int)).map encI).length = d.length := by simp; omega
   conv => whnf
   repeat' (first | (refine CondG.mk (fun h => ?_) (fun h => ?_) <;> (try simp only [qA, qB, qC, qD, qE, qF, qG, qH] at h) <;> (first | (exfalso; first | omega | exact h trivial) | (conv => whnf))) | (refine  CallX.mk _ _ (by exact cM) ?_; conv => whnf) | (refine .mk (by first | omega | (unfold roomOK; simp [cutRows]; done) | (unfold roomOK; simp [cutRows]; omega) | (simp [cutRows]; done) | (simp [cutRows]; omega)) ?_; conv => whnf) | (refine idx_at _ (by with_reducible rfl) (by first | assumption | omega) ?_; conv => whnf) | ((refine RowG.mk [.int .i64 0] (by rw [toN]; exact fill_get (mCap l o) d k hk) ?_); conv => whnf) | fail)
   simp only [toN]
   exact count_next () hk (by rw [wrap_succ hk (by omega), ← fill_set (mCap l o) d k hk]; rfl) trivial
  ·intro _ _
   rw [List.take_length, Nat.sub_self, List.replicate_zero, List.append_nil]
   have hMm : ((d.map (mCap l o)).map encI).length = d.length := by simp
   have hsh : shV .shl .i64 1 (((Z.map encS).length : Nat) : Int) = ((2 ^ Z.length : Nat) : Int) := by
    unfold shV
    have e : min (((Z.map encS).length : Nat) : Int).toNat IntKind.i64.bits = Z.length := by rw [toN, hzm]; exact Nat.min_eq_left (Nat.le_trans hZl (by decide))
    simp only [e]
    rw [show ((1 : Int) * 2 ^ Z.length) = ((2 ^ Z.length : Nat) : Int) by rw [Int.one_mul]; push_cast; rfl]
    exact wrap_in (by omega) (by omega)
   conv => whnf
   repeat' (first | (refine CondG.mk (fun h => ?_) (fun h => ?_) <;> (try simp only [qA, qB, qC, qD, qE, qF, qG, qH] at h) <;> (first | (exfalso; first | omega | exact h trivial) | (conv => whnf))) | (refine .mk (by first | omega | (unfold roomOK; simp [cutRows]; done) | (unfold roomOK; simp [cutRows]; omega) | (simp [cutRows]; done) | (simp [cutRows]; omega)) ?_; conv => whnf) | fail)
   refine loop_for (2 ^ Z.length) [] [0, 2, 3, 11, 14, 17, 72, 73] (fun k (b : Int) => [(17, .c (.int .i64 b)), (73, .c (.int .i64 (k : Int)))]) (fun k (b : Int) => []) (fun k (b : Int) => BestM (mCap l o) d Z fr to k b ∧ -1 ≤ b ∧ b ≤ 120) (-1) ?_
   conv => whnf
   refine ⟨?_, ?_, ?_, ?_⟩
   ·rfl
   ·exact ⟨.inl ⟨rfl, fun m hm => by omega⟩, by omega, by omega⟩
   ·intro m b hm ⟨hB, hb1, hb2⟩
    have c1 := side_pc Z m fr hff hZl (by omega)
    have c2 := side_pc Z m to htt hZl (by omega)
    conv => whnf
    repeat' (first | (refine .mk (fun h => ?_) (fun h => ?_) <;> (try simp only [qA, qB, qC, qD, qE, qF, qG, qH] at h) <;> (first | (exfalso; first | omega | exact h trivial | contradiction | (simp_all [eqRes]; done)) | (conv => whnf))) | (refine  CallX.mk _ _ (by first | exact c1 | exact c2) ?_; conv => whnf) | fail)
    ·exact count_next b hm (by rw [wrap_succ hm (by omega)]; rfl) ⟨hB.skip (fun q => absurd q.1 (by rw [show sideM Z m fr = false from by assumption]; decide)), hb1, hb2⟩
    ·exact count_next b hm (by rw [wrap_succ hm (by omega)]; rfl) ⟨hB.skip (fun q => absurd q.2 (by rw [show sideM Z m to = true from by assumption]; decide)), hb1, hb2⟩
    have s1 : sideM Z m fr = true := by assumption
    have s2 : sideM Z m to = false := by assumption
    have hcb := fun j => cutK_nn (mCap l o) (sideM Z m) 20 (d.take j) (fun x _ => mCap_bd l o x) (by omega)
    have hcl : ∀ j, (d.take j).length ≤ 6 := fun j => by rw [List.length_take]; omega
    refine loop_for (d.length) [] [0, 2, 3, 11, 14, 17, 19, 20, 72, 73, 86, 87, 88] (fun j (_ : Unit) => [(20, .c (.int .i64 (cutK (mCap l o) (sideM Z m) (d.take j)))), (88, .c (.int .i64 (j : Int)))]) (fun j (_ : Unit) => []) (fun j (_ : Unit) => True) (()) ?_
    conv => whnf
    refine ⟨?_, (by trivial), ?_, ?_⟩
    ·rfl
    ·intro j _ hj _
     have hjm : d[j] ∈ d := List.getElem_mem hj
     have c3 := side_pc Z m d[j].a (hZa _ hjm).1 hZl (by omega)
     have c4 := side_pc Z m d[j].b (hZa _ hjm).2 hZl (by omega)
     have hcut := cutK_cap (mCap l o) (sideM Z m) d j hj
     have hb0 := hcb j
     have hl0 := hcl j
     have hcp := mCap_bd l o d[j]
     conv => whnf
     repeat' (first | (refine CondG.mk (fun h => ?_) (fun h => ?_) <;> (try simp only [qA, qB, qC, qD, qE, qF, qG, qH] at h) <;> (first | (exfalso; first | omega | exact h trivial) | (conv => whnf))) | (refine CallG.mk _ _ (by first | exact c3 | exact c4) ?_; conv => whnf) | (refine .mk (by first | omega | (unfold roomOK; simp [cutRows]; done) | (unfold roomOK; simp [cutRows]; omega) | (simp [cutRows]; done) | (simp [cutRows]; omega)) ?_; conv => whnf) | (refine idx_at _ (by with_reducible rfl) (by first | assumption | omega) ?_; conv => whnf) | ((refine RowG.mk [.int .i64 (mCap l o d[j])] (by rw [toN]; simp [hj, encI]) ?_); conv => whnf) | fail)
     ·have hne2 : ¬ sideM Z m d[j].a = sideM Z m d[j].b := by intro q; rw [q] at h; simp [eqRes] at h
      rw [if_neg hne2] at hcut
      have hwn : IntKind.i64.wrap (cutK (mCap l o) (sideM Z m) (d.take j) + mCap l o d[j]) = cutK (mCap l o) (sideM Z m) (d.take j) + mCap l o d[j] := wrap_in (by omega) (by omega)
      exact count_next () hj (by rw [wrap_succ hj (by omega), hwn, ← hcut]; rfl) trivial
     ·have heq2 : sideM Z m d[j].a = sideM Z m d[j].b := by
       apply Classical.byContradiction
       intro q
       cases e1 : sideM Z m d[j].a <;> cases e2 : sideM Z m d[j].b <;> simp_all [eqRes]
      rw [if_pos heq2, Int.add_zero] at hcut
      exact count_next () hj (by rw [wrap_succ hj (by omega), ← hcut]; rfl) trivial
    ·intro _ _
     rw [List.take_length]
     have hb0 := hcb d.length
     rw [List.take_length] at hb0
     conv => whnf
     repeat' (first | (refine .mk (fun h => ?_) (fun h => ?_) <;> (try simp only [qA, qB, qC, qD, qE, qF, qG, qH] at h) <;> (first | (exfalso; first | omega | exact h trivial) | (conv => whnf))) | fail)
     all_goals first
      | exact count_next (cutK (mCap l o) (sideM Z m) d) hm (by rw [wrap_succ hm (by omega)]; rfl) ⟨hB.put s1 s2 hb0.1 (by omega), by omega, by omega⟩
      | exact count_next b hm (by rw [wrap_succ hm (by omega)]; rfl) ⟨hB.keep (by omega) (by omega), hb1, hb2⟩
   ·intro b ⟨hB, _, _⟩
    conv => whnf
    repeat' (first | (refine CondG.mk (fun h => ?_) (fun h => ?_) <;> (try simp only [qA, qB, qC, qD, qE, qF, qG, qH] at h) <;> (first | (exfalso; first | omega | exact h trivial | contradiction | (simp_all [eqRes]; done)) | (conv => whnf))) | fail)
    exact .mk _ _ ⟨rfl, b, hB, rfl⟩ (.mk ⟨rfl, rfl⟩)
abbrev evSt : St2 → S := fun x => .agg [.int .i64 x.1, .str x.2]
def encSt (x : St2) : List V := [.int .i64 x.1, .str x.2]
theorem room_pc (e : Ed) (f : Int) (s : ByteArray) (h1 : -1000000000 ≤ f ∧ f ≤ 1000000000) (h2 : -1000000000 ≤ e.cap ∧ e.cap ≤ 1000000000) : PCp 104 [.agg (encEd e), .c (.int .i64 f), .c (.str s)] [] (.c (.int .i64 (roomE e f s))) [] := by
 have w1 : IntKind.i64.wrap (e.cap - f) = e.cap - f := wrap_in (by omega) (by omega)
 have w2 : IntKind.i64.wrap (e.cap + f) = e.cap + f := wrap_in (by omega) (by omega)
 refine fnP Tryz.func104 Tryz.results104 ?_
 conv => whnf
 repeat' (first | (refine CondG.mk (fun h => ?_) (fun h => ?_) <;> (try simp only [qA, qB, qC, qD, qE, qF, qG, qH] at h) <;> (first | (exfalso; first | omega | exact h trivial) | (conv => whnf))) | fail)
 ·exact .mk ⟨by rw [roomE, if_pos (strEqW.1 h), w1]; rfl, rfl⟩
 ·exact .mk ⟨by rw [roomE, if_neg (fun q => h (strEqW.2 q)), w2]; rfl, rfl⟩
abbrev e0E : Ed := ⟨⟨#[]⟩, ⟨#[]⟩, ⟨#[]⟩, 0, 0⟩
def rmS (E : List Ed) (f : List Int) (x : St2) : Int := roomE (E.getD x.1.toNat e0E) (f.getD x.1.toNat 0) x.2
theorem flow1_pc (E : List Ed) (f : List Int) (pf : Nat) (a b : St2) (hf : f.length = E.length) (ha : 0 ≤ a.1 ∧ a.1 < E.length) (hb : 0 ≤ b.1 ∧ b.1 < E.length)
  (hE : ∀ i (hi : i < E.length), (-1000000 ≤ f.getD i 0 ∧ f.getD i 0 ≤ 1000000) ∧ 0 ≤ E[i].cap ∧ E[i].cap ≤ 1000000) :
  PCp 102 [.agg (encSt a), .agg (encSt b), .c (.ptr 0 0), .c (.ptr 1 0)] [.box [.lst 5 (E.map encEd), .fn pf []], .box [.row 2], .row 3 1 (f.map encI)] (.c (.int .i64 (cmpI (rmS E f a) (rmS E f b)))) [.box [.lst 5 (E.map encEd), .fn pf []], .box [.row 2], .row 3 1 (f.map encI)] := by
 obtain ⟨ai, sa⟩ := a
 obtain ⟨bi, sb⟩ := b
 obtain ⟨i, rfl⟩ := Int.eq_ofNat_of_zero_le ha.1
 obtain ⟨j, rfl⟩ := Int.eq_ofNat_of_zero_le hb.1
 have hi : i < E.length := by omega
 have hj : j < E.length := by omega
 have hfi : i < f.length := by omega
 have hfj : j < f.length := by omega
 have qi := hE i hi
 have qj := hE j hj
 have gi : f.getD i 0 = f[i] := by simp [hfi]
 have gj : f.getD j 0 = f[j] := by simp [hfj]
 rw [gi] at qi
 rw [gj] at qj
 have c1 := room_pc E[i] f[i] sa (by omega) (by omega)
 have c2 := room_pc E[j] f[j] sb (by omega) (by omega)
 have e1 : rmS E f ((i : Int), sa) = roomE E[i] f[i] sa := by simp [rmS, hi, hfi]
 have e2 : rmS E f ((j : Int), sb) = roomE E[j] f[j] sb := by simp [rmS, hj, hfj]
 rw [e1, e2]
 refine fnP Tryz.func102 Tryz.results102 ?_
 conv => whnf
 repeat' (first | (refine CallG.mk _ _ (by first | exact c1 | exact c2 | exact cmpI_pc _ _) ?_; conv => whnf) | (refine .mk (by first | omega | (unfold roomOK; simp [cutRows]; done) | (unfold roomOK; simp [cutRows]; omega) | (simp [cutRows]; done) | (simp [cutRows]; omega)) ?_; conv => whnf) | (refine idx_at _ (by with_reducible rfl) (by first | assumption | omega) ?_; conv => whnf) | ((with_reducible refine row_map (by first | assumption | omega) ?_); conv => whnf) | fail)
 exact fini rfl
def minS (c : St2 → Int) : St2 → List St2 → St2
 | m, [] => m
 | m, y :: r => minS c (if c y < c m then y else m) r
theorem minS_mem (c : St2 → Int) : ∀ (l : List St2) (m : St2), minS c m l ∈ m :: l
 | [], m => by simp [minS]
 | y :: r, m => by
  have h := minS_mem c r (if c y < c m then y else m)
  rw [minS]
  split at h
  ·rename_i q
   rw [if_pos q]
   exact List.mem_cons_of_mem _ h
  ·rename_i q
   rw [if_neg q]
   rcases List.mem_cons.1 h with e | e
   ·rw [e]; exact List.mem_cons_self ..
   ·exact List.mem_cons_of_mem _ (List.mem_cons_of_mem _ e)
theorem minS_le (c : St2 → Int) : ∀ (l : List St2) (m : St2), ∀ y ∈ m :: l, c (minS c m l) ≤ c y
 | [], m, y, hy => by
  rw [List.mem_singleton] at hy
  subst hy
  exact Int.le_refl _
 | z :: r, m, y, hy => by
  have h := minS_le c r (if c z < c m then z else m)
  rw [minS]
  have h0 := h _ (List.mem_cons_self ..)
  rcases List.mem_cons.1 hy with rfl | hy
  ·split at h0 <;> rename_i q
   ·rw [if_pos q] at *; omega
   ·rw [if_neg q] at *; exact h0
  ·rcases List.mem_cons.1 hy with rfl | hy
   ·split at h0 <;> rename_i q
    ·rw [if_pos q] at *; exact h0
    ·rw [if_neg q] at *; omega
   ·exact h y (List.mem_cons_of_mem _ hy)
theorem cmpI_neg {a b : Int} : cmpI a b < 0 ↔ a < b := by unfold cmpI; split <;> (try split) <;> omega
theorem minF_pc (E : List Ed) (f : List Int) (pf : Nat) (P : List St2) (hf : f.length = E.length) (h0 : 0 < P.length) (hl : P.length ≤ 100000) (hv : ∀ x ∈ P, 0 ≤ x.1 ∧ x.1 < E.length)
  (hE : ∀ i (hi : i < E.length), (-1000000 ≤ f.getD i 0 ∧ f.getD i 0 ≤ 1000000) ∧ 0 ≤ E[i].cap ∧ E[i].cap ≤ 1000000) :
  PCp 101 [.c (.lst 2 (P.map encSt)), .c (.fn 102 [.ptr 0 0, .ptr 1 0])] [.box [.lst 5 (E.map encEd), .fn pf []], .box [.row 2], .row 3 1 (f.map encI)] (.agg (encSt (minS (rmS E f) P[0] (P.drop 1)))) [.box [.lst 5 (E.map encEd), .fn pf []], .box [.row 2], .row 3 1 (f.map encI)] := by
 have hPm : (P.map encSt).length = P.length := List.length_map ..
 refine fnP Tryz.func101 Tryz.results101 ?_
 conv => whnf
 repeat' (first | (refine CondG.mk (fun h => ?_) (fun h => ?_) <;> (try simp only [qA, qB, qC, qD, qE, qF, qG, qH] at h) <;> (first | (exfalso; first | omega | exact h trivial) | (conv => whnf))) | fail)
 refine idx_at 0 rfl h0 ?_
 conv => whnf
 skip
 refine loop_for (P.length - 1) [] [0, 1, 4, 5, 6] (fun k (m : St2) => [(6, .c (.int .i64 ((k : Int) + 1)))]) (fun k (m : St2) => [(4, .box (encSt m))]) (fun k (m : St2) => m ∈ P ∧ minS (rmS E f) m (P.drop (k + 1)) = minS (rmS E f) P[0] (P.drop 1)) (P[0]) ?_
 conv => whnf
 refine ⟨?_, ?_, ?_, ?_⟩
 ·rfl
 ·exact ⟨List.getElem_mem _, rfl⟩
 ·intro k m hk ⟨hm, hi⟩
  have c1 := flow1_pc E f pf P[k + 1] m hf (hv _ (List.getElem_mem _)) (hv _ hm) hE
  have hk1 : k + 1 < P.length := by omega
  have hd : P.drop (k + 1) = P[k + 1] :: P.drop (k + 1 + 1) := (List.getElem_cons_drop ..).symm
  have hw : IntKind.i64.wrap ((k : Int) + 1 + 1) = ((k + 1 : Nat) : Int) + 1 := by rw [wrap_in (by omega) (by omega)]; push_cast; rfl
  rw [hd, minS] at hi
  conv => whnf
  repeat' (first | (refine CondG.mk (fun h => ?_) (fun h => ?_) <;> (try simp only [qA, qB, qC, qD, qE, qF, qG, qH] at h) <;> (first | (exfalso; first | omega | exact h trivial) | (conv => whnf))) | fail)
  refine idx_at (k + 1) rfl hk1 ?_
  conv => whnf
  repeat' (first | (refine CondG.mk (fun h => ?_) (fun h => ?_) <;> (try simp only [qA, qB, qC, qD, qE, qF, qG, qH] at h) <;> (first | (exfalso; first | omega | exact h trivial) | (conv => whnf))) | (refine CallG.mk _ _ (by exact c1) ?_; conv => whnf) | fail)
  ·refine idx_at (k + 1) rfl hk1 ?_
   conv => whnf
   skip
   have h9 : rmS E f P[k + 1] < rmS E f m := cmpI_neg.1 (by assumption)
   rw [if_pos h9] at hi
   exact count_next P[k + 1] hk (by rw [hw]; rfl) ⟨List.getElem_mem _, hi⟩
  ·have h9 : ¬ rmS E f P[k + 1] < rmS E f m := fun q => absurd (cmpI_neg.2 q) (by assumption)
   rw [if_neg h9] at hi
   exact count_next m hk (by rw [hw]; rfl) ⟨hm, hi⟩
 ·intro m ⟨hm, hi⟩
  rw [show P.length - 1 + 1 = P.length by omega, List.drop_length, minS] at hi
  have hlw : ((P.length - 1 : Nat) : Int) + 1 = (P.length : Int) := by omega
  conv => whnf
  repeat' (first | (refine CondG.mk (fun h => ?_) (fun h => ?_) <;> (try simp only [qA, qB, qC, qD, qE, qF, qG, qH] at h) <;> (first | (exfalso; first | omega | exact h trivial) | (conv => whnf))) | fail)
  exact .mk ⟨by rw [← hi]; rfl, rfl⟩
def TodoV (x : V) (R : List (List V)) (L : List ByteArray) : Prop := (x = .row 3 ∧ R = L.map encS) ∨ ∃ o, x = .vw 3 1 o (R.length - o) ∧ o ≤ R.length ∧ R.drop o = L.map encS
theorem Bfs.len {E : List Ed} {f : List Int} {fr : ByteArray} {Q : List ByteArray} {came : SMt} (h : Bfs E f fr Q came) : Q.length ≤ 2 * E.length + 1 := by
 rw [← sitesE_len E fr]
 refine nodup_sub_len h.nd fun x hx => ?_
 obtain ⟨j, hj, rfl⟩ := List.mem_iff_getElem.1 hx
 rcases Nat.eq_zero_or_pos j with rfl | h0
 ·have := h.hd
  rw [List.getElem?_eq_getElem hj] at this
  rw [Option.some.inj this]
  exact List.mem_cons_self ..
 ·obtain ⟨i, hi, q, hq, _, h2, h3, _⟩ := h.step j hj h0
  have hm := sitesE_mem (to := fr) E[i] (List.getElem_mem hi)
  rw [← h3]
  unfold Ed.oth
  split
  ·exact hm.2
  ·exact hm.1
structure BfsE (E : List Ed) (f : List Int) (fr a : ByteArray) (p k : Nat) (came : SMt) (Q : List ByteArray) (R : List (List V)) (o : Nat) : Prop where
 b : Bfs E f fr Q came
 seen : Seen E f Q p
 here : ∃ hp : p < Q.length, Q[p] = a
 part : ∀ i (hi : i < E.length), i < k → E[i].at a → roomE E[i] (f.getD i 0) a ≠ 0 → E[i].oth a ∈ Q
 ho : o ≤ R.length
 hR : R.drop o = (Q.drop (p + 1)).map encS
 h1 : 1 ≤ R.length
 h2 : R.length ≤ Q.length
section
variable {E : List Ed} {f : List Int} {fr a : ByteArray} {p k : Nat} {came : SMt} {Q : List ByteArray} {R : List (List V)} {o : Nat}
theorem BfsE.skip (h : BfsE E f fr a p k came Q R o) (hk : k < E.length) (hs : E[k].at a → roomE E[k] (f.getD k 0) a ≠ 0 → E[k].oth a ∈ Q) : BfsE E f fr a p (k + 1) came Q R o :=
 ⟨h.b, h.seen, h.here, fun i hi hik h1 h2 => by
  rcases Nat.lt_succ_iff_lt_or_eq.1 hik with q | rfl
  ·exact h.part i hi q h1 h2
  ·exact hs h1 h2, h.ho, h.hR, h.h1, h.h2⟩
theorem BfsE.add (h : BfsE E f fr a p k came Q R o) (hk : k < E.length) (hat : E[k].at a) (hr : roomE E[k] (f.getD k 0) a ≠ 0) (hn : E[k].oth a ∉ Q) {R' : List (List V)} {o' : Nat} (ho : o' ≤ R'.length) (hR : R'.drop o' = R.drop o) (hl : R'.length ≤ R.length) :
  BfsE E f fr a p (k + 1) (came.put (E[k].oth a) ((k : Int), a)) (Q ++ [E[k].oth a]) (R' ++ [encS (E[k].oth a)]) o' := by
 obtain ⟨hp, rfl⟩ := h.here
 have h2 := h.h2
 refine ⟨h.b.more hp hk hat hr hn, ?_, ⟨by simp; omega, by rw [List.getElem_append_left hp]⟩, ?_, by simp; omega, ?_, by simp, by simp; omega⟩
 ·intro j hj hjp i hi q1 q2
  rw [List.getElem_append_left (by omega)] at q1 q2 ⊢
  exact List.mem_append_left _ (h.seen j (by omega) hjp i hi q1 q2)
 ·intro i hi hik q1 q2
  rcases Nat.lt_succ_iff_lt_or_eq.1 hik with q | rfl
  ·exact List.mem_append_left _ (h.part i hi q q1 q2)
  ·exact List.mem_append_right _ (by simp)
 ·rw [List.drop_append_of_le_length ho, hR, h.hR, List.drop_append_of_le_length (by omega), List.map_append]; rfl
theorem BfsE.over (h : BfsE E f fr a p E.length came Q R o) : Bfs E f fr Q came ∧ Seen E f Q (p + 1) ∧ p + 1 ≤ Q.length ∧ 1 ≤ R.length ∧ R.length ≤ Q.length ∧ TodoV (.vw 3 1 o (R.length - o)) R (Q.drop (p + 1)) := by
 obtain ⟨hp, rfl⟩ := h.here
 refine ⟨h.b, ?_, hp, h.h1, h.h2, .inr ⟨o, rfl, h.ho, h.hR⟩⟩
 intro j hj hjp i hi q1 q2
 rcases Nat.lt_succ_iff_lt_or_eq.1 hjp with q | rfl
 ·exact h.seen j hj q i hi q1 q2
 ·exact h.part i hi hi q1 q2
end
theorem gMore_pc (E : List Ed) (f : List Int) (fr to : ByteArray) (pf : Nat) (hpf : ∀ s : ByteArray, PCp pf [.c (.str s)] [] (.c (.bool true)) []) (hE : EdsOk E) (hl : E.length ≤ 1000) (hf : f.length = E.length)
  (hb : ∀ i (hi : i < E.length), (-1000000 ≤ f.getD i 0 ∧ f.getD i 0 ≤ 1000000) ∧ 0 ≤ E[i].cap ∧ E[i].cap ≤ 1000000) :
  PCq 100 [gphS E pf, .c (.row 0), .c (.str fr), .c (.str to)] [.row 3 1 (f.map encI)] fun r os => os = [.row 3 1 (f.map encI)] ∧ ∃ Q came, Bfs E f fr Q came ∧ Seen E f Q Q.length ∧ ((to ∉ Q ∧ r = .c .nils) ∨ (to ∈ Q ∧ ∃ P, Bk came fr to P ∧ r = .c (.lst 2 (P.map encSt)))) := by
 have hEm : (E.map encEd).length = E.length := List.length_map ..
 have hfm : (f.map encI).length = E.length := by rw [List.length_map, hf]
 have hb0 := Bfs.begin E f fr (0, ⟨#[]⟩)
 refine fnPX Tryz.func100 Tryz.results100 ?_
 conv => whnf
 skip
 refine sm_upd (ek := ekS) (ev := evSt) keyStr SM.nil fr (0, ⟨#[]⟩) ?_
 conv => whnf
 skip
 refine loop_while4 (fun (came : SMt) (Q : List ByteArray) (p : Nat) (y : V × List (List V)) => 2 * E.length + 2 - p) [] [1, 2, 3, 4, 9, 10] (fun (came : SMt) (Q : List ByteArray) (p : Nat) (y : V × List (List V)) => [(10, .c y.1)]) (fun (came : SMt) (Q : List ByteArray) (p : Nat) (y : V × List (List V)) => [(2, smO ekS evSt came), (3, .row 9 1 y.2)]) (fun (came : SMt) (Q : List ByteArray) (p : Nat) (y : V × List (List V)) => Bfs E f fr Q came ∧ Seen E f Q p ∧ p ≤ Q.length ∧ 1 ≤ y.2.length ∧ y.2.length ≤ Q.length ∧ TodoV y.1 y.2 (Q.drop p)) (SM.nil.put fr (0, ⟨#[]⟩)) ([fr]) (0) ((.row 3, [encS fr])) ?_
 conv => whnf
 refine ⟨?_, ?_, ?_⟩
 ·rfl
 ·exact ⟨hb0, fun j hj h => by omega, Nat.zero_le _, Nat.le_refl _, Nat.le_refl _, .inl ⟨rfl, rfl⟩⟩
 ·intro came Q p ⟨x, R⟩ ⟨h1, h2, h3, h5, h6, h4⟩
  simp only at h4 h5 h6
  have hdl : (Q.drop p).length = Q.length - p := List.length_drop ..
  have hQl := h1.len
  rcases h4 with ⟨rfl, rfl⟩ | ⟨o, rfl, ho, hR⟩
  ·skip
   as_aux_lemma =>
    have hRm : ((Q.drop p).map encS).length = Q.length - p := by rw [List.length_map, hdl]
    dsimp only
    conv => whnf
    repeat' (first | (refine CondG.mk (fun h => ?_) (fun h => ?_) <;> (try simp only [decide_eq_true_eq, decide_eq_false_iff_not, Bool.not_eq_true', Bool.not_eq_false', beq_iff_eq, beq_eq_false_iff_ne] at h) <;> (first | (exfalso; first | omega | exact h trivial) | (conv => whnf))) | (refine .mk (by first | omega | (unfold roomOK; simp [cutRows]; done) | (unfold roomOK; simp [cutRows]; omega)) ?_; conv => whnf) | fail)
    ·have hp : p < Q.length := by omega
     have hg0 : (Q.drop p)[0]? = some Q[p] := by rw [List.getElem?_drop]; simp [hp]
     refine RowG.mk (encS Q[p]) (by rw [List.getElem?_map]; exact congrArg (Option.map encS) hg0) ?_
     conv => whnf
     refine .mk (by first | omega | (simp; done) | (simp; omega)) ?_
     conv => whnf
     refine .vw ?_
     conv => whnf
     have hini : BfsE E f fr Q[p] p 0 came Q ((Q.drop p).map encS) 1 := ⟨h1, h2, ⟨hp, rfl⟩, fun i hi h => by omega, by omega, by rw [← List.map_drop, List.drop_drop], by omega, by omega⟩
     repeat' (first | (refine .mk (fun h => ?_) (fun h => ?_) <;> (try simp only [qA, qB, qC, qD, qE, qF, qG, qH] at h) <;> (first | (exfalso; first | omega | exact h trivial) | (conv => whnf))) | (refine  CallX.mk _ _ (by exact hpf _) ?_; conv => whnf) | fail)
     ·rename_i h; cases h
     all_goals
      refine loop_for4 (E.length) [] [1, 2, 3, 4, 9, 10, 11, 46, 47, 48] (fun k (came : SMt) (Q' : List ByteArray) (R : List (List V)) (o : Nat) => [(10, .c (.vw 3 1 o (R.length - o))), (48, .c (.int .i64 (k : Int)))]) (fun k (came : SMt) (Q' : List ByteArray) (R : List (List V)) (o : Nat) => [(2, smO ekS evSt came), (3, .row 9 1 R)]) (fun k (came : SMt) (Q' : List ByteArray) (R : List (List V)) (o : Nat) => BfsE E f fr Q[p] p k came Q' R o) (came) (Q) ((Q.drop p).map encS) (1) ?_
      conv => whnf
      refine ⟨?_, ?_, ?_, ?_⟩
      ·rfl
      ·exact hini
      ·intro k came Q' R o hk hBE
       as_aux_lemma =>
        have hbk := hb k hk
        have hkf : k < f.length := by omega
        have hgf : f.getD k 0 = f[k] := by simp [hkf]
        have hrc := room_pc E[k] f[k] Q[p] (by omega) (by omega)
        have hho := hBE.ho
        have hh2 := hBE.h2
        have hhl := hBE.b.len
        have n1 : E[k].a.toList ≠ Q[p].toList → E[k].b.toList ≠ Q[p].toList → BfsE E f fr Q[p] p (k + 1) came Q' R o := fun q1 q2 => hBE.skip hk fun h => by
         rcases h with h | h
         ·exact absurd (strEqW.2 h) q1
         ·exact absurd (strEqW.2 h) q2
        have n2 : roomE E[k] f[k] Q[p] = 0 → BfsE E f fr Q[p] p (k + 1) came Q' R o := fun q => hBE.skip hk fun _ h => absurd (by rw [hgf]; exact q) h
        have n3 : (came.get (E[k].oth Q[p])).isSome = true → BfsE E f fr Q[p] p (k + 1) came Q' R o := fun q => hBE.skip hk fun _ _ => (hBE.b.mem _).1 q
        have n4 : E[k].at Q[p] → roomE E[k] f[k] Q[p] ≠ 0 → (came.get (E[k].oth Q[p])).isSome = false → ∀ (R' : List (List V)) (o' : Nat), o' ≤ R'.length → R'.drop o' = R.drop o → R'.length ≤ R.length → BfsE E f fr Q[p] p (k + 1) (came.put (E[k].oth Q[p]) ((k : Int), Q[p])) (Q' ++ [E[k].oth Q[p]]) (R' ++ [encS (E[k].oth Q[p])]) o' :=
         fun q1 q2 q3 R' o' g1 g2 g3 => hBE.add hk q1 (by rw [hgf]; exact q2) (fun hm => by rw [(hBE.b.mem _).2 hm] at q3; cases q3) g1 g2 g3
        conv => whnf
        repeat' (first | (refine .mk (fun h => ?_) (fun h => ?_) <;> (try simp only [qA, qB, qC, qD, qE, qF, qG, qH] at h) <;> (first | (exfalso; first | omega | exact h trivial) | (conv => whnf))) | (refine  CallX.mk _ _ (by first | exact other_pc _ _ | exact hrc) ?_; conv => whnf) | (refine CallG.mk _ _ (by exact hrc) ?_; conv => whnf) | (refine .mk (by first | omega | (unfold roomOK; simp [cutRows]; done) | (unfold roomOK; simp [cutRows]; omega) | (simp [cutRows]; done) | (simp [cutRows]; omega)) ?_; conv => whnf) | (refine idx_at _ (by with_reducible rfl) (by first | assumption | omega) ?_; conv => whnf) | ((with_reducible refine row_map (by first | assumption | omega) ?_); conv => whnf) | ((refine sm_look (ek := ekS) (ev := evSt) keyStr came (E[k].oth Q[p]) ((0, ⟨#[]⟩) : St2) rfl ?_); conv => whnf) | ((refine sm_upd (ek := ekS) (ev := evSt) keyStr came (E[k].oth Q[p]) ((k : Int), Q[p]) ?_); conv => whnf) | fail)
        all_goals first
         | exact count_next (came, Q', R, o) hk (by rw [wrap_succ hk (by omega)]; rfl) (by first | exact n1 (by assumption) (by assumption) | exact n2 (by assumption) | exact n3 (by assumption))
         | skip
        all_goals
         refine .out ⟨⟨by omega, rfl, ⟨hBE.h1, Nat.le_refl _⟩, by unfold roomOK; simp [cutRows]; omega⟩, fun o' R' q1 q2 q3 => ?_⟩
         conv => whnf
         have hq := n4 (by first | exact .inl (strEqW.1 (by assumption)) | exact .inr (strEqW.1 (by assumption))) (by assumption) (by assumption) R' o' q1 q2 q3.2
         have hle : (R' ++ [encS (E[k].oth Q[p])]).length - o' = R.length - o + 1 := by rw [List.length_append]; simp only [List.length_cons, List.length_nil]; omega
         exact count_next (came.put (E[k].oth Q[p]) ((k : Int), Q[p]), Q' ++ [E[k].oth Q[p]], R' ++ [encS (E[k].oth Q[p])], o') hk (by rw [wrap_succ hk (by omega)]; simp only [hle]; rfl) hq
      ·intro came Q' R o hBE
       have hov := hBE.over
       have hql := hov.1.len
       conv => whnf
       repeat' (first | (refine CondG.mk (fun h => ?_) (fun h => ?_) <;> (try simp only [qA, qB, qC, qD, qE, qF, qG, qH] at h) <;> (first | (exfalso; first | omega | exact h trivial) | (conv => whnf))) | fail)
       exact meas_next (came, Q', p + 1, (.vw 3 1 o (R.length - o), R)) (by show 2 * E.length + 2 - (p + 1) < 2 * E.length + 2 - p; omega) rfl hov
  ·skip
   as_aux_lemma =>
    dsimp only
    have hRl : R.length - o = Q.length - p := by
     have h8 := congrArg List.length hR
     rw [List.length_drop, List.length_map, hdl] at h8
     exact h8
    conv => whnf
    repeat' (first | (refine CondG.mk (fun h => ?_) (fun h => ?_) <;> (try simp only [decide_eq_true_eq, decide_eq_false_iff_not, Bool.not_eq_true', Bool.not_eq_false', beq_iff_eq, beq_eq_false_iff_ne] at h) <;> (first | (exfalso; first | omega | exact h trivial) | (conv => whnf))) | (refine .mk (by first | omega | (unfold roomOK; simp [cutRows]; done) | (unfold roomOK; simp [cutRows]; omega)) ?_; conv => whnf) | fail)
    ·have hp : p < Q.length := by omega
     have hg0 : R[o]? = some (encS Q[p]) := by
      have h8 : (R.drop o)[0]? = ((Q.drop p).map encS)[0]? := by rw [hR]
      rw [List.getElem?_drop, List.getElem?_map, List.getElem?_drop] at h8
      simpa [hp] using h8
     refine RowG.mk (encS Q[p]) hg0 ?_
     conv => whnf
     refine .mk (by first | omega | (simp; done) | (simp; omega)) ?_
     conv => whnf
     rw [show R.length - o - Int.toNat 1 = R.length - (o + 1) by show R.length - o - 1 = _; omega, show o + Int.toNat 1 = o + 1 from rfl]
     have hini : BfsE E f fr Q[p] p 0 came Q R (o + 1) := ⟨h1, h2, ⟨hp, rfl⟩, fun i hi h => by omega, by omega, by rw [← List.drop_drop, hR, ← List.map_drop, List.drop_drop], by omega, by omega⟩
     repeat' (first | (refine .mk (fun h => ?_) (fun h => ?_) <;> (try simp only [qA, qB, qC, qD, qE, qF, qG, qH] at h) <;> (first | (exfalso; first | omega | exact h trivial) | (conv => whnf))) | (refine  CallX.mk _ _ (by exact hpf _) ?_; conv => whnf) | fail)
     ·rename_i h; cases h
     all_goals
      refine loop_for4 (E.length) [] [1, 2, 3, 4, 9, 10, 11, 46, 47, 48] (fun k (came : SMt) (Q' : List ByteArray) (R : List (List V)) (o : Nat) => [(10, .c (.vw 3 1 o (R.length - o))), (48, .c (.int .i64 (k : Int)))]) (fun k (came : SMt) (Q' : List ByteArray) (R : List (List V)) (o : Nat) => [(2, smO ekS evSt came), (3, .row 9 1 R)]) (fun k (came : SMt) (Q' : List ByteArray) (R : List (List V)) (o : Nat) => BfsE E f fr Q[p] p k came Q' R o) (came) (Q) (R) (o + 1) ?_
      conv => whnf
      refine ⟨?_, ?_, ?_, ?_⟩
      ·rfl
      ·exact hini
      ·intro k came Q' R o hk hBE
       as_aux_lemma =>
        have hbk := hb k hk
        have hkf : k < f.length := by omega
        have hgf : f.getD k 0 = f[k] := by simp [hkf]
        have hrc := room_pc E[k] f[k] Q[p] (by omega) (by omega)
        have hho := hBE.ho
        have hh2 := hBE.h2
        have hhl := hBE.b.len
        have n1 : E[k].a.toList ≠ Q[p].toList → E[k].b.toList ≠ Q[p].toList → BfsE E f fr Q[p] p (k + 1) came Q' R o := fun q1 q2 => hBE.skip hk fun h => by
         rcases h with h | h
         ·exact absurd (strEqW.2 h) q1
         ·exact absurd (strEqW.2 h) q2
        have n2 : roomE E[k] f[k] Q[p] = 0 → BfsE E f fr Q[p] p (k + 1) came Q' R o := fun q => hBE.skip hk fun _ h => absurd (by rw [hgf]; exact q) h
        have n3 : (came.get (E[k].oth Q[p])).isSome = true → BfsE E f fr Q[p] p (k + 1) came Q' R o := fun q => hBE.skip hk fun _ _ => (hBE.b.mem _).1 q
        have n4 : E[k].at Q[p] → roomE E[k] f[k] Q[p] ≠ 0 → (came.get (E[k].oth Q[p])).isSome = false → ∀ (R' : List (List V)) (o' : Nat), o' ≤ R'.length → R'.drop o' = R.drop o → R'.length ≤ R.length → BfsE E f fr Q[p] p (k + 1) (came.put (E[k].oth Q[p]) ((k : Int), Q[p])) (Q' ++ [E[k].oth Q[p]]) (R' ++ [encS (E[k].oth Q[p])]) o' :=
         fun q1 q2 q3 R' o' g1 g2 g3 => hBE.add hk q1 (by rw [hgf]; exact q2) (fun hm => by rw [(hBE.b.mem _).2 hm] at q3; cases q3) g1 g2 g3
        conv => whnf
        repeat' (first | (refine .mk (fun h => ?_) (fun h => ?_) <;> (try simp only [qA, qB, qC, qD, qE, qF, qG, qH] at h) <;> (first | (exfalso; first | omega | exact h trivial) | (conv => whnf))) | (refine  CallX.mk _ _ (by first | exact other_pc _ _ | exact hrc) ?_; conv => whnf) | (refine CallG.mk _ _ (by exact hrc) ?_; conv => whnf) | (refine .mk (by first | omega | (unfold roomOK; simp [cutRows]; done) | (unfold roomOK; simp [cutRows]; omega) | (simp [cutRows]; done) | (simp [cutRows]; omega)) ?_; conv => whnf) | (refine idx_at _ (by with_reducible rfl) (by first | assumption | omega) ?_; conv => whnf) | ((with_reducible refine row_map (by first | assumption | omega) ?_); conv => whnf) | ((refine sm_look (ek := ekS) (ev := evSt) keyStr came (E[k].oth Q[p]) ((0, ⟨#[]⟩) : St2) rfl ?_); conv => whnf) | ((refine sm_upd (ek := ekS) (ev := evSt) keyStr came (E[k].oth Q[p]) ((k : Int), Q[p]) ?_); conv => whnf) | fail)
        all_goals first
         | exact count_next (came, Q', R, o) hk (by rw [wrap_succ hk (by omega)]; rfl) (by first | exact n1 (by assumption) (by assumption) | exact n2 (by assumption) | exact n3 (by assumption))
         | skip
        all_goals
         refine .out ⟨⟨by omega, rfl, ⟨hBE.h1, Nat.le_refl _⟩, by unfold roomOK; simp [cutRows]; omega⟩, fun o' R' q1 q2 q3 => ?_⟩
         conv => whnf
         have hq := n4 (by first | exact .inl (strEqW.1 (by assumption)) | exact .inr (strEqW.1 (by assumption))) (by assumption) (by assumption) R' o' q1 q2 q3.2
         have hle : (R' ++ [encS (E[k].oth Q[p])]).length - o' = R.length - o + 1 := by rw [List.length_append]; simp only [List.length_cons, List.length_nil]; omega
         exact count_next (came.put (E[k].oth Q[p]) ((k : Int), Q[p]), Q' ++ [E[k].oth Q[p]], R' ++ [encS (E[k].oth Q[p])], o') hk (by rw [wrap_succ hk (by omega)]; simp only [hle]; rfl) hq
      ·intro came Q' R o hBE
       have hov := hBE.over
       have hql := hov.1.len
       conv => whnf
       repeat' (first | (refine CondG.mk (fun h => ?_) (fun h => ?_) <;> (try simp only [qA, qB, qC, qD, qE, qF, qG, qH] at h) <;> (first | (exfalso; first | omega | exact h trivial) | (conv => whnf))) | fail)
       exact meas_next (came, Q', p + 1, (.vw 3 1 o (R.length - o), R)) (by show 2 * E.length + 2 - (p + 1) < 2 * E.length + 2 - p; omega) rfl hov
    ·have hpe : p = Q.length := by omega
     subst hpe
     repeat' (first | (refine CondG.mk (fun h => ?_) (fun h => ?_) <;> (try simp only [qA, qB, qC, qD, qE, qF, qG, qH] at h) <;> (first | (exfalso; first | omega | exact h trivial) | (conv => whnf))) | ((refine sm_look (ek := ekS) (ev := evSt) keyStr came to ((0, ⟨#[]⟩) : St2) rfl ?_); conv => whnf) | fail)
     ·have hto : to ∉ Q := fun hm => by
       have h8 := (h1.mem to).2 hm
       have h9 : (came.get to).isSome = false := by assumption
       rw [h8] at h9; cases h9
      exact .mk _ _ ⟨rfl, Q, came, h1, h2, .inl ⟨hto, rfl⟩⟩ (.mk ⟨rfl, rfl⟩)
     ·have hto : to ∈ Q := (h1.mem to).1 (by assumption)
      obtain ⟨j0, hj0, hjt⟩ := List.mem_iff_getElem.1 hto
      refine loop_while3 (fun (t : ByteArray) (j : Nat) (P : List St2) => j) [.sl 19 142 2] [2, 9, 19, 20] (fun (t : ByteArray) (j : Nat) (P : List St2) => [(20, .c (.str t))]) (fun (t : ByteArray) (j : Nat) (P : List St2) => [(2, .row 142 2 (P.map encSt))]) (fun (t : ByteArray) (j : Nat) (P : List St2) => Q[j]? = some t ∧ P.length + j ≤ Q.length ∧ (∀ P', Bk came fr t P' → Bk came fr to (P ++ P'))) (to) (j0) ([]) ?_
      conv => whnf
      refine ⟨?_, ?_, ?_⟩
      ·rfl
      ·exact ⟨by rw [List.getElem?_eq_getElem hj0, hjt], by simp; omega, fun P' h => h⟩
      ·intro t j P ⟨ht, hPl, hbk⟩
       obtain ⟨hjl, htj⟩ := List.getElem?_eq_some_iff.1 ht
       have htm : (came.get t).isSome = true := (h1.mem t).2 (by rw [← htj]; exact List.getElem_mem hjl)
       obtain ⟨x, hx⟩ := Option.isSome_iff_exists.1 htm
       have hxd : (came.get t).getD (0, ⟨#[]⟩) = x := by rw [hx]; rfl
       have hPm : (P.map encSt).length = P.length := List.length_map ..
       conv => whnf
       repeat' (first | (refine CondG.mk (fun h => ?_) (fun h => ?_) <;> (try simp only [qA, qB, qC, qD, qE, qF, qG, qH] at h) <;> (first | (exfalso; first | omega | exact h trivial) | (conv => whnf))) | (refine AppG.mk (by first | omega | (unfold roomOK; simp [cutRows]; done) | (unfold roomOK; simp [cutRows]; omega) | (simp [cutRows]; done) | (simp [cutRows]; omega)) ?_; conv => whnf) | ((refine sm_look (ek := ekS) (ev := evSt) keyStr came t ((0, ⟨#[]⟩) : St2) rfl ?_); conv => whnf) | fail)
       ·have hne : t ≠ fr := fun q => absurd (strEqW.2 q) (by assumption)
        obtain ⟨j', q, hj', hq, e1, e2⟩ := h1.index hne hx
        have hjj : j' = j := (List.getElem_inj h1.nd).1 (e1.trans htj.symm)
        subst hjj
        have hql : q < Q.length := by omega
        have hPx : (P ++ [x]).length + q ≤ Q.length := by rw [List.length_append]; simp only [List.length_cons, List.length_nil]; omega
        have hQq : Q[q]? = some x.2 := by rw [List.getElem?_eq_getElem hql, e2]
        exact meas_next (x.2, q, P ++ [x]) (by show q < j'; omega) (by rw [hxd, List.map_append]; rfl) ⟨hQq, hPx, fun P' h => by rw [List.append_assoc]; exact hbk _ (.cons hne hx h)⟩
       ·have hst : t = fr := strEqW.1 (by assumption)
        subst hst
        refine .mk _ _ ⟨rfl, Q, came, h1, h2, .inr ⟨hto, P, by have := hbk [] .nil; rwa [List.append_nil] at this, rfl⟩⟩ (.frz 1 _ _ _ rfl (.weak [_] (.fro 1 _ _ rfl) rfl (Nat.le_refl _)))
section
variable {gl : Nat → Int} {n : Nat} {us : List ByteArray} {g : CM} {S : List ByteArray}
end
def mostCap (l : List Ly) (outer : Int) (x : Du) : Int := ((mostV x.inner (outV l x.key) outer (20 - (outV l x.key).length) : Nat) : Int)
theorem augS_app (E : List Ed) (n : Int) : ∀ (P P' : List St2) (f : List Int), augS E n (P ++ P') f = augS E n P' (augS E n P f)
 | [], _, _ => rfl
 | x :: P, P', f => by rw [List.cons_append, augS, augS_app E n P, augS]
theorem augS_step {E : List Ed} {n : Int} {P : List St2} {f : List Int} {i : Nat} {s : ByteArray} {k : Nat} (hk : k < P.length) (hP : P[k] = ((i : Int), s)) (hi : i < E.length) : augS E n (P.take (k + 1)) f = (augS E n (P.take k) f).set i ((augS E n (P.take k) f).getD i 0 + (if E[i].a = s then n else -n)) := by
 rw [List.take_succ_eq_append_getElem hk, augS_app, hP]
 have hEi : E.getD i ⟨⟨#[]⟩, ⟨#[]⟩, ⟨#[]⟩, 0, 0⟩ = E[i] := by simp [hi]
 simp only [augS, Int.toNat_natCast, hEi]
theorem augS_same {E : List Ed} {n : Int} {P : List St2} {f : List Int} {i k : Nat} {s : ByteArray} (hk : k < P.length) (hP : P[k] = ((i : Int), s)) (hnd : (P.map (·.1)).Nodup) (hp : ∀ x ∈ P, 0 ≤ x.1) : (augS E n (P.take k) f).getD i 0 = f.getD i 0 := by
 rw [List.getD_eq_getElem?_getD, List.getD_eq_getElem?_getD, augS_other E n (P.take k) f i ?_ (fun x hx => hp x (List.mem_of_mem_take hx))]
 intro hm
 rw [List.map_take] at hm
 obtain ⟨j, hj, e⟩ := List.mem_iff_getElem.1 hm
 rw [List.length_take, List.length_map] at hj
 rw [List.getElem_take] at e
 have hk2 : k < (P.map (·.1)).length := by simpa using hk
 have e2 : (P.map (·.1))[k] = (i : Int) := by rw [List.getElem_map, hP]
 have := (List.getElem_inj hnd).1 (e.trans e2.symm)
 omega
theorem cutC_le (C : ByteArray → Bool) : ∀ E : List Ed, (∀ e ∈ E, 0 ≤ e.cap ∧ e.cap ≤ 1000000) → cutC C E ≤ 1000000 * (E.length : Int)
 | [], _ => by simp [cutC]
 | e :: r, h => by
  have ih := cutC_le C r (fun x hx => h x (by simp [hx]))
  have he := h e (by simp)
  simp only [cutC, List.length_cons]
  push_cast
  split <;> omega
theorem gFlow_pc (E : List Ed) (fr to : ByteArray) (pf : Nat) (hpf : ∀ s : ByteArray, PCp pf [.c (.str s)] [] (.c (.bool true)) []) (hE : EdsOk E) (hl : E.length ≤ 1000) (hne : fr ≠ to) (hc : ∀ e ∈ E, 0 ≤ e.cap ∧ e.cap ≤ 1000000) :
  PCq 51 [gphS E pf, .c (.str fr), .c (.str to)] [] fun r os => os = [] ∧ ∃ n, MinCut E fr to n ∧ r = .c (.int .i64 n) := by
 have hc0 : ∀ e ∈ E, 0 ≤ e.cap := fun e he => (hc e he).1
 have hcut : ∀ f sum, Feas E fr to f sum → sum ≤ cutC (fun s => decide (s = fr)) E := fun f sum h => h.le hc0 _ (by simp) (by simp [Ne.symm hne])
 have hCb := cutC_le (fun s => decide (s = fr)) E hc
 generalize cutC (fun s => decide (s = fr)) E = C at *
 have hEm : (E.map encEd).length = E.length := List.length_map ..
 have hF0 := Feas.begin hc0 fr to
 refine fnPX Tryz.func51 Tryz.results51 ?_
 conv => whnf
 repeat' (first | (refine .mk (by first | omega | (unfold roomOK; simp [cutRows]; done) | (unfold roomOK; simp [cutRows]; omega) | (simp [cutRows]; done) | (simp [cutRows]; omega)) ?_; conv => whnf) | fail)
 refine loop_while2 (fun (f : List Int) (sum : Int) => (C - sum).toNat) [] [1, 2, 3, 7, 8] (fun (f : List Int) (sum : Int) => [(8, .c (.int .i64 sum))]) (fun (f : List Int) (sum : Int) => [(2, .row 3 1 (f.map encI))]) (fun (f : List Int) (sum : Int) => Feas E fr to f sum ∧ 0 ≤ sum) (List.replicate E.length 0) (0) ?_
 conv => whnf
 refine ⟨?_, ?_, ?_⟩
 ·simp only [List.map_replicate, hEm, Int.toNat_natCast]
  rfl
 ·exact ⟨hF0, Int.le_refl _⟩
 ·intro f sum ⟨hF, h0⟩
  have hs := hcut f sum hF
  have hfm : (f.map encI).length = E.length := by rw [List.length_map, hF.len]
  have hfl := hF.len
  have hb : ∀ i (hi : i < E.length), (-1000000 ≤ f.getD i 0 ∧ f.getD i 0 ≤ 1000000) ∧ 0 ≤ E[i].cap ∧ E[i].cap ≤ 1000000 := fun i hi => by
   have h1 := hF.in_ i hi (by omega)
   have h2 := hc _ (List.getElem_mem hi)
   have h3 : f.getD i 0 = f[i] := by simp [show i < f.length by omega]
   rw [h3]
   exact ⟨⟨by omega, by omega⟩, h2⟩
  conv => whnf
  refine .ex _ (gMore_pc E f fr to pf hpf hE hl hF.len hb) ?_
  rintro _ _ ⟨rfl, Q, came, hB, hS, ⟨hto, rfl⟩ | ⟨hto, P, hP, rfl⟩⟩
  ·conv => whnf
   skip
   exact .mk _ _ ⟨rfl, sum, flow_done hF hB hS hto hE hc0, rfl⟩ (.mk ⟨rfl, rfl⟩)
  ·obtain ⟨hPl, hroom⟩ := way_room hF hB hE hP hto
   have hQl := hB.len
   have hP0 : 0 < P.length := by
    cases hP with
    | nil => exact absurd rfl hne
    | cons => simp
   have hv : ∀ x ∈ P, 0 ≤ x.1 ∧ x.1 < E.length := fun x hx => by obtain ⟨i, hi, e, _⟩ := hroom x hx; omega
   have cM := minF_pc E f pf P hF.len hP0 (by omega) hv hb
   have hmem := minS_mem (rmS E f) (P.drop 1) P[0]
   have hmin := minS_le (rmS E f) (P.drop 1) P[0]
   have hcons : P[0] :: P.drop 1 = P := by rw [List.getElem_cons_drop]; rfl
   rw [hcons] at hmem hmin
   generalize minS (rmS E f) P[0] (P.drop 1) = x at *
   obtain ⟨i, hi, e1, hat, hr1, hr2⟩ := hroom x hmem
   obtain ⟨xi, xs⟩ := x
   simp only at e1 hat hr1 hr2
   subst e1
   have hfi : i < f.length := by omega
   have hfd : f.getD i 0 = f[i] := by simp [hfi]
   have hbi := hb i hi
   have cR := room_pc E[i] f[i] xs (by omega) (by omega)
   rw [show roomE E[i] f[i] xs = roomE E[i] (f.getD i 0) xs by rw [hfd]] at cR
   have hrx : rmS E f ((i : Int), xs) = roomE E[i] (f.getD i 0) xs := by simp [rmS, hi]
   rw [hrx] at hmin
   have hgl : ∀ y ∈ P, ∀ j (hj : j < E.length), y.1 = (j : Int) → roomE E[i] (f.getD i 0) xs ≤ roomE E[j] (f.getD j 0) y.2 := fun y hy j hj e => by
    have h1 := hmin y hy
    have h2 : rmS E f y = roomE E[j] (f.getD j 0) y.2 := by simp [rmS, e, hj]
    rw [h2] at h1; exact h1
   generalize hn : roomE E[i] (f.getD i 0) xs = n at *
   have hF2 := feas_aug hF hB hE hP hto (by omega) hgl
   have hs2 := hcut _ _ hF2
   have hnd : (P.map (·.1)).Nodup := by
    obtain ⟨j, hj, e⟩ := List.mem_iff_getElem.1 hto
    subst e
    exact (hB.back hE (j + 1) j hj (Nat.lt_succ_self _) P hP).1.nd
   have hPm : (P.map encSt).length = P.length := List.length_map ..
   have hPz : P.map encSt ≠ [] := fun q => by rw [q] at hPm; simp at hPm; omega
   conv => whnf
   refine ⟨fun q => absurd q hPz, ?_⟩
   conv => whnf
   repeat' (first | (refine  CallX.mk _ _ (by exact cM) ?_; conv => whnf) | (refine CallG.mk _ _ (by first | exact cM | exact cR) ?_; conv => whnf) | (refine .mk (by first | omega | (unfold roomOK; simp [cutRows]; done) | (unfold roomOK; simp [cutRows]; omega) | (simp [cutRows]; done) | (simp [cutRows]; omega)) ?_; conv => whnf) | (refine idx_at _ (by with_reducible rfl) (by first | assumption | omega) ?_; conv => whnf) | ((with_reducible refine row_map (by first | assumption | omega) ?_); conv => whnf) | fail)
   refine loop_for (P.length) [] [1, 2, 3, 7, 8, 11, 43, 44, 45] (fun k (_ : Unit) => [(45, .c (.int .i64 (k : Int)))]) (fun k (_ : Unit) => [(2, .row 3 1 ((augS E n (P.take k) f).map encI))]) (fun k (_ : Unit) => True) (()) ?_
   conv => whnf
   refine ⟨?_, (by trivial), ?_, ?_⟩
   ·rfl
   ·intro k _ hk _
    obtain ⟨i', hi', q1, q2, q3, q4⟩ := hroom P[k] (List.getElem_mem hk)
    have hPk : P[k] = ((i' : Int), P[k].2) := Prod.ext q1 rfl
    generalize P[k].2 = s at *
    have hst := augS_step (n := n) (f := f) hk hPk hi'
    have hsm := augS_same (E := E) (n := n) (f := f) hk hPk hnd (fun x hx => (hv x hx).1)
    have hgl' := augS_len E n (P.take k) f
    have hbi' := (hb i' hi').1
    rw [← hsm] at hbi'
    generalize augS E n (P.take k) f = g at *
    have hgm : (g.map encI).length = g.length := List.length_map ..
    have hgi : i' < g.length := by omega
    have hgd : g.getD i' 0 = g[i'] := by simp [hgi]
    rw [hgd] at hbi' hst
    have hcE := (hc _ (List.getElem_mem hi)).2
    conv => whnf
    repeat' (first | (refine CondG.mk (fun h => ?_) (fun h => ?_) <;> (try simp only [qA, qB, qC, qD, qE, qF, qG, qH] at h) <;> (first | (exfalso; first | omega | exact h trivial) | (conv => whnf))) | (refine idx_at _ (by with_reducible rfl) (by first | assumption | omega) ?_; conv => whnf) | fail)
    rw [hPk]
    refine idx_at i' rfl hi' ?_
    conv => whnf
    repeat' (first | (refine CondG.mk (fun h => ?_) (fun h => ?_) <;> (try simp only [qA, qB, qC, qD, qE, qF, qG, qH] at h) <;> (first | (exfalso; first | omega | exact h trivial) | (conv => whnf))) | (refine .mk (by first | omega | (unfold roomOK; simp [cutRows]; done) | (unfold roomOK; simp [cutRows]; omega) | (simp [cutRows]; done) | (simp [cutRows]; omega)) ?_; conv => whnf) | ((with_reducible refine row_map (by first | assumption | omega) ?_); conv => whnf) | fail)
    ·have hA : E[i'].a = s := strEqW.1 (by assumption)
     have hw : IntKind.i64.wrap (g[i'] + n) = g[i'] + n := wrap_in (by omega) (by omega)
     rw [if_pos hA] at hst
     exact count_next () hk (by rw [wrap_succ hk (by omega), hst, List.map_set, ← hw]; rfl) trivial
    ·have hA : ¬ E[i'].a = s := fun q => absurd (strEqW.2 q) (by assumption)
     have hw : IntKind.i64.wrap (g[i'] - n) = g[i'] + -n := by rw [wrap_in (by omega) (by omega)]; omega
     rw [if_neg hA] at hst
     exact count_next () hk (by rw [wrap_succ hk (by omega), hst, List.map_set, ← hw]; rfl) trivial
   ·intro _ _
    rw [List.take_length]
    conv => whnf
    repeat' (first | (refine CondG.mk (fun h => ?_) (fun h => ?_) <;> (try simp only [qA, qB, qC, qD, qE, qF, qG, qH] at h) <;> (first | (exfalso; first | omega | exact h trivial) | (conv => whnf))) | fail)
    exact meas_next (augS E n P f, sum + n) (by show (C - (sum + n)).toNat < (C - sum).toNat; omega) (by rw [wrap_in (by omega) (by omega)]; rfl) ⟨hF2, by omega⟩
theorem cap1_pc (d : List Du) (l : List Ly) (hok : LyOk d l) (outer : Int) (hq : 0 ≤ outer ∧ outer ≤ 1000) (x : Du) (hx : x ∈ d) : PCp 48 [.agg (encDu x), .c (.ptr 0 0), .c (.ptr 1 0)] [.box [.lst 3 (l.map encLy)], .box [.int .i64 outer]] (.c (.int .i64 (mostCap l outer x))) [.box [.lst 3 (l.map encLy)], .box [.int .i64 outer]] := by
 have hi := hok.du.each _ hx
 have hfew := hok.few _ hx
 have hol := outV_len l x.key
 have hll := hok.len
 refine fnP Tryz.func48 Tryz.results48 ?_
 conv => whnf
 repeat' (first | (refine CallG.mk _ _ (by first | exact dOuters_pc l (by omega) hok.rl x.key | exact dMost_pc x (outV l x.key) outer (by omega) (by omega) (hok.o1000 x.key) hq) ?_; conv => whnf) | fail)
 exact .mk ⟨rfl, rfl⟩
theorem mostV_le (inner : Int) (all : List Int) (outer : Int) : ∀ n, mostV inner all outer n ≤ n
 | 0 => Nat.le_refl _
 | n + 1 => by
  have := mostV_le inner all outer n
  rw [mostV]; split <;> omega
theorem capacity_pc (d : List Du) (l : List Ly) (h0 : lyFault d l = 0) (fr to : ByteArray) (outer : Int) (he : endsErr d fr to outer = 0) :
  PCq 11 [.c (.lst 5 (d.map encDu)), .c (.lst 3 (l.map encLy)), .c (.str fr), .c (.str to), .c (.int .i64 outer)] [] fun r os => os = [] ∧ ∃ n, MinCut (netE (mostCap l outer) d) fr to n ∧ r = .tup [.c (.int .i64 n), .c (.int .i64 0)] := by
 have hdu := du_of h0
 have hok := lyFault_ok h0
 obtain ⟨e1, e2, e3, e4⟩ := ends_ok he
 have hx : ∀ x ∈ l, x.ducts.length ≤ 1000000 := fun x hm => (hok.rl x hm).2
 have hdl := hok.du.len
 have c1 := checkLying_pc d l hx
 rw [h0] at c1
 have c3 := waysFault_pc d (by omega) fr to outer
 rw [he] at c3
 obtain ⟨n1, n2, n3⟩ := net_ok hdu (mostCap l outer)
 have hnl := net_len (mostCap l outer) d
 have c4 := network_pc 48 (mostCap l outer) d l outer (by omega) (fun x hx => cap1_pc d l hok outer ⟨by omega, by omega⟩ x hx)
 have hcap : ∀ e ∈ netE (mostCap l outer) d, 0 ≤ e.cap ∧ e.cap ≤ 1000000 := fun e hm => by
  obtain ⟨x, _, hp, rfl⟩ := net_mem hm
  refine ⟨Int.le_of_lt hp, ?_⟩
  show mostCap l outer x ≤ _
  unfold mostCap
  have := mostV_le x.inner (outV l x.key) outer (20 - (outV l x.key).length)
  omega
 refine fnPX Tryz.func11 Tryz.results11 ?_
 conv => whnf
 repeat' (first | (refine CondG.mk (fun h => ?_) (fun h => ?_) <;> (try simp only [qA, qB, qC, qD, qE, qF, qG, qH] at h) <;> (first | (exfalso; first | omega | exact h trivial | contradiction | (simp_all [eqRes]; done)) | (conv => whnf))) | (refine  CallX.mk _ _ (by first | exact c1 | exact c3 | exact c4) ?_; conv => whnf) | fail)
 refine .ex _ (gFlow_pc (netE (mostCap l outer) d) fr to 96 pass_pc n1 (by omega) e3 hcap) ?_
 rintro _ _ ⟨rfl, n, hM, rfl⟩
 conv => whnf
 skip
 exact .mk _ _ ⟨rfl, n, hM, rfl⟩ (.mk ⟨rfl, rfl⟩)
structure CntI (ds : List Du) (k : Nat) (M : SM ByteArray Int) : Prop where
 ok : M.ok
 get : ∀ t, M.get t = if atL ds k t = [] then none else some ((atL ds k t).length : Int)
theorem CntI.begin (ds : List Du) : CntI ds 0 SM.nil := ⟨SM.ok_nil, fun t => by rw [SM.get_nil, if_pos (by simp [atL])]⟩
section
variable {ds : List Du} {k : Nat} {M : SM ByteArray Int}
theorem CntI.val (h : CntI ds k M) (t : ByteArray) : (M.get t).getD 0 = ((atL ds k t).length : Int) := by
 rw [h.get]
 split
 ·rename_i q; rw [q]; rfl
 ·rfl
theorem CntI.next (h : CntI ds k M) (hk : k < ds.length) {A B : ByteArray} (hA : ds[k].a = A) (hB : ds[k].b = B) (hne : A ≠ B) : CntI ds (k + 1) ((M.put A ((M.get A).getD 0 + 1)).put B (((M.put A ((M.get A).getD 0 + 1)).get B).getD 0 + 1)) where
 ok := (h.ok.put _ _).put _ _
 get t := by
  have hkd : ds.getD k du0 = ds[k] := by simp [hk]
  have hgB : (M.put A ((M.get A).getD 0 + 1)).get B = M.get B := by rw [SM.get_put, if_neg hne]
  rw [SM.get_put, hgB, SM.get_put, h.val, h.val, atL_succ, hkd]
  by_cases q2 : B = t
  ·subst q2
   have e : (if ds[k].at B then [k] else []) = [k] := if_pos (.inr hB)
   rw [if_pos rfl, e, if_neg (by simp), List.length_append]
   simp
  ·rw [if_neg q2]
   by_cases q1 : A = t
   ·subst q1
    have e : (if ds[k].at A then [k] else []) = [k] := if_pos (.inl hA)
    rw [if_pos rfl, e, if_neg (by simp), List.length_append]
    simp
   ·have e : (if ds[k].at t then [k] else []) = [] := if_neg (fun q => by
     rcases q with q | q
     ·exact q1 (hA.symm.trans q)
     ·exact q2 (hB.symm.trans q))
    rw [if_neg q1, e, List.append_nil]
    exact h.get t
structure EndI (ends : Int) (a : ByteArray) (vis : List (Nat × ByteArray × Int)) : Prop where
 le : ∀ e ∈ vis, e.2.2 ≤ 2
 cnt : ends = ((vis.filter fun e => decide (e.2.2 = 1)).length : Int)
 st : (a = ⟨#[]⟩ ∧ ∀ e ∈ vis, e.2.2 ≠ 1) ∨ ∃ e ∈ vis, e.2.1 = a ∧ e.2.2 = 1
theorem EndI.begin : EndI 0 ⟨#[]⟩ [] := ⟨by simp, rfl, .inl ⟨rfl, by simp⟩⟩
theorem EndI.skip {ends : Int} {a : ByteArray} {vis : List (Nat × ByteArray × Int)} (h : EndI ends a vis) {e : Nat × ByteArray × Int} (h2 : e.2.2 ≤ 2) (h1 : e.2.2 ≠ 1) : EndI ends a (e :: vis) := by
 refine ⟨fun f hf => ?_, ?_, ?_⟩
 ·rcases List.mem_cons.1 hf with rfl | hf
  ·exact h2
  ·exact h.le f hf
 ·rw [List.filter_cons_of_neg (by simpa using h1)]; exact h.cnt
 ·rcases h.st with ⟨q, w⟩ | ⟨f, hf, w⟩
  ·refine .inl ⟨q, fun f hf => ?_⟩
   rcases List.mem_cons.1 hf with rfl | hf
   ·exact h1
   ·exact w f hf
  ·exact .inr ⟨f, by simp [hf], w⟩
theorem EndI.take {ends : Int} {a : ByteArray} {vis : List (Nat × ByteArray × Int)} (h : EndI ends a vis) {e : Nat × ByteArray × Int} (h1 : e.2.2 = 1) {a' : ByteArray} (ha : a' = e.2.1 ∨ (a' = a ∧ a ≠ ⟨#[]⟩)) : EndI (ends + 1) a' (e :: vis) := by
 refine ⟨fun f hf => ?_, ?_, ?_⟩
 ·rcases List.mem_cons.1 hf with rfl | hf
  ·omega
  ·exact h.le f hf
 ·rw [List.filter_cons_of_pos (by simpa using h1), h.cnt]; simp
 ·rcases ha with rfl | ⟨rfl, hn⟩
  ·exact .inr ⟨e, by simp, rfl, h1⟩
  ·rcases h.st with ⟨q, w⟩ | ⟨f, hf, w⟩
   ·exact absurd q hn
   ·exact .inr ⟨f, by simp [hf], w⟩
theorem cnt_mem (h : CntI ds ds.length M) {e : Nat × ByteArray × Int} (he : e ∈ M.es) : e.2.2 = ((atL ds ds.length e.2.1).length : Int) ∧ atL ds ds.length e.2.1 ≠ [] := by
 have h1 := SM.get_of h.ok he
 rw [h.get] at h1
 split at h1
 ·cases h1
 ·rename_i q; exact ⟨(Option.some.inj h1).symm, q⟩
theorem cnt_has (h : CntI ds ds.length M) {t : ByteArray} (ht : atL ds ds.length t ≠ []) : ∃ e ∈ M.es, e.2.1 = t := by
 have h1 := h.get t
 rw [if_neg ht] at h1
 obtain ⟨n, hn⟩ := SM.mem_of h1
 exact ⟨_, hn, rfl⟩
theorem CntI.len (h : CntI ds ds.length M) : M.es.length ≤ 2 * ds.length := by
 have h1 := nodup_sub_len (SM.keys_nd h.ok) (m := ds.flatMap fun x => [x.a, x.b]) (fun t ht => by
  obtain ⟨e, he, rfl⟩ := List.mem_map.1 ht
  obtain ⟨_, q⟩ := cnt_mem h he
  obtain ⟨i, hi⟩ := List.exists_mem_of_ne_nil _ q
  obtain ⟨hi, hat⟩ := atL_mem.1 hi
  have hd : ds.getD i du0 = ds[i] := by simp [hi]
  rw [hd] at hat
  refine List.mem_flatMap.2 ⟨ds[i], List.getElem_mem hi, ?_⟩
  rcases hat with w | w
  ·simp [w]
  ·simp [w])
 have h2 : (ds.flatMap fun x => [x.a, x.b]).length = 2 * ds.length := by
  clear h1 h
  induction ds with
  | nil => rfl
  | cons x r ih => rw [List.flatMap_cons, List.length_append, ih]; simp; omega
 rw [List.length_map] at h1
 omega
theorem cnt_site (h : CntI ds ds.length M) (hz : ∀ x ∈ ds, x.a.size ≠ 0 ∧ x.b.size ≠ 0) {e : Nat × ByteArray × Int} (he : e ∈ M.es) : e.2.1.size ≠ 0 := by
 obtain ⟨_, q⟩ := cnt_mem h he
 obtain ⟨i, hi⟩ := List.exists_mem_of_ne_nil _ q
 obtain ⟨hi, hat⟩ := atL_mem.1 hi
 have hd : ds.getD i du0 = ds[i] := by simp [hi]
 rw [hd] at hat
 have := hz _ (List.getElem_mem hi)
 rcases hat with w | w
 ·rw [← w]; exact this.1
 ·rw [← w]; exact this.2
theorem EndI.two (h : CntI ds ds.length M) {ends : Int} {a : ByteArray} {vis : List (Nat × ByteArray × Int)} (hE : EndI ends a vis) (hp : vis.Perm M.es) {s : Nat → ByteArray} {ix : Nat → Nat} (hP : PathOf ds s ix) : ends = 2 := by
 have hpos := hP.pos
 have h0n : s 0 ≠ s ds.length := fun q => by have := hP.si _ _ (by omega) (by omega) q; omega
 have hf : (vis.filter fun e => decide (e.2.2 = 1)).length = (M.es.filter fun e => decide (e.2.2 = 1)).length := (hp.filter _).length_eq
 have hnd : ((M.es.filter fun e => decide (e.2.2 = 1)).map (·.2.1)).Nodup := (List.Sublist.map _ List.filter_sublist).nodup (SM.keys_nd h.ok)
 have h1 := nodup_sub_len (m := [s 0, s ds.length]) hnd (fun t ht => by
  obtain ⟨e, he, rfl⟩ := List.mem_map.1 ht
  obtain ⟨he, h1⟩ := List.mem_filter.1 he
  obtain ⟨q1, q2⟩ := cnt_mem h he
  obtain ⟨j, hj, ej⟩ := hP.site q2
  have h1 : e.2.2 = 1 := by simpa using h1
  rw [q1, ← ej] at h1
  rcases (hP.one hj).1 (by omega) with rfl | rfl
  ·simp [ej]
  ·simp [ej])
 have h2 := nodup_sub_len (l := [s 0, s ds.length]) (m := (M.es.filter fun e => decide (e.2.2 = 1)).map (·.2.1)) (by simp [h0n]) (fun t ht => by
  have hj : ∃ j, j ≤ ds.length ∧ t = s j ∧ (j = 0 ∨ j = ds.length) := by
   simp only [List.mem_cons, List.not_mem_nil, or_false] at ht
   rcases ht with rfl | rfl
   ·exact ⟨0, by omega, rfl, .inl rfl⟩
   ·exact ⟨_, Nat.le_refl _, rfl, .inr rfl⟩
  obtain ⟨j, hj, rfl, hjj⟩ := hj
  obtain ⟨e, he, e2⟩ := cnt_has h (hP.ne hj)
  refine List.mem_map.2 ⟨e, List.mem_filter.2 ⟨he, ?_⟩, e2⟩
  have := (cnt_mem h he).1
  rw [e2, (hP.one hj).2 hjj] at this
  simpa using this)
 rw [hE.cnt, hf]
 simp at h1 h2
 omega
theorem EndI.fin (h : CntI ds ds.length M) {ends : Int} {a : ByteArray} {vis : List (Nat × ByteArray × Int)} (hE : EndI ends a vis) (hp : vis.Perm M.es) (h2 : ends = 2) :
  (∀ t, (atL ds ds.length t).length ≤ 2) ∧ (atL ds ds.length a).length = 1 ∧ ∀ s ix, PathOf ds s ix → ∃ s' ix', PathOf ds s' ix' ∧ s' 0 = a := by
 have hle : ∀ t, (atL ds ds.length t).length ≤ 2 := fun t => by
  by_cases q : atL ds ds.length t = []
  ·rw [q]; simp
  ·obtain ⟨e, he, rfl⟩ := cnt_has h q
   have h3 := hE.le e (hp.mem_iff.2 he)
   rw [(cnt_mem h he).1] at h3
   omega
 obtain ⟨e, he, e1, e2⟩ : ∃ e ∈ vis, e.2.1 = a ∧ e.2.2 = 1 := by
  rcases hE.st with ⟨_, w⟩ | w
  ·exfalso
   have hn : (vis.filter fun e => decide (e.2.2 = 1)) = [] := List.filter_eq_nil_iff.2 (fun e he => by simpa using w e he)
   have h4 := hE.cnt
   rw [hn] at h4
   simp at h4
   omega
  ·exact w
 obtain ⟨q1, q2⟩ := cnt_mem h (hp.mem_iff.1 he)
 rw [e2, e1] at q1
 rw [e1] at q2
 have h1 : (atL ds ds.length a).length = 1 := by omega
 refine ⟨hle, h1, fun s ix hP => ?_⟩
 obtain ⟨j, hj, ej⟩ := hP.site q2
 rw [← ej] at h1
 rcases (hP.one hj).1 h1 with rfl | rfl
 ·exact ⟨s, ix, hP, ej⟩
 ·exact ⟨_, _, hP.rev, ej⟩
end
structure LeftI (ds : List Du) (a site : ByteArray) (rem : List Nat) : Prop where
 nd : rem.Nodup
 tr : ∃ m s ix, Trail ds a site m s ix ∧ m + rem.length = ds.length ∧ ∀ k, k ∈ rem ↔ k < ds.length ∧ ∀ j, j < m → ix j ≠ k
 way : ∀ s ix, PathOf ds s ix → s 0 = a → ∃ m, m + rem.length = ds.length ∧ site = s m ∧ ∀ k, k ∈ rem ↔ k < ds.length ∧ ∀ j, j < m → ix j ≠ k
theorem LeftI.begin (ds : List Du) (a : ByteArray) : LeftI ds a a (List.range ds.length) where
 nd := List.nodup_range
 tr := ⟨0, _, _, Trail.begin ds a, by simp, fun k => by simp⟩
 way s ix hP h := ⟨0, by simp, h.symm, fun k => by simp⟩
section
variable {ds : List Du} {a site : ByteArray} {rem : List Nat}
theorem erase_mem {l : List Nat} (h : l.Nodup) {q : Nat} (hq : q < l.length) (k : Nat) : k ∈ l.eraseIdx q ↔ k ∈ l ∧ k ≠ l[q] := by
 induction l generalizing q with
 | nil => simp at hq
 | cons x r ih =>
  rw [List.nodup_cons] at h
  cases q with
  | zero =>
   simp only [List.eraseIdx_cons_zero, List.getElem_cons_zero, List.mem_cons]
   constructor
   ·intro hk; exact ⟨.inr hk, fun e => h.1 (e ▸ hk)⟩
   ·rintro ⟨rfl | hk, hne⟩
    ·exact absurd rfl hne
    ·exact hk
  | succ q =>
   have hq' : q < r.length := by simpa using hq
   simp only [List.eraseIdx_cons_succ, List.getElem_cons_succ, List.mem_cons, ih h.2 hq']
   constructor
   ·rintro (rfl | ⟨h1, h2⟩)
    ·exact ⟨.inl rfl, fun e => h.1 (e ▸ List.getElem_mem hq')⟩
    ·exact ⟨.inr h1, h2⟩
   ·rintro ⟨rfl | h1, h2⟩
    ·exact .inl rfl
    ·exact .inr ⟨h1, h2⟩
theorem LeftI.step (h : LeftI ds a site rem) {q : Nat} (hq : q < rem.length) (hat : (ds.getD rem[q] du0).at site) {site' : ByteArray} (hs : site' = if (ds.getD rem[q] du0).a = site then (ds.getD rem[q] du0).b else (ds.getD rem[q] du0).a) : LeftI ds a site' (rem.eraseIdx q) where
 nd := List.Nodup.sublist (List.eraseIdx_sublist ..) h.nd
 tr := by
  obtain ⟨m, s, ix, ht, hl, hk⟩ := h.tr
  obtain ⟨k1, k2⟩ := (hk _).1 (List.getElem_mem hq)
  refine ⟨m + 1, _, _, ht.step k1 k2 hat hs, by rw [List.length_eraseIdx_of_lt hq]; omega, fun k => ?_⟩
  rw [erase_mem h.nd hq, hk k]
  constructor
  ·rintro ⟨⟨w1, w2⟩, w3⟩
   refine ⟨w1, fun j hj => ?_⟩
   split
   ·exact Ne.symm w3
   ·exact w2 j (by omega)
  ·rintro ⟨w1, w2⟩
   refine ⟨⟨w1, fun j hj => ?_⟩, fun e => ?_⟩
   ·have := w2 j (by omega)
    rwa [if_neg (by omega)] at this
   ·have := w2 m (by omega)
    rw [if_pos rfl] at this
    exact this e.symm
 way s ix hP h0 := by
  obtain ⟨m, hl, rfl, hk⟩ := h.way s ix hP h0
  obtain ⟨k1, k2⟩ := (hk _).1 (List.getElem_mem hq)
  obtain ⟨j, hj, ej⟩ := hP.onto k1
  have hmn : m ≤ ds.length := by omega
  rw [← ej] at hat hs
  have hjm : j = m := by
   rcases (hP.at_iff hmn hj).1 hat with e | e
   ·exact e
   ·exact absurd ej (k2 j (by omega))
  subst hjm
  refine ⟨j + 1, by rw [List.length_eraseIdx_of_lt hq]; omega, ?_, fun k => ?_⟩
  ·rw [hs]
   rcases hP.ends j hj with ⟨e1, e2⟩ | ⟨e1, e2⟩
   ·rw [if_pos e1, e2]
   ·rw [if_neg (fun w => by
     have := hP.si _ _ (by omega) hmn (e1.symm.trans w)
     omega), e1]
  ·rw [erase_mem h.nd hq, hk k, ← ej]
   constructor
   ·rintro ⟨⟨w1, w2⟩, w3⟩
    refine ⟨w1, fun i hi => ?_⟩
    rcases Nat.lt_succ_iff_lt_or_eq.1 hi with w | w
    ·exact w2 i w
    ·subst w; exact Ne.symm w3
   ·rintro ⟨w1, w2⟩
    exact ⟨⟨w1, fun i hi => w2 i (by omega)⟩, fun e => w2 j (by omega) e.symm⟩
theorem LeftI.stuck (h : LeftI ds a site rem) (h0 : 0 < rem.length) (hn : ∀ k ∈ rem, ¬ (ds.getD k du0).at site) {s : Nat → ByteArray} {ix : Nat → Nat} (hP : PathOf ds s ix) (hs : s 0 = a) : False := by
 obtain ⟨m, hl, rfl, hk⟩ := h.way s ix hP hs
 have hm : m < ds.length := by omega
 refine hn (ix m) ((hk _).2 ⟨hP.ixl m hm, fun j hj e => ?_⟩) ((hP.at_iff (by omega) hm).2 (.inl rfl))
 have := hP.ixi _ _ (by omega) hm e
 omega
theorem LeftI.over (h : LeftI ds a site []) : ∃ s ix, Trail ds a site ds.length s ix := by
 obtain ⟨m, s, ix, ht, hl, _⟩ := h.tr
 have : m = ds.length := by simpa using hl
 subst this
 exact ⟨s, ix, ht⟩
end
theorem map_eraseY {α β : Type} (f : α → β) : ∀ (l : List α) (i : Nat), (l.map f).eraseIdx i = (l.eraseIdx i).map f
 | [], i => by simp
 | x :: r, 0 => rfl
 | x :: r, i + 1 => by simp only [List.map_cons, List.eraseIdx_cons_succ, map_eraseY f r i]
theorem strEqY {a b : ByteArray} : a.toList = b.toList ↔ a = b := ⟨toList_inj, fun h => by rw [h]⟩
theorem isWd1_pc (d : List Du) (hd : d.length ≤ 1000000) (site k : ByteArray) : PCp 116 [.c (.str k), .c (.ptr 0 0), .c (.ptr 1 0)] [.box [.lst 5 (d.map encDu)], .box [.str site]] (.c (.bool (decide ((duG d k).at site)))) [.box [.lst 5 (d.map encDu)], .box [.str site]] := by
 refine fnP Tryz.func116 Tryz.results116 ?_
 conv => whnf
 repeat' (first | (refine Split.mk (fun h => ?_) (fun h => ?_) <;> (try simp only [qA, qB, qC, qD, qE, qF, qG, qH] at h) <;> (first | (exfalso; first | omega | exact h trivial) | (conv => whnf))) | (refine  CallX.mk _ _ (by exact ductAt_pc d hd k) ?_; conv => whnf) | fail)
 ·exact .mk ⟨by rw [decide_eq_true (.inl (strEqY.1 h))]; rfl, rfl⟩
 ·have e : ((duG d k).b.toList == site.toList) = decide ((duG d k).at site) := by
   have h' : ¬ (duG d k).a = site := fun q => h (strEqY.2 q)
   rw [Bool.eq_iff_iff, beq_iff_eq, decide_eq_true_eq, strEqY]
   exact ⟨.inr, fun w => w.resolve_left h'⟩
  exact .mk ⟨by rw [e]; rfl, rfl⟩
theorem ixLeft_pc (d : List Du) (site : ByteArray) (g : Nat) (p : ByteArray → Bool) (l : List ByteArray) (hl : l.length ≤ 1000000) (hg : ∀ x ∈ l, PCp g [.c (.str x), .c (.ptr 0 0), .c (.ptr 1 0)] [.box [.lst 5 (d.map encDu)], .box [.str site]] (.c (.bool (p x))) [.box [.lst 5 (d.map encDu)], .box [.str site]]) : PCp 115 [.c (.row 0), .c (.fn g [.ptr 1 0, .ptr 2 0])] [.row 9 1 (l.map encS), .box [.lst 5 (d.map encDu)], .box [.str site]] (.c (.int .i64 (idxP p l))) [.row 9 1 (l.map encS), .box [.lst 5 (d.map encDu)], .box [.str site]] := by
 have hlm : (l.map encS).length = l.length := List.length_map ..
 refine fnP Tryz.func115 Tryz.results115 ?_
 conv => whnf
 refine loop_for (l.length) [] [0, 1, 7, 8] (fun k (_ : Unit) => [(8, .c (.int .i64 (k : Int)))]) (fun k (_ : Unit) => []) (fun k (_ : Unit) => ∀ i (hi : i < l.length), i < k → p l[i] = false) (()) ?_
 conv => whnf
 refine ⟨(by first | rfl | (simp; done) | (simp; rfl)), ?_, ?_, ?_⟩
 ·intro i hi h; omega
 ·intro k _ hk hi
  conv => whnf
  repeat' (first | (refine CondG.mk (fun h => ?_) (fun h => ?_) <;> (try simp only [qA, qB, qC, qD, qE, qF, qG, qH] at h) <;> (first | (exfalso; first | omega | exact h trivial) | (conv => whnf))) | (refine  CallX.mk _ _ (by exact hg l[k] (List.getElem_mem hk)) ?_; conv => whnf) | (refine .mk (by first | omega | (unfold roomOK; simp [cutRows]; done) | (unfold roomOK; simp [cutRows]; omega) | (simp [cutRows]; done) | (simp [cutRows]; omega)) ?_; conv => whnf) | ((with_reducible refine row_map (by first | assumption | omega) ?_); conv => whnf) | fail)
  ·exact .mk ⟨by rw [idxP_hit hk (fun i hi' => hi i (by omega) hi') h]; rfl, rfl⟩
  ·refine count_next () hk (by rw [wrap_succ hk (by omega)]; rfl) ?_
   exact all_succ' hi h
 ·intro _ hi
  conv => whnf
  repeat' (first | (refine CondG.mk (fun h => ?_) (fun h => ?_) <;> (try simp only [decide_eq_true_eq, decide_eq_false_iff_not, Bool.not_eq_true', Bool.not_eq_false', beq_iff_eq, beq_eq_false_iff_ne] at h) <;> (first | (exfalso; first | omega | exact h trivial) | (conv => whnf))) | fail)
  exact .mk ⟨by rw [idxP_miss (fun i h => hi i h h)]; rfl, rfl⟩
theorem rIsWay_pc (d : List Du) (hd : d.length ≤ 1000000) (keys : List ByteArray) (hl : keys.length ≤ 1000) (hne : ∀ k ∈ keys, (duG d k).a ≠ (duG d k).b) (hz : ∀ k ∈ keys, (duG d k).a.size ≠ 0 ∧ (duG d k).b.size ≠ 0) :
  PCq 73 [.c (.lst 5 (d.map encDu)), .c (.lst 1 (keys.map encS))] [] fun r os => os = [] ∧ ∃ b : Bool, r = .c (.bool b) ∧ (b = true ↔ ∃ s ix, PathOf (keys.map (duG d)) s ix) := by
 have hkm : (keys.map encS).length = keys.length := List.length_map ..
 have hn : (keys.map (duG d)).length = keys.length := List.length_map ..
 have h0 := CntI.begin (keys.map (duG d))
 have hzd : ∀ x ∈ keys.map (duG d), x.a.size ≠ 0 ∧ x.b.size ≠ 0 := fun x hx => by
  obtain ⟨k, hk, rfl⟩ := List.mem_map.1 hx
  exact hz k hk
 refine fnPX Tryz.func73 Tryz.results73 ?_
 conv => whnf
 skip
 refine loop_for (keys.length) [] [1, 2, 5, 19, 20, 21] (fun k (M : SM ByteArray Int) => [(21, .c (.int .i64 (k : Int)))]) (fun k (M : SM ByteArray Int) => [(1, smO ekS evI M)]) (fun k (M : SM ByteArray Int) => CntI (keys.map (duG d)) k M) (SM.nil) ?_
 conv => whnf
 refine ⟨?_, ?_, ?_, ?_⟩
 ·rfl
 ·exact h0
 ·intro k M hk hI
  have hk2 : k < (keys.map (duG d)).length := by omega
  have hkd : (keys.map (duG d))[k] = duG d keys[k] := by simp
  have hab := hne _ (List.getElem_mem hk)
  have hA := hI.val (duG d keys[k]).a
  have hlA := atL_len (keys.map (duG d)) k (duG d keys[k]).a
  have hB : ((M.put (duG d keys[k]).a ((M.get (duG d keys[k]).a).getD 0 + 1)).get (duG d keys[k]).b).getD 0 = ((atL (keys.map (duG d)) k (duG d keys[k]).b).length : Int) := by
   rw [SM.get_put, if_neg hab]; exact hI.val _
  have hlB := atL_len (keys.map (duG d)) k (duG d keys[k]).b
  have hN := hI.next hk2 (by rw [hkd]) (by rw [hkd]) hab
  have w1 : IntKind.i64.wrap ((M.get (duG d keys[k]).a).getD 0 + 1) = (M.get (duG d keys[k]).a).getD 0 + 1 := wrap_in (by omega) (by omega)
  have w2 : IntKind.i64.wrap (((M.put (duG d keys[k]).a ((M.get (duG d keys[k]).a).getD 0 + 1)).get (duG d keys[k]).b).getD 0 + 1) = ((M.put (duG d keys[k]).a ((M.get (duG d keys[k]).a).getD 0 + 1)).get (duG d keys[k]).b).getD 0 + 1 := wrap_in (by omega) (by omega)
  have hN2 : CntI (keys.map (duG d)) (k + 1) ((M.put (duG d keys[k]).a (IntKind.i64.wrap ((M.get (duG d keys[k]).a).getD 0 + 1))).put (duG d keys[k]).b (IntKind.i64.wrap (((M.put (duG d keys[k]).a (IntKind.i64.wrap ((M.get (duG d keys[k]).a).getD 0 + 1))).get (duG d keys[k]).b).getD 0 + 1))) := by
   rw [w1, w2]; exact hN
  conv => whnf
  repeat' (first | (refine CondG.mk (fun h => ?_) (fun h => ?_) <;> (try simp only [qA, qB, qC, qD, qE, qF, qG, qH] at h) <;> (first | (exfalso; first | omega | exact h trivial) | (conv => whnf))) | (refine  CallX.mk _ _ (by exact ductAt_pc d hd keys[k]) ?_; conv => whnf) | (refine idx_at _ (by with_reducible rfl) (by first | assumption | omega) ?_; conv => whnf) | ((refine sm_look (ek := ekS) (ev := evI) keyStr M (duG d keys[k]).a (0 : Int) rfl ?_); conv => whnf) | ((refine sm_upd (ek := ekS) (ev := evI) keyStr M (duG d keys[k]).a _ ?_); conv => whnf) | ((refine sm_look (ek := ekS) (ev := evI) keyStr (M.put (duG d keys[k]).a (IntKind.i64.wrap ((M.get (duG d keys[k]).a).getD 0 + 1))) (duG d keys[k]).b (0 : Int) rfl ?_); conv => whnf) | ((refine sm_upd (ek := ekS) (ev := evI) keyStr (M.put (duG d keys[k]).a (IntKind.i64.wrap ((M.get (duG d keys[k]).a).getD 0 + 1))) (duG d keys[k]).b _ ?_); conv => whnf) | fail)
  exact count_next _ hk (by rw [wrap_succ hk (by omega)]; rfl) hN2
 ·intro M hI
  have hok := hI.ok
  rw [← hn] at hI
  conv => whnf
  repeat' (first | (refine CondG.mk (fun h => ?_) (fun h => ?_) <;> (try simp only [qA, qB, qC, qD, qE, qF, qG, qH] at h) <;> (first | (exfalso; first | omega | exact h trivial) | (conv => whnf))) | fail)
  refine loop_while3 (fun (ends : Int) (a : ByteArray) (vis : List (Nat × ByteArray × Int)) => M.es.length - vis.length) [] [1, 2, 10, 11, 43] (fun (ends : Int) (a : ByteArray) (vis : List (Nat × ByteArray × Int)) => [(10, .c (.int .i64 ends))]) (fun (ends : Int) (a : ByteArray) (vis : List (Nat × ByteArray × Int)) => [(1, .box [.str a]), (2, .iter 3 M.clock (vis.map (·.1))), (3, smO ekS evI M)]) (fun (ends : Int) (a : ByteArray) (vis : List (Nat × ByteArray × Int)) => Vis M vis ∧ EndI ends a vis) (0) (⟨#[]⟩) ([]) ?_
  conv => whnf
  refine ⟨?_, ?_, ?_⟩
  ·rfl
  ·exact ⟨Vis.nil _, EndI.begin⟩
  ·intro ends a vis ⟨hv, hE⟩
   have hvl := hv.len
   conv => whnf
   refine .mk rfl ?_
   conv => whnf
   refine sm_next hok hv (fun hp => ?_) (fun e he hnv hv' hlt => ?_)
   ·conv => whnf
    repeat' (first | (refine CondG.mk (fun h => ?_) (fun h => ?_) <;> (try simp only [qA, qB, qC, qD, qE, qF, qG, qH] at h) <;> (first | (exfalso; first | omega | exact h trivial) | (conv => whnf))) | fail)
    ·refine .mk _ _ ⟨rfl, false, rfl, ⟨fun h => (by cases h), fun ⟨s, ix, hP⟩ => ?_⟩⟩ (.mk ⟨rfl, rfl⟩)
     exact absurd (hE.two hI hp hP) (by assumption)
    ·have h2 : ends = 2 := by omega
     obtain ⟨f1, f2, f3⟩ := hE.fin hI hp h2
     have cK := cloneS_pc keys (by omega)
     have hrg : keys = (List.range keys.length).map (fun i => keys.getD i ⟨#[]⟩) := by
      refine List.ext_getElem (by simp) (fun i h3 h4 => ?_)
      simp [h3]
     repeat' (first | (refine  CallX.mk _ _ (by exact cK) ?_; conv => whnf) | fail)
     refine loop_while2 (fun (site : ByteArray) (rem : List Nat) => rem.length) [] [2, 11, 14] (fun (site : ByteArray) (rem : List Nat) => []) (fun (site : ByteArray) (rem : List Nat) => [(1, .box [.str site]), (2, .row 9 1 ((rem.map fun i => keys.getD i ⟨#[]⟩).map encS))]) (fun (site : ByteArray) (rem : List Nat) => LeftI (keys.map (duG d)) a site rem) (a) (List.range (keys.map (duG d)).length) ?_
     conv => whnf
     refine ⟨?_, ?_, ?_⟩
     ·rw [hn, ← hrg]
      rfl
     ·exact LeftI.begin _ _
     ·intro site rem hL
      have hrl : ((rem.map fun i => keys.getD i ⟨#[]⟩).map encS).length = rem.length := by simp
      have hrl2 : (rem.map fun i => keys.getD i ⟨#[]⟩).length = rem.length := by simp
      obtain ⟨m, s0, ix0, hT, hml, hmem⟩ := hL.tr
      rw [hn] at hml
      have hkey : ∀ k ∈ rem, k < keys.length ∧ (keys.map (duG d)).getD k du0 = duG d (keys.getD k ⟨#[]⟩) := fun k hk => by
       have h3 := ((hmem k).1 hk).1
       rw [hn] at h3
       exact ⟨h3, by simp [h3]⟩
      have cI := ixLeft_pc d site 116 (fun s => decide ((duG d s).at site)) (rem.map fun i => keys.getD i ⟨#[]⟩) (by omega) (fun x _ => isWd1_pc d hd site x)
      rcases idxP_or (fun s => decide ((duG d s).at site)) (rem.map fun i => keys.getD i ⟨#[]⟩) with ⟨e, hall⟩ | ⟨q, hq, e, hp, _⟩
      ·rw [e] at cI
       conv => whnf
       repeat' (first | (refine CondG.mk (fun h => ?_) (fun h => ?_) <;> (try simp only [qA, qB, qC, qD, qE, qF, qG, qH] at h) <;> (first | (exfalso; first | omega | exact h trivial) | (conv => whnf))) | (refine  CallX.mk _ _ (by exact cI) ?_; conv => whnf) | fail)
       ·refine .mk _ _ ⟨rfl, false, rfl, ⟨fun h => (by cases h), fun ⟨s, ix, hP⟩ => ?_⟩⟩ (.mk ⟨rfl, rfl⟩)
        obtain ⟨s', ix', hP', hs'⟩ := f3 s ix hP
        refine (hL.stuck (by omega) (fun k hk hat => ?_) hP' hs').elim
        have := hall _ (List.mem_map.2 ⟨k, hk, rfl⟩)
        rw [(hkey k hk).2] at hat
        exact of_decide_eq_false (p := (duG d (keys.getD k ⟨#[]⟩)).at site) this hat
       ·have hr0 : rem = [] := List.length_eq_zero_iff.1 (by omega)
        subst hr0
        obtain ⟨s, ix, ht⟩ := hL.over
        refine .mk _ _ ⟨rfl, true, rfl, ⟨fun _ => ⟨s, ix, ht.path ?_ ?_ f1 f2⟩, fun _ => rfl⟩⟩ (.mk ⟨rfl, rfl⟩)
        ·refine Nat.pos_of_ne_zero fun w => ?_
         have := atL_len (keys.map (duG d)) (keys.map (duG d)).length a
         omega
        ·intro i hi
         have h4 : (keys.map (duG d)).getD i du0 = (keys.map (duG d))[i] := by simp [show i < keys.length by omega]
         rw [h4, List.getElem_map]
         exact hne _ (List.getElem_mem _)
      ·rw [e] at cI
       have hq2 : q < rem.length := by omega
       have hkq := hkey _ (List.getElem_mem hq2)
       have hlq : (rem.map fun i => keys.getD i ⟨#[]⟩)[q] = keys.getD rem[q] ⟨#[]⟩ := by simp
       have hat : ((keys.map (duG d)).getD rem[q] du0).at site := by
        rw [hkq.2, ← hlq]; simpa using hp
       have cD := ductAt_pc d hd (rem.map fun i => keys.getD i ⟨#[]⟩)[q]
       have cE := delS_pc (rem.map fun i => keys.getD i ⟨#[]⟩) q hq (by omega) ((q : Int) + 1) (by omega)
       have hwq : IntKind.i64.wrap ((q : Int) + 1) = (q : Int) + 1 := wrap_in (by omega) (by omega)
       have her : (rem.map fun i => keys.getD i ⟨#[]⟩).eraseIdx q = (rem.eraseIdx q).map fun i => keys.getD i ⟨#[]⟩ := map_eraseY ..
       rw [her] at cE
       have hst : ∀ site', site' = (if (duG d (rem.map fun i => keys.getD i ⟨#[]⟩)[q]).a = site then (duG d (rem.map fun i => keys.getD i ⟨#[]⟩)[q]).b else (duG d (rem.map fun i => keys.getD i ⟨#[]⟩)[q]).a) → LeftI (keys.map (duG d)) a site' (rem.eraseIdx q) := fun site' h9 => hL.step hq2 hat (by rw [hkq.2, ← hlq]; exact h9)
       have hel : (rem.eraseIdx q).length < rem.length := by rw [List.length_eraseIdx_of_lt hq2]; omega
       conv => whnf
       repeat' (first | (refine CondG.mk (fun h => ?_) (fun h => ?_) <;> (try simp only [qA, qB, qC, qD, qE, qF, qG, qH] at h) <;> (first | (exfalso; first | omega | exact h trivial) | (conv => whnf))) | (refine  CallX.mk _ _ (by first | exact cI | exact (by rw [hwq]; exact cE)) ?_; conv => whnf) | (refine CallG.mk _ _ (by first | exact cI | exact cD) ?_; conv => whnf) | (refine .mk (by first | omega | (unfold roomOK; simp [cutRows]; done) | (unfold roomOK; simp [cutRows]; omega) | (simp [cutRows]; done) | (simp [cutRows]; omega)) ?_; conv => whnf) | ((with_reducible refine row_map (by first | assumption | omega) ?_); conv => whnf) | fail)
       ·exact meas_next ((duG d (rem.map fun i => keys.getD i ⟨#[]⟩)[q]).b, rem.eraseIdx q) hel rfl (hst _ (by rw [if_pos (strEqY.1 (by assumption))]))
       ·exact meas_next ((duG d (rem.map fun i => keys.getD i ⟨#[]⟩)[q]).a, rem.eraseIdx q) hel rfl (hst _ (by rw [if_neg (fun w => absurd (strEqY.2 w) (by assumption))]))
   ·obtain ⟨q1, q2⟩ := cnt_mem hI he
    conv => whnf
    refine .mk rfl ?_
    conv => whnf
    refine sm_at hok he ?_
    conv => whnf
    have hsz := cnt_site hI hzd he
    have hlen := hI.len
    rw [hn] at hlen
    have hcn := hE.cnt
    have hfl := List.length_filter_le (fun e : Nat × ByteArray × Int => decide (e.2.2 = 1)) vis
    have hemp : Op.bytesLess (⟨#[]⟩ : ByteArray).toList e.2.1.toList = true := by
     have h3 := ltB_tri ⟨#[]⟩ e.2.1
     rcases h3 with h3 | h3 | h3
     ·exact h3
     ·exact (hsz (by rw [← h3]; rfl)).elim
     ·exfalso
      have := leB_not.2 h3
      unfold leB at this
      have h4 : (⟨#[]⟩ : ByteArray).toList = [] := by decide +kernel
      rw [h4] at this
      unfold ltB at h3
      rw [h4] at h3
      cases e.2.1.toList <;> simp [Op.bytesLess] at h3
    repeat' (first | (refine CondG.mk (fun h => ?_) (fun h => ?_) <;> (try simp only [qA, qB, qC, qD, qE, qF, qG, qH] at h) <;> (first | (exfalso; first | omega | exact h trivial) | (conv => whnf))) | fail)
    ·refine .mk _ _ ⟨rfl, false, rfl, ⟨fun h => (by cases h), fun ⟨s, ix, hP⟩ => ?_⟩⟩ (.mk ⟨rfl, rfl⟩)
     obtain ⟨j, hj, ej⟩ := hP.site q2
     have := hP.le2 hj
     rw [ej] at this
     omega
    ·have h1 : e.2.2 = 1 := by omega
     refine meas_next (ends + 1, (bif Op.bytesLess a.toList e.2.1.toList then e.2.1 else a), e :: vis) (by simp only [List.length_cons]; omega) (by rw [wrap_in (by omega) (by omega)]; rfl) ⟨hv', hE.take h1 ?_⟩
     cases hb : Op.bytesLess a.toList e.2.1.toList with
     | true => exact .inl rfl
     | false => exact .inr ⟨rfl, fun q => by rw [q, hemp] at hb; cases hb⟩
    ·exact meas_next (ends, a, e :: vis) (by simp only [List.length_cons]; omega) rfl ⟨hv', hE.skip (by omega) (by omega)⟩
noncomputable def pathB (d : List Du) (x : Ly) : Bool := @decide (∃ s ix, PathOf (x.ducts.map (duG d)) s ix) (Classical.propDecidable _)
noncomputable def brkV (d : List Du) (l : List Ly) : List ByteArray := (l.filter fun x => !pathB d x).map Ly.cable
theorem pathB_iff {d : List Du} {x : Ly} : pathB d x = true ↔ ∃ s ix, PathOf (x.ducts.map (duG d)) s ix := by unfold pathB; exact @decide_eq_true_iff _ (Classical.propDecidable _)
theorem pathB_of {d : List Du} {x : Ly} {b : Bool} (h : b = true ↔ ∃ s ix, PathOf (x.ducts.map (duG d)) s ix) : pathB d x = b := by
 rw [Bool.eq_iff_iff, pathB_iff, h]
theorem brk_take {d : List Du} {l : List Ly} {k : Nat} (hk : k < l.length) : brkV d (l.take (k + 1)) = brkV d (l.take k) ++ (if pathB d l[k] = true then [] else [l[k].cable]) := by
 unfold brkV
 rw [List.take_succ_eq_append_getElem hk, List.filter_append, List.map_append]
 congr 1
 by_cases q : pathB d l[k] = true
 ·rw [if_pos q, List.filter_cons_of_neg (by simpa using q)]; rfl
 ·rw [if_neg q, List.filter_cons_of_pos (by simpa using q)]; rfl
theorem brk_len (d : List Du) (l : List Ly) : (brkV d l).length ≤ l.length := by
 unfold brkV; rw [List.length_map]; exact List.length_filter_le ..
theorem brokenX_pc (d : List Du) (l : List Ly) (h0 : lyFault d l = 0) : PCp 9 [.c (.lst 5 (d.map encDu)), .c (.lst 3 (l.map encLy))] [] (.tup [.c (.lst 1 ((brkV d l).map encS)), .c (.int .i64 0)]) [] := by
 have hdu := du_of h0
 have hok := lyFault_ok h0
 have hends := du_ends hdu
 have hx : ∀ x ∈ l, x.ducts.length ≤ 1000000 := fun x hm => (hok.rl x hm).2
 have hlm : (l.map encLy).length = l.length := List.length_map ..
 have hll := hok.len
 have c1 := checkLying_pc d l hx
 rw [h0] at c1
 refine fnP Tryz.func9 Tryz.results9 ?_
 conv => whnf
 repeat' (first | (refine CondG.mk (fun h => ?_) (fun h => ?_) <;> (try simp only [qA, qB, qC, qD, qE, qF, qG, qH] at h) <;> (first | (exfalso; first | omega | exact h trivial | contradiction | (simp_all [eqRes]; done)) | (conv => whnf))) | (refine  CallX.mk _ _ (by exact c1) ?_; conv => whnf) | fail)
 refine loop_for (l.length) [.sl 7 9 1] [0, 7, 21, 22, 23] (fun k (_ : Unit) => [(23, .c (.int .i64 (k : Int)))]) (fun k (_ : Unit) => [(0, .row 9 1 ((brkV d (l.take k)).map encS))]) (fun k (_ : Unit) => True) (()) ?_
 conv => whnf
 refine ⟨?_, (by trivial), ?_, ?_⟩
 ·rfl
 ·intro k _ hk _
  have hlx := hok.each _ (List.getElem_mem hk)
  have hdl := hlx.len
  have hmem : ∀ q ∈ l[k].ducts, duG d q ∈ d := fun q hq => (duG_in hok.du (hlx.has q hq)).1
  have hxm : (l[k].ducts.map encS).length = l[k].ducts.length := List.length_map ..
  have hbl := brk_len d (l.take k)
  rw [List.length_take] at hbl
  have hbm : ((brkV d (l.take k)).map encS).length = (brkV d (l.take k)).length := List.length_map ..
  have hbt := brk_take (d := d) hk
  conv => whnf
  repeat' (first | (refine CondG.mk (fun h => ?_) (fun h => ?_) <;> (try simp only [qA, qB, qC, qD, qE, qF, qG, qH] at h) <;> (first | (exfalso; first | omega | exact h trivial) | (conv => whnf))) | (refine idx_at _ (by with_reducible rfl) (by first | assumption | omega) ?_; conv => whnf) | fail)
  refine loop_for (l[k].ducts.length) [.sl 10 76 5] [0, 7, 9, 10, 21, 22, 23, 28, 29, 30] (fun i (_ : Unit) => [(30, .c (.int .i64 (i : Int)))]) (fun i (_ : Unit) => [(2, .row 76 5 (((l[k].ducts.take i).map (duG d)).map encDu))]) (fun i (_ : Unit) => True) (()) ?_
  conv => whnf
  refine ⟨?_, (by trivial), ?_, ?_⟩
  ·rfl
  ·intro i _ hi _
   have hkm : (((l[k].ducts.take i).map (duG d)).map encDu).length = i := by simp; omega
   have hsn : (l[k].ducts.take (i + 1)).map (duG d) = (l[k].ducts.take i).map (duG d) ++ [duG d l[k].ducts[i]] := by
    rw [List.take_succ_eq_append_getElem hi, List.map_append]; rfl
   have hsl : ((l[k].ducts.take i).map (duG d)).length = i := by simp; omega
   conv => whnf
   repeat' (first | (refine CondG.mk (fun h => ?_) (fun h => ?_) <;> (try simp only [qA, qB, qC, qD, qE, qF, qG, qH] at h) <;> (first | (exfalso; first | omega | exact h trivial) | (conv => whnf))) | (refine  CallX.mk _ _ (by exact find_pc d hok.du _) ?_; conv => whnf) | (refine AppG.mk (by first | omega | (unfold roomOK; simp [cutRows]; done) | (unfold roomOK; simp [cutRows]; omega) | (simp [cutRows]; done) | (simp [cutRows]; omega)) ?_; conv => whnf) | (refine idx_at _ (by with_reducible rfl) (by first | assumption | omega) ?_; conv => whnf) | fail)
   exact count_next () hi (by rw [wrap_succ hi (by omega), hsn, List.map_append]; rfl) trivial
  ·intro _ _
   rw [List.take_length]
   conv => whnf
   repeat' (first | (refine CondG.mk (fun h => ?_) (fun h => ?_) <;> (try simp only [qA, qB, qC, qD, qE, qF, qG, qH] at h) <;> (first | (exfalso; first | omega | exact h trivial) | (conv => whnf))) | fail)
   refine .ex _ (isWay_pc (l[k].ducts.map (duG d)) (by rw [List.length_map]; omega) (fun x hx => by
    obtain ⟨q, hq, rfl⟩ := List.mem_map.1 hx
    exact (hends _ (hmem q hq)).2.2) (fun x hx => by
    obtain ⟨q, hq, rfl⟩ := List.mem_map.1 hx
    exact ⟨(hends _ (hmem q hq)).1, (hends _ (hmem q hq)).2.1⟩)) ?_
   rintro _ _ ⟨rfl, b, rfl, hb1, hb2⟩
   have hpb : pathB d l[k] = b := pathB_of ⟨hb2, fun ⟨s, ix, hp⟩ => hb1 s ix hp⟩
   rw [hpb] at hbt
   conv => whnf
   repeat' (first | (refine CondG.mk (fun h => ?_) (fun h => ?_) <;> (try simp only [qA, qB, qC, qD, qE, qF, qG, qH] at h) <;> (first | (exfalso; first | omega | exact h trivial) | (conv => whnf))) | (refine AppG.mk (by first | omega | (unfold roomOK; simp [cutRows]; done) | (unfold roomOK; simp [cutRows]; omega) | (simp [cutRows]; done) | (simp [cutRows]; omega)) ?_; conv => whnf) | fail)
   ·have hbf : b = false := by simpa using h
    rw [if_neg (by rw [hbf]; decide)] at hbt
    exact count_next () hk (by rw [wrap_succ hk (by omega), hbt, List.map_append]; rfl) trivial
   ·have hbf : b = true := by simpa using h
    rw [if_pos hbf, List.append_nil] at hbt
    exact count_next () hk (by rw [wrap_succ hk (by omega), hbt]; rfl) trivial
 ·intro _ _
  rw [List.take_length]
  conv => whnf
  repeat' (first | (refine CondG.mk (fun h => ?_) (fun h => ?_) <;> (try simp only [qA, qB, qC, qD, qE, qF, qG, qH] at h) <;> (first | (exfalso; first | omega | exact h trivial) | (conv => whnf))) | fail)
  exact .frz 0 _ _ _ rfl (.weak [_] (.tup _ _ rfl (fun i x y hx hy => by
   match i with
   | 0 => cases hx; cases hy; exact .fro 0 _ _ rfl
   | 1 => cases hx; cases hy; exact .refl _
   | n + 2 => cases hx)) rfl (Nat.le_refl _))
theorem brokenE_pc (d : List Du) (l : List Ly) (hx : ∀ x ∈ l, x.ducts.length ≤ 1000000) (h0 : lyFault d l ≠ 0) : PCp 9 [.c (.lst 5 (d.map encDu)), .c (.lst 3 (l.map encLy))] [] (.tup [.c (.lst 1 []), .c (.int .i64 (lyFault d l))]) [] := by
 have c1 := checkLying_pc d l hx
 generalize lyFault d l = E at *
 refine fnP Tryz.func9 Tryz.results9 ?_
 conv => whnf
 repeat' (first | (refine CondG.mk (fun h => ?_) (fun h => ?_) <;> (try simp only [qA, qB, qC, qD, qE, qF, qG, qH] at h) <;> (first | (exfalso; first | omega | exact h trivial | contradiction | (simp_all [eqRes]; done)) | (conv => whnf))) | (refine  CallX.mk _ _ (by exact c1) ?_; conv => whnf) | fail)
 exact .weak [] (.tup _ _ rfl (fun i x y hx hy => by
  match i with
  | 0 => cases hx; cases hy; exact .nil 1
  | 1 => cases hx; cases hy; exact .refl _
  | n + 2 => cases hx)) rfl (Nat.le_refl _)
theorem rBroken_pc (d : List Du) (l : List Ly) (h0 : lyFault d l = 0) : PCp 21 [.c (.lst 5 (d.map encDu)), .c (.lst 3 (l.map encLy))] [] (.c (.lst 1 ((brkV d l).map encS))) [] := by
 have hdu := du_of h0
 have hok := lyFault_ok h0
 have hends := du_ends hdu
 have hlm : (l.map encLy).length = l.length := List.length_map ..
 have hll := hok.len
 have hdlen := hok.du.len
 refine fnP Tryz.func21 Tryz.results21 ?_
 conv => whnf
 skip
 refine loop_for (l.length) [.sl 5 9 1] [0, 5, 8, 9, 10] (fun k (_ : Unit) => [(10, .c (.int .i64 (k : Int)))]) (fun k (_ : Unit) => [(0, .row 9 1 ((brkV d (l.take k)).map encS))]) (fun k (_ : Unit) => True) (()) ?_
 conv => whnf
 refine ⟨?_, (by trivial), ?_, ?_⟩
 ·rfl
 ·intro k _ hk _
  have hlx := hok.each _ (List.getElem_mem hk)
  have hdl := hlx.len
  have hmem : ∀ q ∈ l[k].ducts, duG d q ∈ d := fun q hq => (duG_in hok.du (hlx.has q hq)).1
  have hbl := brk_len d (l.take k)
  rw [List.length_take] at hbl
  have hbm : ((brkV d (l.take k)).map encS).length = (brkV d (l.take k)).length := List.length_map ..
  have hbt := brk_take (d := d) hk
  conv => whnf
  repeat' (first | (refine CondG.mk (fun h => ?_) (fun h => ?_) <;> (try simp only [qA, qB, qC, qD, qE, qF, qG, qH] at h) <;> (first | (exfalso; first | omega | exact h trivial) | (conv => whnf))) | (refine idx_at _ (by with_reducible rfl) (by first | assumption | omega) ?_; conv => whnf) | fail)
  refine .ex _ (rIsWay_pc d (by omega) l[k].ducts (by omega) (fun q hq => (hends _ (hmem q hq)).2.2) (fun q hq => ⟨(hends _ (hmem q hq)).1, (hends _ (hmem q hq)).2.1⟩)) ?_
  rintro _ _ ⟨rfl, b, rfl, hb⟩
  have hpb : pathB d l[k] = b := pathB_of hb
  rw [hpb] at hbt
  conv => whnf
  repeat' (first | (refine CondG.mk (fun h => ?_) (fun h => ?_) <;> (try simp only [qA, qB, qC, qD, qE, qF, qG, qH] at h) <;> (first | (exfalso; first | omega | exact h trivial) | (conv => whnf))) | (refine AppG.mk (by first | omega | (unfold roomOK; simp [cutRows]; done) | (unfold roomOK; simp [cutRows]; omega) | (simp [cutRows]; done) | (simp [cutRows]; omega)) ?_; conv => whnf) | fail)
  ·have hbf : b = false := by simpa using h
   rw [if_neg (by rw [hbf]; decide)] at hbt
   exact count_next () hk (by rw [wrap_succ hk (by omega), hbt, List.map_append]; rfl) trivial
  ·have hbf : b = true := by simpa using h
   rw [if_pos hbf, List.append_nil] at hbt
   exact count_next () hk (by rw [wrap_succ hk (by omega), hbt]; rfl) trivial
 ·intro _ _
  rw [List.take_length]
  conv => whnf
  repeat' (first | (refine CondG.mk (fun h => ?_) (fun h => ?_) <;> (try simp only [qA, qB, qC, qD, qE, qF, qG, qH] at h) <;> (first | (exfalso; first | omega | exact h trivial) | (conv => whnf))) | fail)
  exact .frz 0 _ _ _ rfl (.weak [_] (.fro 0 _ _ rfl) rfl (Nat.le_refl _))
def OptW (E : List Ed) (fr to : ByteArray) (w : Wy) : Prop := (∃ W, Wk E fr to W ∧ w = wyOf W) ∧ ∀ W, Wk E fr to W → ¬ wLt (wyOf W) w
section
variable {E : List Ed} {fr to : ByteArray}
theorem OptW.one {w w' : Wy} (h : OptW E fr to w) (h' : OptW E fr to w') : w = w' := by
 obtain ⟨⟨W, hW, e⟩, h2⟩ := h
 obtain ⟨⟨W', hW', e'⟩, h2'⟩ := h'
 have a := h2' W hW
 have b := h2 W' hW'
 rw [← e] at a
 rw [← e'] at b
 exact wLe_one b a
theorem fw_opt (hE : EdsOk E) (hR : Rise Ed.key E) {S : List ByteArray} {g : CM} (hC : Costs E to S g) {c : Co} {P : List Ed} (hF : FW E g to fr to c P) : OptW E fr to (P.map Ed.key, sumLg P) := by
 have hP := hF.fc [] .nil
 rw [List.append_nil] at hP
 exact ⟨⟨P, hP.wk, rfl⟩, fun W hW => hP.least hE hC (fun i j hi hj hij => Rise.at hR hij hj) hW⟩
theorem g_none (hE : EdsOk E) {S : List ByteArray} {g : CM} (hC : Costs E to S g) (hg : g.get fr = none) : ¬ ∃ w, OptW E fr to w := by
 rintro ⟨w, ⟨W, hW, _⟩, _⟩
 obtain ⟨c, h4, _⟩ := wk_cost hE hC hW rfl
 rw [hg] at h4; cases h4
theorem wopt_some {B : WM} (hB : WOpt E fr B) {w : Wy} (h : B.get to = some w) : OptW E fr to w :=
 ⟨hB.1 to w h, fun W hW => by obtain ⟨w', h1, h2⟩ := hB.2 to W hW; rw [h] at h1; cases h1; exact h2⟩
theorem wopt_no {B : WM} (hB : WOpt E fr B) (h : B.get to = none) : ¬ ∃ w, OptW E fr to w := by
 rintro ⟨w, ⟨W, hW, _⟩, _⟩
 obtain ⟨w', h1, _⟩ := hB.2 to W hW
 rw [h] at h1; cases h1
theorem minCut_one {n m : Int} (h : MinCut E fr to n) (h' : MinCut E fr to m) : n = m := by
 obtain ⟨⟨C, a1, a2, a3⟩, a4⟩ := h
 obtain ⟨⟨C', b1, b2, b3⟩, b4⟩ := h'
 have := b4 C a1 a2
 have := a4 C' b1 b2
 omega
open Classical in
noncomputable def capZ (E : List Ed) (fr to : ByteArray) : Int := if h : ∃ n, MinCut E fr to n then Classical.choose h else 0
theorem capZ_is {n : Int} (h : MinCut E fr to n) : n = capZ E fr to := by
 unfold capZ
 rw [dif_pos ⟨n, h⟩]
 exact minCut_one h (Classical.choose_spec (⟨n, h⟩ : ∃ n, MinCut E fr to n))
end
theorem BestM.cut {cap : Du → Int} {d : List Du} {Z : List ByteArray} {fr to : ByteArray} {b : Int} (hcap : ∀ x ∈ d, 0 ≤ cap x) (hZ : ∀ x ∈ d, x.a ∈ Z ∧ x.b ∈ Z) (hf : fr ∈ Z) (ht : to ∈ Z) (hne : fr ≠ to) (h : BestM cap d Z fr to (2 ^ Z.length) b) : MinCut (netE cap d) fr to b := by
 have key : ∀ C : ByteArray → Bool, C fr = true → C to = false → b ≤ cutC C (netE cap d) ∧ 0 ≤ b := by
  intro C h1 h2
  have g1 := side_mask C hf
  have g2 := side_mask C ht
  have g3 := maskOf_lt C Z
  rw [cutK_net cap C d hcap]
  rcases h with ⟨_, k2⟩ | ⟨k1, _, k4⟩
  ·exact absurd ⟨by rw [g1, h1], by rw [g2, h2]⟩ (k2 _ g3)
  ·have := k4 _ g3 (by rw [g1, h1]) (by rw [g2, h2])
   rw [cutK_eq cap d (fun x hx => ⟨side_mask C (hZ x hx).1, side_mask C (hZ x hx).2⟩)] at this
   exact ⟨this, k1⟩
 refine ⟨?_, fun C h1 h2 => (key C h1 h2).1⟩
 have h0 := (key (fun s => decide (s = fr)) (by simp) (by simpa using fun q : to = fr => hne q.symm)).2
 rcases h with ⟨k1, _⟩ | ⟨_, ⟨m, _, k2, k3, k5⟩, _⟩
 ·omega
 ·exact ⟨sideM Z m, k2, k3, by rw [cutK_net cap _ d hcap, k5]⟩
section
variable (d : List Du) (l : List Ly) (h0 : lyFault d l = 0) (fr to : ByteArray) (o : Int)
include h0
theorem wayS_pc (he : endsErr d fr to o = 0) {w : Wy} (hw : OptW (netE (fitCap l o) d) fr to w) : PCp 7 [.c (.lst 5 (d.map encDu)), .c (.lst 3 (l.map encLy)), .c (.str fr), .c (.str to), .c (.int .i64 o)] [] (.tup [.c (.lst 1 (w.1.map encS)), .c (.int .i64 w.2), .c (.bool true), .c (.int .i64 0)]) [] := by
 obtain ⟨n1, n2, n3⟩ := net_ok (du_of h0) (fitCap l o)
 refine PCx.monoW (wayX_pc d l h0 fr to o he) ?_
 rintro r os ⟨h1, g, hC, ⟨hn, _⟩ | ⟨c, P, hF, hr⟩⟩
 ·exact absurd ⟨w, hw⟩ (g_none n1 hC hn)
 ·have e := hw.one (fw_opt n1 n3 hC hF)
  subst e
  exact ⟨hr, h1⟩
theorem wayN_pc (he : endsErr d fr to o = 0) (hw : ¬ ∃ w, OptW (netE (fitCap l o) d) fr to w) : PCp 7 [.c (.lst 5 (d.map encDu)), .c (.lst 3 (l.map encLy)), .c (.str fr), .c (.str to), .c (.int .i64 o)] [] (.tup [.c (.lst 1 []), .c (.int .i64 0), .c (.bool false), .c (.int .i64 0)]) [] := by
 obtain ⟨n1, n2, n3⟩ := net_ok (du_of h0) (fitCap l o)
 refine PCx.monoW (wayX_pc d l h0 fr to o he) ?_
 rintro r os ⟨h1, g, hC, ⟨hn, hr⟩ | ⟨c, P, hF, hr⟩⟩
 ·exact ⟨hr, h1⟩
 ·exact absurd ⟨_, fw_opt n1 n3 hC hF⟩ hw
theorem rWayS_pc (hd : d.length ≤ 100) (ho : 0 ≤ o ∧ o ≤ 1000) {w : Wy} (hw : OptW (netE (fitCap l o) d) fr to w) : PCp 18 [.c (.lst 5 (d.map encDu)), .c (.lst 3 (l.map encLy)), .c (.str fr), .c (.str to), .c (.int .i64 o)] [] (.tup [.c (.lst 1 (w.1.map encS)), .c (.int .i64 w.2), .c (.bool true)]) [] := by
 refine PCx.monoW (rWayOf_pc d l h0 hd fr to o ho) ?_
 rintro r os ⟨h1, B, hB, ⟨hn, _⟩ | ⟨w', hw', hr⟩⟩
 ·exact absurd ⟨w, hw⟩ (wopt_no hB hn)
 ·have e := hw.one (wopt_some hB hw')
  subst e
  exact ⟨hr, h1⟩
theorem rWayN_pc (hd : d.length ≤ 100) (ho : 0 ≤ o ∧ o ≤ 1000) (hw : ¬ ∃ w, OptW (netE (fitCap l o) d) fr to w) : PCp 18 [.c (.lst 5 (d.map encDu)), .c (.lst 3 (l.map encLy)), .c (.str fr), .c (.str to), .c (.int .i64 o)] [] (.tup [.c (.lst 1 []), .c (.int .i64 0), .c (.bool false)]) [] := by
 refine PCx.monoW (rWayOf_pc d l h0 hd fr to o ho) ?_
 rintro r os ⟨h1, B, hB, ⟨hn, hr⟩ | ⟨w', hw', _⟩⟩
 ·exact ⟨hr, h1⟩
 ·exact absurd ⟨_, wopt_some hB hw'⟩ hw
def midL (l : List Ly) (cable : ByteArray) (o : Int) (w : Wy) : List Ly := l.take (cntL (fun x : Ly => cmpS x.cable cable) l) ++ [(⟨cable, o, insSort cmpS w.1⟩ : Ly)] ++ l.drop (cntL (fun x : Ly => cmpS x.cable cable) l)
theorem laidS_pc (cable : ByteArray) (hck : keyB cable = true) (hcab : cabIx l cable = -1) (hll : l.length < 300) (he : endsErr d fr to o = 0) {w : Wy} (hw : OptW (netE (fitCap l o) d) fr to w) : PCp 8 [.c (.lst 5 (d.map encDu)), .c (.lst 3 (l.map encLy)), .c (.str cable), .c (.str fr), .c (.str to), .c (.int .i64 o)] [] (.tup [.c (.lst 3 ((midL l cable o w).map encLy)), .c (.int .i64 0)]) [] := by
 obtain ⟨n1, n2, n3⟩ := net_ok (du_of h0) (fitCap l o)
 refine PCx.monoW (laidG_pc d l h0 cable hck hcab fr to o he hll) ?_
 rintro r os ⟨h1, g, hC, ⟨hn, _⟩ | ⟨c, P, i, hF, hi, hr⟩⟩
 ·exact absurd ⟨w, hw⟩ (g_none n1 hC hn)
 ·have e := hw.one (fw_opt n1 n3 hC hF)
  subst e hi
  exact ⟨hr, h1⟩
theorem laidN_pc (cable : ByteArray) (hck : keyB cable = true) (hcab : cabIx l cable = -1) (hll : l.length < 300) (he : endsErr d fr to o = 0) (hw : ¬ ∃ w, OptW (netE (fitCap l o) d) fr to w) : PCp 8 [.c (.lst 5 (d.map encDu)), .c (.lst 3 (l.map encLy)), .c (.str cable), .c (.str fr), .c (.str to), .c (.int .i64 o)] [] (.tup [.c (.lst 3 []), .c (.int .i64 12)]) [] := by
 obtain ⟨n1, n2, n3⟩ := net_ok (du_of h0) (fitCap l o)
 refine PCx.monoW (laidG_pc d l h0 cable hck hcab fr to o he hll) ?_
 rintro r os ⟨h1, g, hC, ⟨hn, hr⟩ | ⟨c, P, i, hF, hi, hr⟩⟩
 ·exact ⟨hr, h1⟩
 ·exact absurd ⟨_, fw_opt n1 n3 hC hF⟩ hw
theorem rLaidS_pc (hd : d.length ≤ 100) (ho : 0 ≤ o ∧ o ≤ 1000) (cable : ByteArray) (hcab : cabIx l cable = -1) (hll : l.length < 300) {w : Wy} (hw : OptW (netE (fitCap l o) d) fr to w) : PCp 20 [.c (.lst 5 (d.map encDu)), .c (.lst 3 (l.map encLy)), .c (.str cable), .c (.str fr), .c (.str to), .c (.int .i64 o)] [] (.tup [.c (.lst 3 ((midL l cable o w).map encLy)), .c (.int .i64 0)]) [] := by
 refine PCx.monoW (rLaidOf_pc d l h0 hd hll cable fr to hcab o ho) ?_
 rintro r os ⟨h1, B, hB, ⟨hn, _⟩ | ⟨w', i, hw', hi, hr⟩⟩
 ·exact absurd ⟨w, hw⟩ (wopt_no hB hn)
 ·have e := hw.one (wopt_some hB hw')
  subst e hi
  exact ⟨hr, h1⟩
theorem rLaidN_pc (hd : d.length ≤ 100) (ho : 0 ≤ o ∧ o ≤ 1000) (cable : ByteArray) (hcab : cabIx l cable = -1) (hll : l.length < 300) (hw : ¬ ∃ w, OptW (netE (fitCap l o) d) fr to w) : PCp 20 [.c (.lst 5 (d.map encDu)), .c (.lst 3 (l.map encLy)), .c (.str cable), .c (.str fr), .c (.str to), .c (.int .i64 o)] [] (.tup [.c (.lst 3 []), .c (.int .i64 12)]) [] := by
 refine PCx.monoW (rLaidOf_pc d l h0 hd hll cable fr to hcab o ho) ?_
 rintro r os ⟨h1, B, hB, ⟨hn, hr⟩ | ⟨w', i, hw', hi, hr⟩⟩
 ·exact ⟨hr, h1⟩
 ·exact absurd ⟨_, wopt_some hB hw'⟩ hw
theorem capS_pc (he : endsErr d fr to o = 0) : PCp 11 [.c (.lst 5 (d.map encDu)), .c (.lst 3 (l.map encLy)), .c (.str fr), .c (.str to), .c (.int .i64 o)] [] (.tup [.c (.int .i64 (capZ (netE (mostCap l o) d) fr to)), .c (.int .i64 0)]) [] := by
 refine PCx.monoW (capacity_pc d l h0 fr to o he) ?_
 rintro r os ⟨h1, n, hM, hr⟩
 rw [← capZ_is hM]
 exact ⟨hr, h1⟩
theorem rCapS_pc (he : endsErr d fr to o = 0) (hd : d.length ≤ 6) : PCp 19 [.c (.lst 5 (d.map encDu)), .c (.lst 3 (l.map encLy)), .c (.str fr), .c (.str to), .c (.int .i64 o)] [] (.c (.int .i64 (capZ (netE (mostCap l o) d) fr to))) [] := by
 obtain ⟨e1, e2, e3, e4⟩ := ends_ok he
 have hsite : ∀ {s}, siteB d s = true → s ∈ sitZ d := fun {s} h => by
  unfold siteB at h
  obtain ⟨x, hx, h1⟩ := List.any_eq_true.1 h
  rw [Bool.or_eq_true, decide_eq_true_eq, decide_eq_true_eq] at h1
  exact sitZ_mem.2 ⟨x, hx, h1.imp Eq.symm Eq.symm⟩
 refine PCx.monoW (rCapOf_pc d l h0 hd fr to e3 e1 e2 o ⟨by omega, by omega⟩) ?_
 rintro r os ⟨h1, b, hB, hr⟩
 have hM : MinCut (netE (mCap l o) d) fr to b := hB.cut (fun x _ => (mCap_bd l o x).1) (fun x hx => ⟨sitZ_mem.2 ⟨x, hx, .inl rfl⟩, sitZ_mem.2 ⟨x, hx, .inr rfl⟩⟩) (hsite e1) (hsite e2) e3
 have e : mCap l o = mostCap l o := rfl
 rw [e] at hM
 rw [← capZ_is hM]
 exact ⟨hr, h1⟩
end
theorem rFull_pc {L : List Int} {p : Int} (hst : StOk L p) (hp : p ≤ 800000000) :
  PCq 28 [.c (.ptr 0 0)] [stO L p] fun r os => ∃ (d : List Du) (l : List Ly), r = .tup [.c (.lst 5 (d.map encDu)), .c (.lst 3 (l.map encLy))] ∧ os = [stO L (p + 1)] ∧ d.length ≤ 6 ∧ l.length ≤ 100 ∧ (∀ x ∈ l, x.ducts.length ≤ 100) := by
 have hQ : ∀ x : Int, p ≤ x → x ≤ p + 100 → StOk L x := fun x h3 h4 => ⟨hst.1, by have := hst.2.1; omega, by omega⟩
 have hb := nextV_lt L p 3 (by omega)
 have hv : -1 ≤ pickV L p [-1, 0, 1] ∧ pickV L p [-1, 0, 1] ≤ 1 := by
  unfold pickV
  have h3 : ([-1, 0, 1] : List Int).length = 3 := rfl
  rw [h3]
  rcases (show (nextV L p (3 : Nat)).toNat = 0 ∨ (nextV L p (3 : Nat)).toNat = 1 ∨ (nextV L p (3 : Nat)).toNat = 2 by have : ((3 : Nat) : Int) = 3 := rfl; rw [this]; omega) with h | h | h <;> rw [h] <;> decide
 refine fnPX Tryz.func28 Tryz.results28 ?_
 conv => whnf
 repeat' (first | (refine  CallX.mk _ _ (by exact pick_ok (hQ _ (by omega) (by omega)) [_, _, _] (by simp) (by simp)) ?_; conv => whnf) | fail)
 obtain ⟨n, hn⟩ := Int.eq_ofNat_of_zero_le (show 0 ≤ 20 + pickV L p [-1, 0, 1] by omega)
 rw [wrap_in (by omega) (by omega), hn]
 refine loop_for (n) [.sl 5 57 3] [4, 5, 12, 13] (fun k (l : List Ly) => [(13, .c (.int .i64 (k : Int)))]) (fun k (l : List Ly) => [(2, .row 57 3 (l.map encLy))]) (fun k (l : List Ly) => l.length ≤ k ∧ (∀ x ∈ l, x.ducts.length ≤ 10)) ([]) ?_
 conv => whnf
 refine ⟨(by first | rfl | (simp; done) | (simp; rfl)), ?_, ?_, ?_⟩
 ·exact ⟨by simp, by simp⟩
 ·intro k l hk ⟨h1, h2⟩
  have hlm : (l.map encLy).length = l.length := List.length_map ..
  conv => whnf
  repeat' (first | (refine CondG.mk (fun h => ?_) (fun h => ?_) <;> (try simp only [qA, qB, qC, qD, qE, qF, qG, qH] at h) <;> (first | (exfalso; first | omega | exact h trivial | (simp [cutRows] at h; done) | (simp [cutRows] at h; omega)) | (conv => whnf))) | (refine AppG.mk (by first | omega | (unfold roomOK; simp [cutRows]; done) | (unfold roomOK; simp [cutRows]; omega) | (simp [cutRows]; done) | (simp [cutRows]; omega)) ?_; conv => whnf) | ((refine .mk (lab_ok _ _ (by decide)) ?_); conv => whnf) | (refine HookG.no ?_; conv => whnf) | fail)
  exact count_next (l ++ [(⟨_, _, [_]⟩ : Ly)]) hk (by rw [wrap_succ hk (by omega), List.map_append]; rfl) ⟨by simp; omega, by intro x hx; rcases List.mem_append.1 hx with hx | hx; exact h2 x hx; simp at hx; subst hx; simp⟩
 ·intro l ⟨h1, h2⟩
  have hlm : (l.map encLy).length = l.length := List.length_map ..
  conv => whnf
  repeat' (first | (refine CondG.mk (fun h => ?_) (fun h => ?_) <;> (try simp only [qA, qB, qC, qD, qE, qF, qG, qH] at h) <;> (first | (exfalso; first | omega | exact h trivial | (simp [cutRows] at h; done) | (simp [cutRows] at h; omega)) | (conv => whnf))) | fail)
  refine .mk _ _ ⟨[⟨⟨#[100, 49]⟩, ⟨#[97]⟩, ⟨#[98]⟩, 10, 1000⟩], l, rfl, rfl, by simp, by omega, fun x hx => Nat.le_trans (h2 x hx) (by decide)⟩ (.frz 1 _ _ _ rfl (.frz 2 _ _ _ rfl (.weak [_, _] (.tup _ _ rfl ?_) rfl (Nat.le_refl _))))
  intro i a b ha hb
  match i with
  | 0 => cases ha; cases hb; exact .fro 1 _ _ rfl
  | 1 => cases ha; cases hb; exact .fro 2 _ _ rfl
theorem rOuter_pc {L : List Int} {p : Int} (hst : StOk L p) : PCq 6 [.c (.ptr 0 0)] [stO L p] fun r os => ∃ n : Int, r = .c (.int .i64 n) ∧ os = [stO L (p + 1)] := by
 have hQ : ∀ x : Int, p ≤ x → x ≤ p → StOk L x := fun x h3 h4 => by have : x = p := by omega
                                                                    rw [this]; exact hst
 refine fnPX Tryz.func6 Tryz.results6 ?_
 conv => whnf
 repeat' (first | (refine  CallX.mk _ _ (by exact pick_ok (hQ _ (by omega) (by omega)) [_, _, _, _, _, _, _, _, _] (by simp) (by simp)) ?_; conv => whnf) | fail)
 exact .mk _ _ ⟨_, rfl, rfl⟩ (.mk ⟨rfl, rfl⟩)
theorem ducted_pc : PCp 26 [] [] (.c (.bool true)) [] := by
 have hlk : lyFault [⟨⟨#[100]⟩, ⟨#[97]⟩, ⟨#[98]⟩, 1, 10⟩] [⟨⟨#[107]⟩, 5, [⟨#[100]⟩]⟩] = 0 := by decide +kernel
 have ho : oneE [⟨⟨#[100]⟩, ⟨#[97]⟩, ⟨#[98]⟩, 1, 10⟩] [⟨⟨#[107]⟩, 5, [⟨#[100]⟩]⟩] ⟨#[100]⟩ = 0 := by decide +kernel
 have hv : fillV [⟨⟨#[100]⟩, ⟨#[97]⟩, ⟨#[98]⟩, 1, 10⟩] [⟨⟨#[107]⟩, 5, [⟨#[100]⟩]⟩] ⟨#[100]⟩ = (1, 4) := by decide +kernel
 have hF := dFill_pc [⟨⟨#[100]⟩, ⟨#[97]⟩, ⟨#[98]⟩, 1, 10⟩] [⟨⟨#[107]⟩, 5, [⟨#[100]⟩]⟩] (by simp) ⟨#[100]⟩
 refine fnP Tryz.func26 Tryz.results26 ?_
 conv => whnf
 rw [ho, hv] at hF
 repeat' (first | (refine Split.mk (fun h => ?_) (fun h => ?_) <;> (try simp only [qA, qB, qC, qD, qE, qF, qG, qH] at h) <;> (first | (exfalso; first | omega | exact h trivial | contradiction | (simp_all [eqRes]; done)) | (conv => whnf))) | (refine  CallX.mk _ _ (by exact hF) ?_; conv => whnf) | (refine HookG.no ?_; conv => whnf) | fail)
 exact finb rfl
theorem pair_pc {L : List Int} {p : Int} (hst : StOk L p) (hp : p ≤ 700000000) :
  PCq 4 [.c (.ptr 0 0)] [stO L p] fun r os => ∃ (d : List Du) (l : List Ly) (p' : Int), r = .tup [.c (.lst 5 (d.map encDu)), .c (.lst 3 (l.map encLy))] ∧ os = [stO L p'] ∧ d.length ≤ 6 ∧ l.length ≤ 100 ∧ (∀ x ∈ l, x.ducts.length ≤ 100) ∧ p ≤ p' ∧ p' ≤ p + 1000 := by
 have hS : ∀ x : Int, p ≤ x → x ≤ p + 1000 → StOk L x := fun x h3 h4 => ⟨hst.1, by have := hst.2.1; omega, by omega⟩
 have hQ : ∀ x : Int, p ≤ x → x ≤ p → StOk L x := fun x h3 h4 => hS x (by omega) (by omega)
 refine fnPX Tryz.func4 Tryz.results4 ?_
 conv => whnf
 repeat' (first | (refine CondG.mk (fun h => ?_) (fun h => ?_) <;> (try simp only [qA, qB, qC, qD, qE, qF, qG, qH] at h) <;> (first | (exfalso; first | omega | exact h trivial | (simp [cutRows] at h; done) | (simp [cutRows] at h; omega)) | (conv => whnf))) | (refine  CallX.mk _ _ (by exact flip_ok (hQ _ (by omega) (by omega)) _ (by omega)) ?_; conv => whnf) | fail)
 ·refine .ex _ (rFull_pc (hS (p + 1) (by omega) (by omega)) (by omega)) ?_
  rintro _ _ ⟨d, l, rfl, rfl, h1, h2, h3⟩
  conv => whnf
  skip
  exact .mk _ _ ⟨d, l, _, rfl, rfl, h1, h2, h3, by omega, by omega⟩ (.mk ⟨rfl, rfl⟩)
 ·refine .ex _ (rDucts_pc (hS (p + 1) (by omega) (by omega)) (by omega)) ?_
  rintro _ _ ⟨d, p1, rfl, rfl, h1, h2, h3⟩
  conv => whnf
  skip
  refine .ex _ (rLyIn_pc (hS p1 (by omega) (by omega)) (by omega) d h1) ?_
  rintro _ _ ⟨l, p2, rfl, rfl, h4, h5, h6, h7⟩
  conv => whnf
  skip
  exact .mk _ _ ⟨d, l, _, rfl, rfl, h1, by omega, h5, by omega, by omega⟩ (.mk ⟨rfl, rfl⟩)
theorem equalS_nil (a : List ByteArray) (ha : a = []) : PCp 23 [.c (.lst 1 (a.map encS)), .c .nils] [] (.c (.bool true)) [] := by
 have := (equalS_pc a [] (by rw [ha]; simp)).wk (gs := [.c (.lst 1 (a.map encS)), .c .nils]) (P2.cons (.refl _) (P2.cons (.c (.nils 1)) P2.nil))
 rwa [decide_eq_true ha] at this
theorem equalS_same (a b : List ByteArray) (h : a = b) (hl : a.length ≤ 1000000) : PCp 23 [.c (.lst 1 (a.map encS)), .c (.lst 1 (b.map encS))] [] (.c (.bool true)) [] := by
 have := equalS_pc a b hl
 rwa [decide_eq_true h] at this
end Go.Proofs.YtkefgcleaalnnaaGreat

/- Go's sort, by the kit's contract of it, as a contract of the abstract walk. -/
import Derived.Test.YtkefgcleaalnnaaGreatAbsZ
import Derived.Test.YtkefgcleaalnnaaGreatAbsVw
import Derived.Shelf.SlSortCmp.NoneTotal
namespace Go.Proofs.YtkefgcleaalnnaaGreat
set_option linter.unusedVariables false
set_option linter.unusedSimpArgs false
namespace Abs
open Go.Shelf Go.Sort Go.RowKit

theorem grown_eq {w w' : World} (h1 : w'.os = w.os) (h2 : w'.tape = w.tape) (h3 : w'.output = w.output) (h4 : w.drawn ≤ w'.drawn) (h5 : w.heap.size ≤ w'.heap.size) (h6 : ∀ b, b < w.heap.size → w'.heap[b]? = w.heap[b]?) : ∃ q os', w' = grow (w.drewN q) os' := by
 refine ⟨w'.drawn - w.drawn, w'.heap.extract w.heap.size w'.heap.size, ?_⟩
 have hh : w'.heap = w.heap ++ w'.heap.extract w.heap.size w'.heap.size := by
  apply Array.ext_getElem?
  intro i
  rcases Nat.lt_or_ge i w.heap.size with h | h
  ·rw [h6 i h, Array.getElem?_append_left h]
  ·rw [Array.getElem?_append_right h, Array.getElem?_extract]
   split
   ·rw [show w.heap.size + (i - w.heap.size) = i by omega]
   ·rename_i h7
    rw [Array.getElem?_eq_none (by omega)]
 obtain ⟨hp, tp, dr, o, ou⟩ := w'
 obtain ⟨hp0, tp0, dr0, o0, ou0⟩ := w
 simp only at h1 h2 h3 h4 hh
 subst h1 h2 h3
 unfold grow World.drewN
 simp only
 congr 1
 omega
structure Sorted' {A : Type} (c : A → A → Int) (l l' : List A) : Prop where
 perm : l'.Perm l
 le : l'.Pairwise fun x y => ¬ c y x < 0
structure SWOc {A : Type} (c : A → A → Int) : Prop where
 irrefl : ∀ x, ¬ c x x < 0
 trans : ∀ x y z, c x y < 0 → c y z < 0 → c x z < 0
 ntrans : ∀ x y z, ¬ c x y < 0 → ¬ c y z < 0 → ¬ c x z < 0
theorem SWOc.swo {A B : Type} {c : A → A → Int} (h : SWOc c) (f : B → A) : SWO (ltOf fun x y : B => c (f x) (f y)) := by
 refine ⟨fun x => ?_, fun x y z h1 h2 => ?_, fun x y z h1 h2 => ?_⟩
 ·simpa [ltOf] using h.irrefl (f x)
 ·simp only [ltOf, decide_eq_true_eq] at *; exact h.trans _ _ _ h1 h2
 ·simp only [ltOf, decide_eq_false_iff_not] at *; exact h.ntrans _ _ _ h1 h2
variable {P : Program} {ρ : Ren}
theorem cmpLays_of (hd : dm) {A : Type} {encA : A → List V} {c : A → A → Int} {g : Nat} (hg : ∀ x y : A, PCs P g [.agg (encA x), .agg (encA y)] [] (.c (.int .i64 (c x y))) [])
  {F : Nat → Prop} {w : World} {n k : Nat} [Inhabited (Fin n)] (f : Fin n → A) (enc : Fin n → List Value) (henc : ∀ i, P2 (RT F w) (enc i) (encA (f i))) {blk : Nat} (hF : ¬ F blk) (hbd : ∀ b, F b → b < w.heap.size) (htb : ∀ g ∈ globs, F g.1 ∧ ∃ cs t f, g.2 cs ∧ w.heap[g.1]? = some (.cells cs t f)) (size : Nat) :
  CmpLays P g #[] enc k (fun i j => c (f i) (f j)) blk 0 size w := by
 intro m os dk hs x y
 have hheap : ∀ b, F b → (sortWorldK enc k w blk 0 m dk os).heap[b]? = w.heap[b]? := by
  intro b hb
  have hlt := hbd b hb
  have hne : b ≠ blk := fun e => hF (e ▸ hb)
  unfold sortWorldK grow putRowK putRow mapBlock Sort.ahead
  simp only
  rw [Array.getElem?_append_left (by simpa using hlt), Array.getElem?_modify, if_neg (Ne.symm hne)]
 have hsz : w.heap.size ≤ (sortWorldK enc k w blk 0 m dk os).heap.size := by
  unfold sortWorldK grow putRowK putRow mapBlock Sort.ahead
  simp
 have hrt : ∀ i, P2 (RT F (sortWorldK enc k w blk 0 m dk os)) (enc i) (encA (f i)) := fun i => (henc i).mono fun a b h => h.up (fun _ h => h) hheap
 have hargs : P2 (RS F (fun _ => none) (sortWorldK enc k w blk 0 m dk os)) (#[Value.agg (enc x).toArray, .agg (enc y).toArray] ++ #[]).toList [.agg (encA (f x)), .agg (encA (f y))] := by
  simp only [Array.append_empty]
  exact P2.cons (.agg _ _ ((hrt x).mono fun _ _ h => .tree h)) (P2.cons (.agg _ _ ((hrt y).mono fun _ _ h => .tree h)) P2.nil)
 refine ((hg (f x) (f y)).calls F (fun _ => none) _ _ hargs ⟨fun l o h => by simp [nth] at h, fun l l' o o' b h => by simp [nth] at h, fun l o b h => by simp [nth] at h, fun b hb => Nat.lt_of_lt_of_le (hbd b hb) hsz, fun l c h => (by cases h), fun g hg => ⟨(htb g hg).1, by obtain ⟨h6, cs, t, fm, h8, h7⟩ := htb g hg; exact ⟨cs, t, fm, h8, (hheap _ h6).trans h7⟩⟩⟩ (fun l c h => by cases h)).mono ?_
 rintro e w' ⟨cv, F', φ', r, os', hQ, rfl, hr, hn⟩
 obtain ⟨rfl, rfl⟩ := hQ
 have hcv := hr.int_inv
 subst hcv
 refine ⟨rfl, ?_⟩
 exact grown_eq hn.os hn.tape hn.output (hn.drawn hd) hn.size fun b hb => by
  by_cases e : w'.heap[b]? = (sortWorldK enc k w blk 0 m dk os).heap[b]?
  ·exact e
  ·obtain ⟨l, o, h1, _⟩ := hn.keep b hb e
   simp [nth] at h1
theorem Nx.same {F : Nat → Prop} {φ : Nat → Option Value} {X : Nat → Prop} {w : World} {objs : List Ob} {N : Nat → Prop} (hr : Rp F φ X w (nth objs)) : Nx F φ w (nth objs) N (chOf 0 objs) F φ w := by
 have hg : ∀ l o, chGet (chOf 0 objs) l = some o → nth objs l = some o := by
  intro l o h
  rw [chGet_chOf] at h
  rw [nth_eq]; simpa using h
 refine ⟨fun _ h => h, fun _ _ h => h, fun _ _ h => .inl h, rfl, rfl, rfl, fun _ => Nat.le_refl _, Nat.le_refl _, fun b _ hne => (hne rfl).elim, fun b h => .inl h, fun l o h => hr.objs l o (hg l o h), ?_, fun l l' o o' b h1 h2 => hr.inj l l' o o' b (hg l o h1) (hg l' o' h2)⟩
 intro l o b h1 h2 h3
 exact .inr ⟨l, o, hg l o h1, h2, h3, by rw [h1]; rfl⟩
theorem row_part {A : Type} {encA : A → List V} {k : Nat} (hsz : ∀ x, (encA x).length = k) (l : List A) {i : Nat} (hi : i < l.length) : ((l.map encA).flatten.drop (i * k)).take k = encA l[i] := by
 have h := (flat_cut (l.map encA) i (by intro r hr; obtain ⟨x, _, rfl⟩ := List.mem_map.1 hr; exact hsz x)).1
 rw [← h, List.drop_eq_getElem_cons (by simpa using hi), List.flatten_cons, List.getElem_map, List.take_append_of_le_length (by rw [hsz]; exact Nat.le_refl _), List.take_of_length_le (by rw [hsz]; exact Nat.le_refl _)]
theorem sort_pcx {A : Type} {encA : A → List V} {c : A → A → Int} (L : SlLaysF0.n6 P ρ) {k : Nat} (hk0 : 0 < k) (aE : ∀ w, (isAgg (ρ.t 24)).run P w = .ok true w) (zE : ∀ w, (Go.sizeOf (ρ.t 24)).run P w = .ok k w) (hsz : ∀ x, (encA x).length = k) (hc : SWOc c) {g : Nat}
  (hg : ∀ x y : A, PCs P g [.agg (encA x), .agg (encA y)] [] (.c (.int .i64 (c x y))) []) (e : Nat) (l : List A) (hl : l.length < 1000000000000) (hd : dm := by trivial) :
  PCx P (ρ.f 6) [.c (.row 0), .c (.fn g [])] [.row e k (l.map encA)] fun r os => ∃ l', Sorted' c l l' ∧ r = .tup [] ∧ os = [.row e k (l'.map encA)] := by
 refine ⟨?_, fun F φ w cargs hargs hobj hφ => ?_⟩
 ·obtain ⟨nm, hn, hf⟩ := L.f6
  exact ⟨_, hf, hn, rfl⟩
 obtain ⟨c0, cs1, e1, r0, hargs⟩ := hargs.cons_inv
 obtain ⟨c1, cs2, e2, r1, hargs⟩ := hargs.cons_inv
 have e3 := hargs.nil_inv
 subst e3 e2
 have hφ0 : φ 0 = some c0 := by
  cases r0 with | c h => cases h with
   | tree h => cases h
   | row _ _ h => exact h
 have hc1 : c1 = .func (.func g) #[] #[] := by
  cases r1 with | c h => cases h with
   | tree h => cases h
   | fn f caps cs hlen _ =>
    have : cs = #[] := by
     apply Array.eq_empty_of_size_eq_zero
     simpa using hlen
    rw [this]
 subst hc1
 have hca : cargs = #[c0, .func (.func g) #[] #[]] := Array.ext' e1
 subst hca
 have hob : nth [Ob.row e k (l.map encA)] 0 = some (.row e k (l.map encA)) := rfl
 have ho := hobj.objs 0 _ hob
 have zero : ∀ (p : Option Addr) (cap : Nat), l = [] → c0 = .slice p 0 cap → Calls P (ρ.f 6) #[c0, .func (.func g) #[] #[]] w fun ee w' => ∃ cc F' φ' r objs', (∃ l', Sorted' c l l' ∧ r = .tup [] ∧ objs' = [.row e k (l'.map encA)]) ∧ ee = .returned cc ∧ RS F' φ' w' cc r ∧ Nx F φ w (nth [Ob.row e k (l.map encA)]) (fun l_1 => [Ob.row e k (l.map encA)].length ≤ l_1) (chOf 0 objs') F' φ' w' := by
  intro p cap h0 hc0
  subst h0 hc0
  refine (AnyF.slices_SortFunc_none L p cap _ w).mono ?_
  rintro ee w' ⟨rfl, rfl⟩
  exact ⟨.tuple #[], F, φ, .tup [], [.row e k []], ⟨[], ⟨List.Perm.refl _, List.Pairwise.nil⟩, rfl, rfl⟩, rfl, .tup _ _ rfl (fun j c x h => by simp at h), Nx.same hobj⟩
 rcases ho with ⟨cv, xs, h1, h2, ⟨⟨hxl, hown⟩, hroomy⟩, h4, h5⟩ | ⟨h0, p, h1⟩
 ·rw [hφ0] at h1; cases h1
  rcases hown with ⟨hv, hn0⟩ | ⟨gb, cap, cur, hv, _, hh, hcap, hmx, hcs, htk⟩
  ·exact zero none 0 (by simpa using hn0) hv
  ·rcases Nat.eq_zero_or_pos l.length with hn | hn
   ·exact zero (some ⟨gb, 0, none⟩) cap (List.length_eq_zero_iff.1 hn) (by rw [hv]; simp [hn])
   ·subst hv
    simp only [List.length_map] at *
    have hFb : ¬ F gb := h2 gb (by cases cap with | zero => omega | succ => rfl)
    have : Inhabited (Fin l.length) := ⟨⟨0, hn⟩⟩
    let f : Fin l.length → A := fun i => l[i]
    let enc : Fin l.length → List Value := fun i => (xs.drop (i * k)).take k
    have hlen : ∀ i, (enc i).length = k := by
     intro i
     have h6 : (i : Nat) * k + k ≤ l.length * k := by
      have := Nat.mul_le_mul_right k i.isLt
      rw [Nat.succ_mul] at this; exact this
     simp only [enc, List.length_take, List.length_drop, hxl]
     omega
    have henc : ∀ i, P2 (RT F w) (enc i) (encA (f i)) := by
     intro i
     have := (h4.drop (i * k)).take k
     rw [row_part hsz l i.isLt] at this
     exact this
    have hone : ∀ i, ∀ v ∈ enc i, v.oneCell' = true := by
     intro i v hv
     obtain ⟨j, hj, rfl⟩ := List.getElem_of_mem hv
     have hj2 : j < (encA (f i)).length := by rw [← (henc i).1]; exact hj
     exact ((henc i).2 j _ _ (List.getElem?_eq_getElem hj) (List.getElem?_eq_getElem hj2)).one
    have hencget : ∀ (i : Fin l.length) t, t < k → (enc i)[t]? = xs[i * k + t]? := by
     intro i t ht
     simp only [enc, List.getElem?_take, if_pos ht, List.getElem?_drop]
    have hkk : ∀ t, t < l.length * k → t / k < l.length ∧ t % k < k ∧ (t / k) * k + t % k = t := by
     intro t ht
     refine ⟨Nat.div_lt_of_lt_mul (by rw [Nat.mul_comm]; exact ht), Nat.mod_lt _ hk0, ?_⟩
     rw [Nat.mul_comm]; exact Nat.div_add_mod t k
    have hds : (Array.ofFn (n := l.length) id).size = l.length := Array.size_ofFn
    have hdi : ∀ i (h : i < l.length), (Array.ofFn (n := l.length) id)[i]! = ⟨i, h⟩ := by
     intro i h
     rw [getElem!_pos _ i (by rw [hds]; exact h)]; simp
    have hcell : ∀ j, j < l.length * k → cur[j]? = xs[j]? := by
     intro j hj
     rw [← htk, List.getElem?_take, if_pos hj, Array.getElem?_toList]
    have hH : HoldsK enc k w gb 0 (Array.ofFn (n := l.length) id) := by
     intro j hj
     rw [size_flatK, hds] at hj
     obtain ⟨q1, q2, q3⟩ := hkk j hj
     have hx : xs[j]? = some xs[j] := List.getElem?_eq_getElem (by rw [hxl]; exact hj)
     refine ⟨?_, ?_⟩
     ·rw [get_flatK _ _ _ _ (by rw [hds]; exact hj), hdi _ q1]
      have h7 := hencget ⟨j / k, q1⟩ (j % k) q2
      simp only [q3, hx] at h7
      simp only [World.cell?, hh, Nat.zero_add, Option.isSome_none, Bool.false_eq_true, if_false, hcell j hj, hx, id]
      rw [List.getElem!_eq_getElem?_getD, h7]; rfl
     ·simp [World.frozen?, hh]
    have hblk : gb < w.heap.size := lt_heap hh
    have eg : ∀ args w, (callFunc g args).run P w = .ok (.enter g args) w := by
     obtain ⟨fn, hf, hn, hb⟩ := (hg (f default) (f default)).fn
     cases hbd : fn.body with
     | none => rw [hbd] at hb; cases hb
     | some cd => exact enters_of hf hn hbd
    have hS := AnyQ.slices_SortFunc L k aE zE enc hlen hone (fun i j => c (f i) (f j)) (hc.swo f) g #[] gb 0 cap (Array.ofFn (n := l.length) id) w eg (cmpLays_of hd hg f enc henc hFb hobj.bd hobj.tb _) hH hblk (by rw [hds]; omega)
    rw [hds] at hS
    refine hS.mono ?_
    rintro ee w' ⟨rfl, d', m, os, hperm, hsorted, rfl⟩
    have hd's : d'.size = l.length := by rw [hperm.1, hds]
    have hheap : ∀ b, b < w.heap.size → (sortWorldK enc k w gb 0 m d' os).heap[b]? = if b = gb then some (.cells (putCells id 0 (flatK enc k d') cur) e (0, 0)) else w.heap[b]? := by
     intro b hb
     unfold sortWorldK grow putRowK putRow mapBlock Sort.ahead
     simp only
     rw [Array.getElem?_append_left (by simpa using hb), Array.getElem?_modify]
     by_cases e4 : gb = b
     ·subst e4; rw [if_pos rfl, if_pos rfl, hh]; rfl
     ·rw [if_neg e4, if_neg (fun h => e4 h.symm)]
    have hsize : w.heap.size ≤ (sortWorldK enc k w gb 0 m d' os).heap.size := by
     unfold sortWorldK grow putRowK putRow mapBlock Sort.ahead
     simp
    have hFk : ∀ b, F b → (sortWorldK enc k w gb 0 m d' os).heap[b]? = w.heap[b]? := by
     intro b hb
     rw [hheap b (hobj.bd b hb), if_neg (fun e4 : b = gb => hFb (by rw [← e4]; exact hb))]
    have hfs : (flatK enc k d').size = l.length * k := by rw [size_flatK, hd's]
    have hmapd : (Array.ofFn (n := l.length) id).toList.map f = l := by
     apply List.ext_getElem
     ·simp
     ·intro i h1 h2; simp [f]
    have hl' : (d'.toList.map f).length = l.length := by simp [hd's]
    have hP : P2 (RT F (sortWorldK enc k w gb 0 m d' os)) (flatK enc k d').toList ((d'.toList.map f).map encA).flatten := by
     have hrl : ∀ r ∈ (d'.toList.map f).map encA, r.length = k := by intro r hr; obtain ⟨x, _, rfl⟩ := List.mem_map.1 hr; exact hsz x
     refine ⟨by rw [flat_len _ hrl]; simp [hd's], ?_⟩
     intro j x y hx hy
     have hj : j < l.length * k := by have := (List.getElem?_eq_some_iff.1 hx).1; simpa [hd's] using this
     obtain ⟨q1, q2, q3⟩ := hkk j hj
     have hdq : d'[j / k]? = some d'[j / k]! := by rw [getElem!_pos d' (j / k) (by omega), Array.getElem?_eq_getElem]
     have h7 : ((d'.toList.map f).map encA)[j / k]? = some (encA (f d'[j / k]!)) := by simp [hdq]
     have h8 : j % k < (encA (f d'[j / k]!)).length := by rw [hsz]; exact q2
     have h9 := flat_get hrl h7 (List.getElem?_eq_getElem h8)
     rw [q3, hy] at h9
     cases h9
     have h10 : j % k < (enc d'[j / k]!).length := by rw [hlen]; exact q2
     have h11 : x = (enc d'[j / k]!)[j % k] := by
      rw [Array.getElem?_toList] at hx
      have h12 := get_flatK enc k d' j (by rw [hd's]; exact hj)
      rw [getElem!_pos _ _ (by rw [hfs]; exact hj)] at h12
      rw [Array.getElem?_eq_getElem (by rw [hfs]; exact hj)] at hx
      cases hx
      rw [h12, List.getElem!_eq_getElem?_getD, List.getElem?_eq_getElem h10]; rfl
     rw [h11]
     exact ((henc d'[j / k]!).2 _ _ _ (List.getElem?_eq_getElem h10) (List.getElem?_eq_getElem h8)).up (fun _ h => h) hFk
    have hro : RO F φ (sortWorldK enc k w gb 0 m d' os) 0 (.row e k ((d'.toList.map f).map encA)) := by
     refine RO.mkrow (xs := (flatK enc k d').toList) hφ0 h2 ⟨?_, .inr ⟨gb, cap, putCells id 0 (flatK enc k d') cur, ?_, Nat.zero_le _, ?_, ?_, hmx, ?_, ?_⟩⟩ hP ?_
     ·simp [hd's]
     ·simp [hd's]
     ·rw [hheap gb hblk, if_pos rfl]
     ·simpa [hd's] using hcap
     ·simp [putCells, hcs]
     ·apply List.ext_getElem?
      intro j
      rw [List.getElem?_take]
      by_cases hj : j < l.length * k
      ·have hjc : j < cur.size := by rw [hcs]; exact Nat.lt_of_lt_of_le hj (Nat.mul_le_mul_right k hcap)
       rw [if_pos (by simpa [hd's] using hj)]
       simp only [putCells, Array.getElem?_toList, Array.getElem?_mapIdx, Array.getElem?_eq_getElem hjc, Option.map_some, Nat.zero_le, true_and, Nat.zero_add, Nat.sub_zero, id]
       rw [if_pos (by rw [hfs]; exact hj), Array.getElem?_eq_getElem (by rw [hfs]; exact hj), getElem!_pos _ _ (by rw [hfs]; exact hj)]
      ·rw [if_neg (by simpa [hd's] using hj), List.getElem?_eq_none (by simpa [hd's] using hj)]
     ·intro r hr; obtain ⟨x, _, rfl⟩ := List.mem_map.1 hr; exact hsz x
    have hone1 : ∀ l2 o, chGet (chOf 0 [Ob.row e k ((d'.toList.map f).map encA)]) l2 = some o → l2 = 0 ∧ o = .row e k ((d'.toList.map f).map encA) := by
     intro l2 o h
     rw [chGet_chOf] at h
     simp only [Nat.zero_le, if_true, Nat.sub_zero] at h
     cases l2 with
     | zero => simp only [List.getElem?_cons_zero, Option.some.injEq] at h; exact ⟨rfl, h.symm⟩
     | succ n => simp at h
    have hblk0 : blkOf φ 0 = some gb := by
     unfold blkOf; rw [hφ0]; cases cap with | zero => omega | succ => rfl
    refine ⟨.tuple #[], F, φ, .tup [], [.row e k ((d'.toList.map f).map encA)], ⟨d'.toList.map f, ⟨?_, ?_⟩, rfl, rfl⟩, rfl, .tup _ _ rfl (fun j c x h => by simp at h), ?_⟩
    ·have := hperm.2.2
     have w1 : (d'.extract 0 l.length).toList = d'.toList := by
      rw [Array.toList_extract]; simp [List.extract, hd's]
      exact List.take_of_length_le (by simp [hd's])
     have w2 : ((Array.ofFn (n := l.length) id).extract 0 l.length).toList = (Array.ofFn (n := l.length) id).toList := by
      rw [Array.toList_extract]; simp [List.extract]
      exact List.take_of_length_le (by simp)
     rw [w1, w2] at this
     have h6 := this.map f
     rwa [hmapd] at h6
    ·rw [List.pairwise_map, List.pairwise_iff_getElem]
     intro i j hi hj hij
     have h6 := hsorted i j (Nat.zero_le _) hij (by rw [← hd's]; simpa using hj)
     rw [getElem!_pos _ _ (by simpa using hj), getElem!_pos _ _ (by simpa using hi)] at h6
     simpa [ltOf] using h6
    ·refine ⟨fun _ h => h, fun _ _ h => h, fun _ _ h => .inl h, rfl, rfl, rfl, fun _ => Nat.le_add_right _ _, hsize, ?_, fun b h => .inl h, ?_, ?_, ?_⟩
     ·intro b hb hne
      rw [hheap b hb] at hne
      by_cases e4 : b = gb
      ·subst e4; exact ⟨0, _, hob, rfl, .inl hblk0, rfl⟩
      ·rw [if_neg e4] at hne; exact (hne rfl).elim
     ·intro l2 o h
      obtain ⟨rfl, rfl⟩ := hone1 l2 o h
      exact hro
     ·intro l2 o b h h6 h7
      obtain ⟨rfl, rfl⟩ := hone1 l2 o h
      exact .inr ⟨0, _, hob, rfl, .inl h7.base, rfl⟩
     ·intro l2 l3 o o' b h h6 _ _ _ _
      rw [(hone1 l2 o h).1, (hone1 l3 o' h6).1]
 ·exact zero _ 0 (by simpa using h0) (by rw [hφ0] at h1; cases h1; rfl)
theorem sorted_one {A : Type} {c : A → A → Int} (hc : SWOc c) (hT : ∀ x y, ¬ c x y < 0 → ¬ c y x < 0 → x = y) : ∀ {l1 l2 : List A}, l1.Perm l2 → (l1.Pairwise fun x y => ¬ c y x < 0) → (l2.Pairwise fun x y => ¬ c y x < 0) → l1 = l2
 | [], l2, hp, _, _ => by rw [List.nil_perm.1 hp]
 | a :: r, [], hp, _, _ => by have := hp.length_eq; simp at this
 | a :: r, b :: t, hp, h1, h2 => by
  obtain ⟨a1, a2⟩ := List.pairwise_cons.1 h1
  obtain ⟨b1, b2⟩ := List.pairwise_cons.1 h2
  have hab : a = b := by
   rcases List.mem_cons.1 (hp.mem_iff.1 (show a ∈ a :: r by simp)) with h | h
   ·exact h
   ·rcases List.mem_cons.1 (hp.mem_iff.2 (show b ∈ b :: t by simp)) with h' | h'
    ·exact h'.symm
    ·exact hT a b (b1 a h) (a1 b h')
  subst hab
  rw [sorted_one hc hT (List.Perm.cons_inv hp) a2 b2]
end Abs
end Go.Proofs.YtkefgcleaalnnaaGreat

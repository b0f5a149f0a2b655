/- Go's sort of elements of one cell, by the kit's contract of it. -/
import Derived.Test.YtjflmenfinohcaaGreatSort
namespace Go.Proofs.YtjflmenfinohcaaGreat
set_option linter.unusedVariables false
set_option linter.unusedSimpArgs false
namespace Abs
open Go.Shelf Go.Sort Go.RowKit
variable {P : Program} {ρ : Ren}
theorem cmpLays1_of (hd : dm) {A : Type} {encA : A → V} {c : A → A → Int} {g : Nat} (hg : ∀ x y : A, PCs P g [.c (encA x), .c (encA y)] [] (.c (.int .i64 (c x y))) [])
    {F : Nat → Prop} {w : World} {n : Nat} [Inhabited (Fin n)] (f : Fin n → A) (enc : Fin n → Value) (henc : ∀ i, RT F w (enc i) (encA (f i))) {blk : Nat} (hF : ¬ F blk) (hbd : ∀ b, F b → b < w.heap.size) (htb : ∀ g ∈ globs, F g.1 ∧ ∃ cs t f, g.2 cs ∧ w.heap[g.1]? = some (.cells cs t f)) (size : Nat) :
    CmpLays1 P g #[] enc (fun i j => c (f i) (f j)) blk 0 size w := by
  intro m os dk hs x y
  have hheap : ∀ b, F b → (sortWorld enc w blk 0 m dk os).heap[b]? = w.heap[b]? := by
    intro b hb
    have hlt := hbd b hb
    have hne : b ≠ blk := fun e => hF (e ▸ hb)
    unfold sortWorld grow putRow mapBlock Sort.ahead
    simp only
    rw [Array.getElem?_append_left (by simpa using hlt), Array.getElem?_modify, if_neg (Ne.symm hne)]
  have hsz : w.heap.size ≤ (sortWorld enc w blk 0 m dk os).heap.size := by
    unfold sortWorld grow putRow mapBlock Sort.ahead
    simp
  have hrt : ∀ i, RT F (sortWorld enc w blk 0 m dk os) (enc i) (encA (f i)) := fun i => (henc i).up (fun _ h => h) hheap
  have hargs : P2 (RS F (fun _ => none) (sortWorld enc w blk 0 m dk os)) (#[enc x, enc y] ++ #[]).toList [.c (encA (f x)), .c (encA (f y))] := by
    simp only [Array.append_empty]
    exact P2.cons (.c (.tree (hrt x))) (P2.cons (.c (.tree (hrt y))) P2.nil)
  refine ((hg (f x) (f y)).calls F (fun _ => none) _ _ hargs ⟨fun l o h => by simp [nth] at h, fun l l' o o' b h => by simp [nth] at h, fun l o b h => by simp [nth] at h, fun b hb => Nat.lt_of_lt_of_le (hbd b hb) hsz, fun l c h => (by cases h), fun g hg => ⟨(htb g hg).1, by obtain ⟨h6, cs, t, fm, h8, h7⟩ := htb g hg; exact ⟨cs, t, fm, h8, (hheap _ h6).trans h7⟩⟩⟩ (fun l c h => by cases h)).mono ?_
  rintro e w' ⟨cv, F', φ', r, os', hQ, rfl, hr, hn⟩
  obtain ⟨rfl, rfl⟩ := hQ
  have hcv := hr.int_inv
  subst hcv
  refine ⟨rfl, ?_⟩
  exact grown_eq hn.os hn.tape hn.output (hn.drawn hd) hn.size fun b hb => by
    by_cases e : w'.heap[b]? = (sortWorld enc w blk 0 m dk os).heap[b]?
    · exact e
    · obtain ⟨l, o, h1, _⟩ := hn.keep b hb e
      simp [nth] at h1
theorem sort1_pcx {A : Type} {encA : A → V} {c : A → A → Int} (L : SlLaysF.n6 P ρ) (L0 : SlLaysF0.n6 P ρ) (hc : SWOc c) {g : Nat}
    (hg : ∀ x y : A, PCs P g [.c (encA x), .c (encA y)] [] (.c (.int .i64 (c x y))) []) (e : Nat) (l : List A) (hl : l.length < 1000000000000) (hd : dm := by trivial) :
    PCx P (ρ.f 6) [.c (.row 0), .c (.fn g [])] [.row e 1 (l.map fun x => [encA x])] fun r os => ∃ l', Sorted' c l l' ∧ r = .tup [] ∧ os = [.row e 1 (l'.map fun x => [encA x])] := by
  refine ⟨?_, fun F φ w cargs hargs hobj hφ => ?_⟩
  · obtain ⟨nm, hn, hf⟩ := L0.f6
    exact ⟨_, hf, hn, rfl⟩
  obtain ⟨c0, cs1, e1, r0, hargs⟩ := hargs.cons_inv
  obtain ⟨c1, cs2, e2, r1, hargs⟩ := hargs.cons_inv
  have e3 := hargs.nil_inv
  subst e3 e2
  have hφ0 : φ 0 = some c0 := by
    cases r0 with | c h => cases h with
      | tree h => cases h
      | row _ _ h => exact h
  have hc1 : c1 = .func (.func g) #[] #[] := by
    cases r1 with | c h => cases h with
      | tree h => cases h
      | fn f caps cs hlen _ =>
        have : cs = #[] := by
          apply Array.eq_empty_of_size_eq_zero
          simpa using hlen
        rw [this]
  subst hc1
  have hca : cargs = #[c0, .func (.func g) #[] #[]] := Array.ext' e1
  subst hca
  have hob : nth [Ob.row e 1 (l.map fun x => [encA x])] 0 = some (.row e 1 (l.map fun x => [encA x])) := rfl
  have ho := hobj.objs 0 _ hob
  have zero : ∀ (p : Option Addr) (cap : Nat), l = [] → c0 = .slice p 0 cap → Calls P (ρ.f 6) #[c0, .func (.func g) #[] #[]] w fun ee w' => ∃ cc F' φ' r objs', (∃ l', Sorted' c l l' ∧ r = .tup [] ∧ objs' = [.row e 1 (l'.map fun x => [encA x])]) ∧ ee = .returned cc ∧ RS F' φ' w' cc r ∧ Nx F φ w (nth [Ob.row e 1 (l.map fun x => [encA x])]) (fun l_1 => [Ob.row e 1 (l.map fun x => [encA x])].length ≤ l_1) (chOf 0 objs') F' φ' w' := by
    intro p cap h0 hc0
    subst h0 hc0
    refine (AnyF.slices_SortFunc_none L0 p cap _ w).mono ?_
    rintro ee w' ⟨rfl, rfl⟩
    exact ⟨.tuple #[], F, φ, .tup [], [.row e 1 []], ⟨[], ⟨List.Perm.refl _, List.Pairwise.nil⟩, rfl, rfl⟩, rfl, .tup _ _ rfl (fun j c x h => by simp at h), Nx.same hobj⟩
  rcases ho with ⟨cv, xs, h1, h2, ⟨⟨hxl, hown⟩, hroomy⟩, h4, h5⟩ | ⟨h0, p, h1⟩
  · rw [hφ0] at h1; cases h1
    rcases hown with ⟨hv, hn0⟩ | ⟨gb, cap, cur, hv, _, hh, hcap, hmx, hcs, htk⟩
    · exact zero none 0 (by simpa using hn0) hv
    · rcases Nat.eq_zero_or_pos l.length with hn | hn
      · exact zero (some ⟨gb, 0, none⟩) cap (List.length_eq_zero_iff.1 hn) (by rw [hv]; simp [hn])
      · subst hv
        simp only [List.length_map, Nat.mul_one] at *
        have hFb : ¬ F gb := h2 gb (by cases cap with | zero => omega | succ => rfl)
        have : Inhabited (Fin l.length) := ⟨⟨0, hn⟩⟩
        let f : Fin l.length → A := fun i => l[i]
        let enc : Fin l.length → Value := fun i => xs[i.val]!
        have hxi : ∀ i : Fin l.length, xs[i.val]? = some (enc i) := by
          intro i
          have : i.val < xs.length := by rw [hxl]; exact i.isLt
          simp only [enc]
          rw [List.getElem?_eq_getElem this, getElem!_pos xs i.val this]
        have hfl : ∀ m : List A, (m.map fun x => [encA x]).flatten = m.map encA := by
          intro m
          induction m with
          | nil => rfl
          | cons a r ih => rw [List.map_cons, List.flatten_cons, ih]; rfl
        have henc : ∀ i, RT F w (enc i) (encA (f i)) := by
          intro i
          rw [hfl] at h4
          exact h4.2 i.val _ _ (hxi i) (by simp [f])
        have hone : OneCell enc := fun i => (henc i).one
        have hds : (Array.ofFn (n := l.length) id).size = l.length := Array.size_ofFn
        have hdi : ∀ i (h : i < l.length), (Array.ofFn (n := l.length) id)[i]! = ⟨i, h⟩ := by
          intro i h
          rw [getElem!_pos _ i (by rw [hds]; exact h)]; simp
        have hcell : ∀ j, j < l.length → cur[j]? = xs[j]? := by
          intro j hj
          rw [← htk, List.getElem?_take, if_pos hj, Array.getElem?_toList]
        have hH : Holds enc w gb 0 (Array.ofFn (n := l.length) id) := by
          intro j hj
          rw [hds] at hj
          refine ⟨?_, ?_⟩
          · rw [hdi _ hj]
            simp only [World.cell?, hh, Nat.zero_add, Option.isSome_none, Bool.false_eq_true, if_false, hcell j hj, hxi ⟨j, hj⟩]
          · simp [World.frozen?, hh]
        have hblk : gb < w.heap.size := lt_heap hh
        have eg : ∀ args w, (callFunc g args).run P w = .ok (.enter g args) w := by
          obtain ⟨fn, hf, hn, hb⟩ := (hg (f default) (f default)).fn
          cases hbd : fn.body with
          | none => rw [hbd] at hb; cases hb
          | some cd => exact enters_of hf hn hbd
        have hS := Any.slices_SortFunc L enc hone (fun i j => c (f i) (f j)) (hc.swo f) g #[] gb 0 cap (Array.ofFn (n := l.length) id) w eg (cmpLays1_of hd hg f enc henc hFb hobj.bd hobj.tb _) hH hblk (by rw [hds]; omega)
        rw [hds] at hS
        refine hS.mono ?_
        rintro ee w' ⟨rfl, d', m, os, hperm, hsorted, rfl⟩
        have hd's : d'.size = l.length := by rw [hperm.1, hds]
        have hheap : ∀ b, b < w.heap.size → (sortWorld enc w gb 0 m d' os).heap[b]? = if b = gb then some (.cells (putCells enc 0 d' cur) e (0, 0)) else w.heap[b]? := by
          intro b hb
          unfold sortWorld grow putRow mapBlock Sort.ahead
          simp only
          rw [Array.getElem?_append_left (by simpa using hb), Array.getElem?_modify]
          by_cases e4 : gb = b
          · subst e4; rw [if_pos rfl, if_pos rfl, hh]; rfl
          · rw [if_neg e4, if_neg (fun h => e4 h.symm)]
        have hsize : w.heap.size ≤ (sortWorld enc w gb 0 m d' os).heap.size := by
          unfold sortWorld grow putRow mapBlock Sort.ahead
          simp
        have hFk : ∀ b, F b → (sortWorld enc w gb 0 m d' os).heap[b]? = w.heap[b]? := by
          intro b hb
          rw [hheap b (hobj.bd b hb), if_neg (fun e4 : b = gb => hFb (by rw [← e4]; exact hb))]
        have hmapd : (Array.ofFn (n := l.length) id).toList.map f = l := by
          apply List.ext_getElem
          · simp
          · intro i h1 h2; simp [f]
        have hl' : (d'.toList.map f).length = l.length := by simp [hd's]
        have hP : P2 (RT F (sortWorld enc w gb 0 m d' os)) (d'.toList.map enc) ((d'.toList.map f).map fun x => [encA x]).flatten := by
          rw [hfl]
          refine ⟨by simp, fun j x y hx hy => ?_⟩
          rw [List.map_map, List.getElem?_map] at hy
          rw [List.getElem?_map] at hx
          cases hz : d'.toList[j]? with
          | none => rw [hz] at hx; cases hx
          | some z => rw [hz] at hx hy; cases hx; cases hy; exact (henc z).up (fun _ h => h) hFk
        have hro : RO F φ (sortWorld enc w gb 0 m d' os) 0 (.row e 1 ((d'.toList.map f).map fun x => [encA x])) := by
          refine RO.mkrow (xs := d'.toList.map enc) hφ0 h2 ⟨?_, .inr ⟨gb, cap, putCells enc 0 d' cur, ?_, Nat.zero_le _, ?_, ?_, hmx, ?_, ?_⟩⟩ hP ?_
          · simp
          · simp [hd's]
          · rw [hheap gb hblk, if_pos rfl]
          · simpa [hd's] using hcap
          · simp [putCells, hcs]
          · apply List.ext_getElem?
            intro j
            rw [List.getElem?_take]
            by_cases hj : j < l.length
            · have hjc : j < cur.size := by rw [hcs]; omega
              have hjd : j < d'.size := by omega
              rw [if_pos (by simpa [hd's] using hj)]
              simp only [putCells, Array.getElem?_toList, Array.getElem?_mapIdx, Array.getElem?_eq_getElem hjc, Option.map_some, Nat.zero_le, true_and, Nat.zero_add, Nat.sub_zero, List.getElem?_map, Array.getElem?_eq_getElem hjd]
              rw [if_pos hjd, getElem!_pos d' j hjd]
            · rw [if_neg (by simpa [hd's] using hj), List.getElem?_eq_none (by simp [hd's]; omega)]
          · intro r hr; obtain ⟨x, _, rfl⟩ := List.mem_map.1 hr; rfl
        have hone1 : ∀ l2 o, chGet (chOf 0 [Ob.row e 1 ((d'.toList.map f).map fun x => [encA x])]) l2 = some o → l2 = 0 ∧ o = .row e 1 ((d'.toList.map f).map fun x => [encA x]) := by
          intro l2 o h
          rw [chGet_chOf] at h
          simp only [Nat.zero_le, if_true, Nat.sub_zero] at h
          cases l2 with
          | zero => simp only [List.getElem?_cons_zero, Option.some.injEq] at h; exact ⟨rfl, h.symm⟩
          | succ n => simp at h
        have hblk0 : blkOf φ 0 = some gb := by
          unfold blkOf; rw [hφ0]; cases cap with | zero => omega | succ => rfl
        refine ⟨.tuple #[], F, φ, .tup [], [.row e 1 ((d'.toList.map f).map fun x => [encA x])], ⟨d'.toList.map f, ⟨?_, ?_⟩, rfl, rfl⟩, rfl, .tup _ _ rfl (fun j c x h => by simp at h), ?_⟩
        · have := hperm.2.2
          have w1 : (d'.extract 0 l.length).toList = d'.toList := by
            rw [Array.toList_extract]; simp [List.extract, hd's]
            exact List.take_of_length_le (by simp [hd's])
          have w2 : ((Array.ofFn (n := l.length) id).extract 0 l.length).toList = (Array.ofFn (n := l.length) id).toList := by
            rw [Array.toList_extract]; simp [List.extract]
            exact List.take_of_length_le (by simp)
          rw [w1, w2] at this
          have h6 := this.map f
          rwa [hmapd] at h6
        · rw [List.pairwise_map, List.pairwise_iff_getElem]
          intro i j hi hj hij
          have h6 := hsorted i j (Nat.zero_le _) hij (by rw [← hd's]; simpa using hj)
          rw [getElem!_pos _ _ (by simpa using hj), getElem!_pos _ _ (by simpa using hi)] at h6
          simpa [ltOf] using h6
        · refine ⟨fun _ h => h, fun _ _ h => h, fun _ _ h => .inl h, rfl, rfl, rfl, fun _ => Nat.le_add_right _ _, hsize, ?_, fun b h => .inl h, ?_, ?_, ?_⟩
          · intro b hb hne
            rw [hheap b hb] at hne
            by_cases e4 : b = gb
            · subst e4; exact ⟨0, _, hob, rfl, .inl hblk0, rfl⟩
            · rw [if_neg e4] at hne; exact (hne rfl).elim
          · intro l2 o h
            obtain ⟨rfl, rfl⟩ := hone1 l2 o h
            exact hro
          · intro l2 o b h h6 h7
            obtain ⟨rfl, rfl⟩ := hone1 l2 o h
            exact .inr ⟨0, _, hob, rfl, .inl h7.base, rfl⟩
          · intro l2 l3 o o' b h h6 _ _ _ _
            rw [(hone1 l2 o h).1, (hone1 l3 o' h6).1]
  · exact zero _ 0 (by simpa using h0) (by rw [hφ0] at h1; cases h1; rfl)
end Abs
end Go.Proofs.YtjflmenfinohcaaGreat

/- Go's sort, by the kit's contract of it, as a contract of the abstract walk. -/
import Derived.Test.YtfchnmfppepniaaGreatAbsZ
import Derived.Test.YtfchnmfppepniaaGreatAbsVw
import Derived.Shelf.SlSortCmp.NoneTotal
namespace Go.Proofs.YtfchnmfppepniaaGreat
set_option linter.unusedVariables false
set_option linter.unusedSimpArgs false
namespace Abs
open Go.Shelf Go.Sort Go.RowKit

theorem grown_eq {w w' : World} (h1 : w'.os = w.os) (h2 : w'.tape = w.tape) (h3 : w'.output = w.output) (h4 : w.drawn ≤ w'.drawn) (h5 : w.heap.size ≤ w'.heap.size) (h6 : ∀ b, b < w.heap.size → w'.heap[b]? = w.heap[b]?) : ∃ q os', w' = grow (w.drewN q) os' := by
  refine ⟨w'.drawn - w.drawn, w'.heap.extract w.heap.size w'.heap.size, ?_⟩
  have hh : w'.heap = w.heap ++ w'.heap.extract w.heap.size w'.heap.size := by
    apply Array.ext_getElem?
    intro i
    rcases Nat.lt_or_ge i w.heap.size with h | h
    · rw [h6 i h, Array.getElem?_append_left h]
    · rw [Array.getElem?_append_right h, Array.getElem?_extract]
      split
      · rw [show w.heap.size + (i - w.heap.size) = i by omega]
      · rename_i h7
        rw [Array.getElem?_eq_none (by omega)]
  obtain ⟨hp, tp, dr, o, ou⟩ := w'
  obtain ⟨hp0, tp0, dr0, o0, ou0⟩ := w
  simp only at h1 h2 h3 h4 hh
  subst h1 h2 h3
  unfold grow World.drewN
  simp only
  congr 1
  omega
/-- what is sorted: the same ones, and none is less than one before it -/
structure Sorted' {A : Type} (c : A → A → Int) (l l' : List A) : Prop where
  perm : l'.Perm l
  le : l'.Pairwise fun x y => ¬ c y x < 0
structure SWOc {A : Type} (c : A → A → Int) : Prop where
  irrefl : ∀ x, ¬ c x x < 0
  trans : ∀ x y z, c x y < 0 → c y z < 0 → c x z < 0
  ntrans : ∀ x y z, ¬ c x y < 0 → ¬ c y z < 0 → ¬ c x z < 0
theorem SWOc.swo {A B : Type} {c : A → A → Int} (h : SWOc c) (f : B → A) : SWO (ltOf fun x y : B => c (f x) (f y)) := by
  refine ⟨fun x => ?_, fun x y z h1 h2 => ?_, fun x y z h1 h2 => ?_⟩
  · simpa [ltOf] using h.irrefl (f x)
  · simp only [ltOf, decide_eq_true_eq] at *; exact h.trans _ _ _ h1 h2
  · simp only [ltOf, decide_eq_false_iff_not] at *; exact h.ntrans _ _ _ h1 h2
variable {P : Program} {ρ : Ren}
theorem cmpLays_of (hd : dm) {A : Type} {encA : A → List V} {c : A → A → Int} {g : Nat} (hg : ∀ x y : A, PCs P g [.agg (encA x), .agg (encA y)] [] (.c (.int .i64 (c x y))) [])
    {F : Nat → Prop} {w : World} {n k : Nat} [Inhabited (Fin n)] (f : Fin n → A) (enc : Fin n → List Value) (henc : ∀ i, P2 (RT F w) (enc i) (encA (f i))) {blk : Nat} (hF : ¬ F blk) (hbd : ∀ b, F b → b < w.heap.size) (htb : ∀ g ∈ globs, F g.1 ∧ ∃ cs t f, g.2 cs ∧ w.heap[g.1]? = some (.cells cs t f)) (size : Nat) :
    CmpLays P g #[] enc k (fun i j => c (f i) (f j)) blk 0 size w := by
  intro m os dk hs x y
  have hheap : ∀ b, F b → (sortWorldK enc k w blk 0 m dk os).heap[b]? = w.heap[b]? := by
    intro b hb
    have hlt := hbd b hb
    have hne : b ≠ blk := fun e => hF (e ▸ hb)
    unfold sortWorldK grow putRowK putRow mapBlock Sort.ahead
    simp only
    rw [Array.getElem?_append_left (by simpa using hlt), Array.getElem?_modify, if_neg (Ne.symm hne)]
  have hsz : w.heap.size ≤ (sortWorldK enc k w blk 0 m dk os).heap.size := by
    unfold sortWorldK grow putRowK putRow mapBlock Sort.ahead
    simp
  have hrt : ∀ i, P2 (RT F (sortWorldK enc k w blk 0 m dk os)) (enc i) (encA (f i)) := fun i => (henc i).mono fun a b h => h.up (fun _ h => h) hheap
  have hargs : P2 (RS F (fun _ => none) (sortWorldK enc k w blk 0 m dk os)) (#[Value.agg (enc x).toArray, .agg (enc y).toArray] ++ #[]).toList [.agg (encA (f x)), .agg (encA (f y))] := by
    simp only [Array.append_empty]
    exact P2.cons (.agg _ _ ((hrt x).mono fun _ _ h => .tree h)) (P2.cons (.agg _ _ ((hrt y).mono fun _ _ h => .tree h)) P2.nil)
  refine ((hg (f x) (f y)).calls F (fun _ => none) _ _ hargs ⟨fun l o h => by simp [nth] at h, fun l l' o o' b h => by simp [nth] at h, fun l o b h => by simp [nth] at h, fun b hb => Nat.lt_of_lt_of_le (hbd b hb) hsz, fun l c h => (by cases h), fun g hg => ⟨(htb g hg).1, by obtain ⟨h6, cs, t, fm, h8, h7⟩ := htb g hg; exact ⟨cs, t, fm, h8, (hheap _ h6).trans h7⟩⟩⟩ (fun l c h => by cases h)).mono ?_
  rintro e w' ⟨cv, F', φ', r, os', hQ, rfl, hr, hn⟩
  obtain ⟨rfl, rfl⟩ := hQ
  have hcv := hr.int_inv
  subst hcv
  refine ⟨rfl, ?_⟩
  exact grown_eq hn.os hn.tape hn.output (hn.drawn hd) hn.size fun b hb => by
    by_cases e : w'.heap[b]? = (sortWorldK enc k w blk 0 m dk os).heap[b]?
    · exact e
    · obtain ⟨l, o, h1, _⟩ := hn.keep b hb e
      simp [nth] at h1
theorem Nx.same {F : Nat → Prop} {φ : Nat → Option Value} {X : Nat → Prop} {w : World} {objs : List Ob} {N : Nat → Prop} (hr : Rp F φ X w (nth objs)) : Nx F φ w (nth objs) N (chOf 0 objs) F φ w := by
  have hg : ∀ l o, chGet (chOf 0 objs) l = some o → nth objs l = some o := by
    intro l o h
    rw [chGet_chOf] at h
    rw [nth_eq]; simpa using h
  refine ⟨fun _ h => h, fun _ _ h => h, fun _ _ h => .inl h, rfl, rfl, rfl, fun _ => Nat.le_refl _, Nat.le_refl _, fun b _ hne => (hne rfl).elim, fun b h => .inl h, fun l o h => hr.objs l o (hg l o h), ?_, fun l l' o o' b h1 h2 => hr.inj l l' o o' b (hg l o h1) (hg l' o' h2)⟩
  intro l o b h1 h2 h3
  exact .inr ⟨l, o, hg l o h1, h2, h3, by rw [h1]; rfl⟩
theorem row_part {A : Type} {encA : A → List V} {k : Nat} (hsz : ∀ x, (encA x).length = k) (l : List A) {i : Nat} (hi : i < l.length) : ((l.map encA).flatten.drop (i * k)).take k = encA l[i] := by
  have h := (flat_cut (l.map encA) i (by intro r hr; obtain ⟨x, _, rfl⟩ := List.mem_map.1 hr; exact hsz x)).1
  rw [← h, List.drop_eq_getElem_cons (by simpa using hi), List.flatten_cons, List.getElem_map, List.take_append_of_le_length (by rw [hsz]; exact Nat.le_refl _), List.take_of_length_le (by rw [hsz]; exact Nat.le_refl _)]
/-- where none but equal ones are neither less nor greater, there is one sorted order -/
theorem sorted_one {A : Type} {c : A → A → Int} (hc : SWOc c) (hT : ∀ x y, ¬ c x y < 0 → ¬ c y x < 0 → x = y) : ∀ {l1 l2 : List A}, l1.Perm l2 → (l1.Pairwise fun x y => ¬ c y x < 0) → (l2.Pairwise fun x y => ¬ c y x < 0) → l1 = l2
  | [], l2, hp, _, _ => by rw [List.nil_perm.1 hp]
  | a :: r, [], hp, _, _ => by have := hp.length_eq; simp at this
  | a :: r, b :: t, hp, h1, h2 => by
    obtain ⟨a1, a2⟩ := List.pairwise_cons.1 h1
    obtain ⟨b1, b2⟩ := List.pairwise_cons.1 h2
    have hab : a = b := by
      rcases List.mem_cons.1 (hp.mem_iff.1 (show a ∈ a :: r by simp)) with h | h
      · exact h
      · rcases List.mem_cons.1 (hp.mem_iff.2 (show b ∈ b :: t by simp)) with h' | h'
        · exact h'.symm
        · exact hT a b (b1 a h) (a1 b h')
    subst hab
    rw [sorted_one hc hT (List.Perm.cons_inv hp) a2 b2]
end Abs
end Go.Proofs.YtfchnmfppepniaaGreat

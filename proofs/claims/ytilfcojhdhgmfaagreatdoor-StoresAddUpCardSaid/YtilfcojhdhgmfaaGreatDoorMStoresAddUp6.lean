/- Parts of the proof, in order. -/
import Derived.Test.YtilfcojhdhgmfaaGreatDoorMStoresAddUp5

namespace Go.Proofs.YtilfcojhdhgmfaaGreatDoor
set_option linter.unusedVariables false
set_option linter.unusedSimpArgs false
open Abs

theorem nx_poke {F : Nat → Prop} {φ : Nat → Option Value} {w w' : World} {objs : List Ob} {N : Nat → Prop} {i : Nat} {ob ob' : Ob} (hr : Rp F φ (fun _ => True) w (nth objs)) (hi : objs[i]? = some ob) (hv : live ob = true) {g : Nat} (hg : blkOf φ i = some g)
    (h1 : w'.os = w.os) (h2 : w'.tape = w.tape) (h3 : w'.output = w.output) (h4 : dm → w.drawn ≤ w'.drawn) (h5 : w.heap.size ≤ w'.heap.size) (h6 : ∀ b, b < w.heap.size → b ≠ g → w'.heap[b]? = w.heap[b]?) (ho : RO F φ w' i ob') (hsub : ∀ b, insB ob' b → False := by exact fun _ h => h) :
    Nx F φ w (nth objs) N (chOf 0 (objs.set i ob')) F φ w' := by
  have hil : i < objs.length := (List.getElem?_eq_some_iff.1 hi).1
  have hgF := (hr.objs i ob (by rw [nth_eq]; exact hi)).lt hv (.inl hg)
  have hch : ∀ l o, chGet (chOf 0 (objs.set i ob')) l = some o → (l = i ∧ o = ob') ∨ (l ≠ i ∧ nth objs l = some o) := by
    intro l o hl
    rw [chGet_chOf, if_pos (Nat.zero_le _), Nat.sub_zero, List.getElem?_set] at hl
    split at hl
    · rename_i e
      first | rw [if_pos hil] at hl | skip
      exact .inl ⟨e.symm, (Option.some.inj hl).symm⟩
    · rename_i e
      exact .inr ⟨Ne.symm e, by rw [nth_eq]; exact hl⟩
  have hsome : ∀ l o, nth objs l = some o → (chGet (chOf 0 (objs.set i ob')) l).isSome := by
    intro l o hl
    rw [nth_eq] at hl
    rw [chGet_chOf, if_pos (Nat.zero_le _), Nat.sub_zero, List.getElem?_set]
    split
    · first | (rw [if_pos hil]; rfl) | rfl
    · rw [hl]; rfl
  have hio : nth objs i = some ob := by rw [nth_eq]; exact hi
  have hF : ∀ b, F b → w'.heap[b]? = w.heap[b]? := fun b hb' => h6 b (hr.bd b hb') (fun e => hgF.2 (e ▸ hb'))
  refine ⟨fun _ h => h, fun _ _ h => h, fun _ _ h => .inl h, h1, h2, h3, h4, h5, ?_, fun b h => .inl h, ?_, ?_, ?_⟩
  · intro b hb' hne
    have : b = g := Classical.byContradiction fun e => hne (h6 b hb' e)
    subst this
    exact ⟨i, ob, hio, hv, .inl hg, hsome i ob hio⟩
  · intro l o hl
    rcases hch l o hl with ⟨rfl, rfl⟩ | ⟨hne, hl0⟩
    · exact ho
    · refine (hr.objs l o hl0).up (fun _ h => h) (fun _ _ h => h) hF (fun hv2 b hb' => ?_)
      have hlt := (hr.objs l o hl0).lt hv2 hb'
      exact ⟨h6 b hlt.1 (fun e => hne (hr.inj l i o ob g hl0 hio hv2 hv (e ▸ hb') (.inl hg))), hlt.2⟩
  · intro l o b hl hv2 hbk
    rcases hch l o hl with ⟨rfl, rfl⟩ | ⟨_, hl0⟩
    · exact .inr ⟨l, ob, hio, hv, .inl (hbk.base (hsub b)), hsome l ob hio⟩
    · exact .inr ⟨l, o, hl0, hv2, hbk, hsome l o hl0⟩
  · intro l l' o o' b hl hl' v1 v2 k1 k2
    have hf : ∀ l o b, chGet (chOf 0 (objs.set i ob')) l = some o → live o = true → Blk φ l o b → ∃ o0, nth objs l = some o0 ∧ live o0 = true ∧ Blk φ l o0 b := by
      intro l o b hl hv2 hbk
      rcases hch l o hl with ⟨rfl, rfl⟩ | ⟨_, hl0⟩
      · exact ⟨ob, hio, hv, .inl (hbk.base (hsub b))⟩
      · exact ⟨o, hl0, hv2, hbk⟩
    obtain ⟨q1, a1, a2, a3⟩ := hf l o b hl v1 k1
    obtain ⟨q2, c1, c2, c3⟩ := hf l' o' b hl' v2 k2
    exact hr.inj l l' q1 q2 b a1 c1 a2 c2 a3 c3
abbrev TBld : Nat := 89 + 1
theorem bldX : Builder.X72 Tryz.prog layJoin_ren := ⟨by kernel_rfl, by kernel_rfl⟩
theorem byteRows_app (a b : ByteArray) : byteRows (a ++ b) = byteRows a ++ byteRows b := by
  unfold byteRows; rw [← List.map_append]; congr 1
theorem bld_inv {F : Nat → Prop} {φ : Nat → Option Value} {w : World} {cs : Array Value} {p : V} {rs : List Ob} (hp : P2 (RS F φ w) cs.toList [.c (.ptr 0 0)]) (hr : Rp F φ (fun _ => True) w (nth (.box [p, .row 1] TBld :: rs))) :
    ∃ b c0 c1, cs = #[.pointer (some ⟨b, 0, none⟩)] ∧ φ 0 = some (.pointer (some ⟨b, 0, none⟩)) ∧ ¬ F b ∧ w.heap[b]? = some (.cells #[c0, c1] 89 (0, 0)) ∧ RV F φ w c0 p ∧ RV F φ w c1 (.row 1) := by
  obtain ⟨x, xs, e1, r1, hp⟩ := hp.cons_inv
  have := hp.nil_inv
  subst this
  obtain ⟨b, cs', T, g1, g2, g3, g4, g5⟩ := hr.objs 0 _ rfl
  obtain ⟨c0, r2, e2, q0, g4⟩ := g4.cons_inv
  obtain ⟨c1, r3, e3, q1, g4⟩ := g4.cons_inv
  have := g4.nil_inv
  subst this e3
  have hT : T = 89 := by
    rcases g5 with h | h
    · cases h
    · exact Nat.succ.inj h
  subst hT
  have hcs : cs' = #[c0, c1] := Array.ext' e2
  subst hcs
  refine ⟨b, c0, c1, ?_, g1, g2, g3, q0, q1⟩
  apply Array.ext'
  rw [e1]
  cases r1 with | c hv => cases hv with
    | tree h => cases h
    | ptr l off b' hl => rw [hl] at g1; cases g1; rfl
theorem cc1_pc (rows : List (List V)) : PCp 103 [.c (.ptr 0 0)] [.box [.ptr 0 0, .row 1] TBld, .row 5 1 rows] (.tup []) [.box [.ptr 0 0, .row 1] TBld, .row 5 1 rows] := by
  refine ⟨⟨_, Tryz.func103, by kernel_rfl, by kernel_rfl⟩, fun F φ w cs hp hrp hφ => ?_⟩
  obtain ⟨b, c0, c1, rfl, g1, g2, g3, q0, q1⟩ := bld_inv hp hrp
  have h0 : c0 = .pointer (some ⟨b, 0, none⟩) := by
    cases q0 with
    | tree h => cases h
    | ptr l off b' hl => rw [hl] at g1; cases g1; rfl
  subst h0
  refine (Any.Builder_copyCheck_used { layJoin with } bldX b w (by simp [World.cell?, g3])).mono ?_
  rintro e w' ⟨rfl, rfl⟩
  exact ⟨_, F, φ, _, _, ⟨rfl, rfl⟩, rfl, .tup #[] [] rfl (by intro j c x h; simp at h), Nx.same hrp⟩
theorem cc0_pc (rows : List (List V)) : PCp 103 [.c (.ptr 0 0)] [.box [.nilp, .row 1] TBld, .row 5 1 rows] (.tup []) [.box [.ptr 0 0, .row 1] TBld, .row 5 1 rows] := by
  refine ⟨⟨_, Tryz.func103, by kernel_rfl, by kernel_rfl⟩, fun F φ w cs hp hrp hφ => ?_⟩
  obtain ⟨b, c0, c1, rfl, g1, g2, g3, q0, q1⟩ := bld_inv hp hrp
  have h0 : c0 = .pointer none := by
    cases q0 with | tree h => cases h; rfl
  subst h0
  refine (Any.Builder_copyCheck_fresh { layJoin with } bldX b w (by simp [World.cell?, g3]) (by simp [World.shape?, g3]; rfl) (by simp [World.frozen?, g3])).mono ?_
  rintro e w' ⟨rfl, rfl⟩
  have hbl : blkOf φ 0 = some b := by simp [blkOf, g1, hb]
  have hnew : (w.setCell ⟨b, 0, none⟩ (.pointer (some ⟨b, 0, none⟩))).heap[b]? = some (.cells #[.pointer (some ⟨b, 0, none⟩), c1] 89 (0, 0)) := by
    simp [World.setCell, Array.getElem?_modify, g3]
  have hold : ∀ b', b' < w.heap.size → b' ≠ b → (w.setCell ⟨b, 0, none⟩ (.pointer (some ⟨b, 0, none⟩))).heap[b']? = w.heap[b']? := by
    intro b' _ hne
    simp [World.setCell, Array.getElem?_modify, Ne.symm hne]
  have hkF : ∀ b', F b' → (w.setCell ⟨b, 0, none⟩ (.pointer (some ⟨b, 0, none⟩))).heap[b']? = w.heap[b']? := fun b' hF => hold b' (hrp.bd b' hF) (fun e => g2 (e ▸ hF))
  refine ⟨_, F, φ, _, _, ⟨rfl, rfl⟩, rfl, .tup #[] [] rfl (by intro j c x h; simp at h), nx_poke (i := 0) (ob' := .box [.ptr 0 0, .row 1] TBld) hrp rfl rfl hbl rfl rfl rfl (fun _ => Nat.le_refl _) (by simp [World.setCell]) hold ?_⟩
  refine ⟨b, _, _, g1, g2, hnew, P2.cons (.ptr 0 0 b g1) (P2.cons (q1.up (fun _ h => h) (fun _ _ h => h) hkF) P2.nil), .inr rfl⟩
set_option maxRecDepth 100000 in
set_option maxHeartbeats 4000000 in
theorem ws1_pc (s0 s : ByteArray) (h : s0.size + s.size ≤ 1000000) : PCp 39 [.c (.ptr 0 0), .c (.str s)] [.box [.ptr 0 0, .row 1] TBld, .row 5 1 (byteRows s0)] (.tup [.c (.int .i64 s.size), .c .nili]) [.box [.ptr 0 0, .row 2] TBld, .dead, .row 5 1 (byteRows (s0 ++ s))] := by
  have hl := byteRows_len s0
  rw [byteRows_app]
  refine fn_sound (mt := mts) tab_fits tab_mixed Tryz.func39 (by rfl) (by kernel_rfl) (by kernel_rfl) Tryz.results39 (Nat.le_of_ble_eq_true (by kernel_rfl)) ?_
  conv => whnf
  repeat' (first | (refine .mk _ _ (by exact cc1_pc _) ?_; conv => whnf) | (refine .mk (by first | omega | (unfold roomOK; simp [cutRows]; done) | (unfold roomOK; simp [cutRows]; omega) | (simp [cutRows]; done) | (simp [cutRows]; omega)) ?_; conv => whnf) | fail)
  all_goals exact .mk ⟨rfl, rfl⟩
set_option maxRecDepth 100000 in
set_option maxHeartbeats 4000000 in
theorem ws0_pc (s0 s : ByteArray) (h : s0.size + s.size ≤ 1000000) : PCp 39 [.c (.ptr 0 0), .c (.str s)] [.box [.nilp, .row 1] TBld, .row 5 1 (byteRows s0)] (.tup [.c (.int .i64 s.size), .c .nili]) [.box [.ptr 0 0, .row 2] TBld, .dead, .row 5 1 (byteRows (s0 ++ s))] := by
  have hl := byteRows_len s0
  rw [byteRows_app]
  refine fn_sound (mt := mts) tab_fits tab_mixed Tryz.func39 (by rfl) (by kernel_rfl) (by kernel_rfl) Tryz.results39 (Nat.le_of_ble_eq_true (by kernel_rfl)) ?_
  conv => whnf
  repeat' (first | (refine .mk _ _ (by exact cc0_pc _) ?_; conv => whnf) | (refine .mk (by first | omega | (unfold roomOK; simp [cutRows]; done) | (unfold roomOK; simp [cutRows]; omega) | (simp [cutRows]; done) | (simp [cutRows]; omega)) ?_; conv => whnf) | fail)
  all_goals exact .mk ⟨rfl, rfl⟩
set_option maxRecDepth 100000 in
set_option maxHeartbeats 4000000 in
theorem len1_pc (s0 : ByteArray) : PCp 42 [.c (.ptr 0 0)] [.box [.ptr 0 0, .row 1] TBld, .row 5 1 (byteRows s0)] (.c (.int .i64 s0.size)) [.box [.ptr 0 0, .row 1] TBld, .row 5 1 (byteRows s0)] := by
  have hl := byteRows_len s0
  refine fn_sound (mt := mts) tab_fits tab_mixed Tryz.func42 (by rfl) (by kernel_rfl) (by kernel_rfl) Tryz.results42 (Nat.le_of_ble_eq_true (by kernel_rfl)) ?_
  conv => whnf
  skip
  rw [hl]
  exact .mk ⟨rfl, rfl⟩
set_option maxRecDepth 100000 in
set_option maxHeartbeats 4000000 in
theorem len0_pc : PCp 42 [.c (.ptr 0 0)] [.box [.nilp, .nils] TBld] (.c (.int .i64 0)) [.box [.nilp, .nils] TBld] := by
  refine fn_sound (mt := mts) tab_fits tab_mixed Tryz.func42 (by rfl) (by kernel_rfl) (by kernel_rfl) Tryz.results42 (Nat.le_of_ble_eq_true (by kernel_rfl)) ?_
  conv => whnf
  skip
  exact .mk ⟨rfl, rfl⟩
theorem bytes_inv {F : Nat → Prop} {w : World} : ∀ {xs : List Value} {l : List UInt8}, P2 (RT F w) xs (l.map fun b => V.int .u8 (b.toNat : Int)) → xs = l.map fun b => Value.int .u8 (b.toNat : Int)
  | xs, [], h => h.nil_inv
  | xs, b :: r, h => by
    obtain ⟨x, t, rfl, h1, h2⟩ := h.cons_inv
    cases h1
    rw [List.map_cons, bytes_inv h2]
set_option maxHeartbeats 1000000 in
set_option maxRecDepth 100000 in
theorem str_calls (b g cap : Nat) (q : Value) (cur : Array Value) (l : List UInt8) (w : World) (h0 : l ≠ []) (hbk : w.heap[b]? = some (.cells #[q, .slice (some ⟨g, 0, none⟩) l.length cap] 89 (0, 0)))
    (hg : w.heap[g]? = some (.cells cur 5 (0, 0))) (hc : l.length ≤ cap) (hm : cap ≤ maxLen) (hcs : cur.size = cap * 1) (ht : cur.toList.take l.length = l.map fun b => Value.int .u8 (b.toNat : Int)) :
    Calls Tryz.prog 43 #[.pointer (some ⟨b, 0, none⟩)] w fun e w' => e = .returned (.string ⟨l.toArray⟩) ∧ w' = w.drew.freeze ⟨g, 0, none⟩ l.length := by
  have hl0 : 0 < l.length := List.length_pos_iff.2 h0
  have c1 : w.drew.cell? ⟨b, 1, none⟩ = some (.slice (some ⟨g, 0, none⟩) l.length cap) := by
    rw [show w.drew.cell? ⟨b, 1, none⟩ = w.cell? ⟨b, 1, none⟩ from rfl]
    simp [World.cell?, hbk]
  have hSD := Lib.run_unsafeSliceData_row (P := Tryz.prog) (w := w.drew) #[87] 172 ⟨g, 0, none⟩ l.length cap (by omega)
  have hUS := Lib.run_unsafeString_row (P := Tryz.prog) w.drew 172 3 9 5 (by kernel_rfl) (by kernel_rfl) g cur.size (by
    rw [show w.drew.shape? g = w.shape? g from rfl]; simp [World.shape?, hg]) l h0 (by omega) (by unfold maxLen at hm; omega) (by
    intro j x hx
    have hj : j < l.length := (List.getElem?_eq_some_iff.1 hx).1
    have e1 : (cur.toList.take l.length)[j]? = some (.int .u8 (x.toNat : Int)) := by rw [ht, List.getElem?_map, hx]; rfl
    rw [List.getElem?_take_of_lt hj] at e1
    have hadd : (⟨g, 0, none⟩ : Addr).add j = ⟨g, 0 + j, none⟩ := by unfold Addr.add; split <;> simp_all
    rw [hadd, show w.drew.cell? ⟨g, 0 + j, none⟩ = w.cell? ⟨g, 0 + j, none⟩ from rfl]
    simp only [World.cell?, hg, Nat.zero_add]
    simpa using e1)
  go_enter Tryz.func43, Tryz.ntmps43
  go_wp2
  go_region
  all_goals (go_wp2; go_ret; exact ⟨rfl, rfl⟩)
set_option maxHeartbeats 1000000 in
set_option maxRecDepth 100000 in
theorem str_nil_calls (b : Nat) (q : Value) (w : World) (hbk : w.heap[b]? = some (.cells #[q, .slice none 0 0] 89 (0, 0))) :
    Calls Tryz.prog 43 #[.pointer (some ⟨b, 0, none⟩)] w fun e w' => e = .returned (.string ⟨#[]⟩) ∧ w' = w.drew := by
  have c1 : w.drew.cell? ⟨b, 1, none⟩ = some (.slice none 0 0) := by
    rw [show w.drew.cell? ⟨b, 1, none⟩ = w.cell? ⟨b, 1, none⟩ from rfl]
    simp [World.cell?, hbk]
  have hSD := Lib.run_unsafeSliceData_nil (P := Tryz.prog) (w := w.drew) #[87] 172 0 0
  have hUS := Lib.run_unsafeString_none (P := Tryz.prog) w.drew 172 3 9 none
  go_enter Tryz.func43, Tryz.ntmps43
  go_wp2
  go_region
  all_goals (go_wp2; go_ret; exact ⟨rfl, rfl⟩)
theorem freeze_block (w : World) (g n : Nat) (b : Nat) (hne : b ≠ g) : (w.freeze ⟨g, 0, none⟩ n).heap[b]? = w.heap[b]? := by
  unfold World.freeze
  split
  · rfl
  · simp [Array.getElem?_modify, Ne.symm hne]
theorem str1_pc (s : ByteArray) (h0 : 0 < s.size) : PCp 43 [.c (.ptr 0 0)] [.box [.ptr 0 0, .row 1] TBld, .row 5 1 (byteRows s)] (.c (.str s)) [.box [.ptr 0 0, .row 1] TBld, .dead] := by
  refine ⟨⟨_, Tryz.func43, by kernel_rfl, by kernel_rfl⟩, fun F φ w cs hp hrp hφ => ?_⟩
  obtain ⟨b, c0, c1, rfl, g1, g2, g3, q0, q1⟩ := bld_inv hp hrp
  have hl := byteRows_len s
  have hro := hrp.objs 1 _ rfl
  rcases hro with ⟨c, xs, h1, h2, ⟨h3, h4⟩, h5, h6⟩ | ⟨h, _⟩
  · have hc1 : c1 = c := by
      cases q1 with
      | tree h => cases h
      | row l c' hl' => rw [h1] at hl'; exact (Option.some.inj hl').symm
    subst hc1
    rw [byteRows_flat] at h5
    have hxs := bytes_inv h5
    rcases h3.2 with ⟨_, hn⟩ | ⟨g, cap, cur, hv, _, hg, hnc, hcm, hcs, htk⟩
    · omega
    · subst hv
      have hsl : (byteRows s).length = s.data.toList.length := by rw [hl]; exact (Array.length_toList).symm
      rw [hsl] at hnc htk g3
      rw [hxs, Nat.mul_one] at htk
      have hne : s.data.toList ≠ [] := by
        intro e
        have : (byteRows s).length = 0 := by rw [hsl, e]; rfl
        omega
      have hcap : cap ≠ 0 := by
        have := List.length_pos_iff.2 hne; omega
      have hbl : blkOf φ 1 = some g := by
        obtain ⟨k, rfl⟩ : ∃ k, cap = k + 1 := ⟨cap - 1, by omega⟩
        simp [blkOf, h1, hb]
      refine (str_calls b g cap c0 cur s.data.toList w hne g3 hg hnc hcm hcs htk).mono ?_
      rintro e w' ⟨rfl, rfl⟩
      refine ⟨_, F, φ, _, _, ⟨rfl, rfl⟩, rfl, ?_, nx_poke (i := 1) (ob' := .dead) hrp rfl rfl hbl ?_ ?_ ?_ ?_ ?_ (fun b' _ hne => freeze_block _ _ _ _ hne) trivial⟩
      · rw [show (⟨s.data.toList.toArray⟩ : ByteArray) = s from bl_data s]
        exact .c (.tree (.str _))
      all_goals (unfold World.freeze; split <;> first | rfl | exact Nat.le_refl _ | exact fun _ => Nat.le_succ _ | (simp; done) | exact fun d => absurd d id | skip)
      all_goals first | exact Nat.le_refl _ | (show _ ≤ (Array.modify _ _ _).size; rw [Array.size_modify]; exact Nat.le_refl _) | exact fun _ => Nat.le_succ _
  · rw [h] at hl; simp at hl; omega
theorem str0_pc : PCp 43 [.c (.ptr 0 0)] [.box [.nilp, .nils] TBld] (.c (.str ⟨#[]⟩)) [.box [.nilp, .nils] TBld] := by
  refine ⟨⟨_, Tryz.func43, by kernel_rfl, by kernel_rfl⟩, fun F φ w cs hp hrp hφ => ?_⟩
  obtain ⟨x, xs, e1, r1, hp⟩ := hp.cons_inv
  have := hp.nil_inv
  subst this
  obtain ⟨b, cs', T, g1, g2, g3, g4, g5⟩ := hrp.objs 0 _ rfl
  obtain ⟨c0, r2, e2, q0, g4⟩ := g4.cons_inv
  obtain ⟨c1, r3, e3, q1, g4⟩ := g4.cons_inv
  have := g4.nil_inv
  subst this e3
  have hT : T = 89 := by
    rcases g5 with h | h
    · cases h
    · exact Nat.succ.inj h
  subst hT
  have hcs : cs' = #[c0, c1] := Array.ext' e2
  subst hcs
  have h1 : c1 = .slice none 0 0 := by cases q1 with | tree h => cases h; rfl
  subst h1
  have hx : x = .pointer (some ⟨b, 0, none⟩) := by
    cases r1 with | c hv => cases hv with
      | tree h => cases h
      | ptr l off b' hl => rw [hl] at g1; cases g1; rfl
  subst hx
  rw [show cs = #[.pointer (some ⟨b, 0, none⟩)] from Array.ext' e1]
  refine (str_nil_calls b c0 w g3).mono ?_
  rintro e w' ⟨rfl, rfl⟩
  refine ⟨_, F, φ, _, _, ⟨rfl, rfl⟩, rfl, .c (.tree (.str _)), ?_⟩
  have := Nx.same (N := fun l => [Ob.box [.nilp, .nils] TBld].length ≤ l) hrp
  exact ⟨this.hF, this.hφ, this.nφ, rfl, rfl, rfl, fun _ => Nat.le_succ _, Nat.le_refl _, this.keep, this.nF, fun l o h => (this.objs l o h).up (fun _ h => h) (fun _ _ h => h) (fun _ _ => rfl) (fun hv b hb' => ⟨rfl, ((this.objs l o h).lt hv hb').2⟩), this.own, this.inj⟩
end Go.Proofs.YtilfcojhdhgmfaaGreatDoor

namespace Go.Proofs.YtilfcojhdhgmfaaGreatDoor
set_option linter.unusedVariables false
set_option linter.unusedSimpArgs false
open Abs

def endsV (t : List UInt8) : Bool := if t = [] then true else Lib.hasSuffix t [10]
def linesV (t : List UInt8) : List (List UInt8) := if t = [] then [] else spl 10 (Lib.trimSuffix t [10])
def linesB (t : List UInt8) : List ByteArray := (linesV t).map BL
theorem lines_go {σ : Type} (f : σ → List UInt8 → σ × Bool) (s : σ) (t : List UInt8) : eachL f (endsV t) s 0 (linesV t) = goL f s 0 (spl 10 t) := by
  unfold endsV linesV
  by_cases h : t = []
  · subst h; rfl
  · rw [if_neg h, if_neg h]
    exact each_go f s t h
theorem spl_mem (c : UInt8) : ∀ (t x : List UInt8), x ∈ spl c t → x.length ≤ t.length
  | [], x, h => by simp [spl] at h; simp [h]
  | b :: r, x, h => by
    rw [spl] at h
    split at h
    · rcases List.mem_cons.1 h with rfl | h
      · simp
      · have := spl_mem c r x h; simp only [List.length_cons]; omega
    · obtain ⟨y, t, e⟩ := spl_ex c r
      rw [e] at h
      simp only at h
      rcases List.mem_cons.1 h with rfl | h
      · have := spl_mem c r y (by rw [e]; simp)
        simp only [List.length_cons]; omega
      · have := spl_mem c r x (by rw [e]; exact List.mem_cons_of_mem _ h)
        simp only [List.length_cons]; omega
theorem trimSuf_len (t : List UInt8) : (Lib.trimSuffix t [10]).length ≤ t.length := by
  unfold Lib.trimSuffix
  split <;> simp
theorem linesV_bd (t : List UInt8) : (linesV t).length ≤ t.length + 1 ∧ ∀ x ∈ linesV t, x.length ≤ t.length := by
  have h0 := trimSuf_len t
  unfold linesV
  split
  · simp
  · have := spl_len 10 (Lib.trimSuffix t [10])
    exact ⟨by omega, fun x hx => by have := spl_mem 10 _ x hx; omega⟩
theorem bl_size (l : List UInt8) : (BL l).size = l.length := rfl
theorem byteAt_bl (l : List UInt8) (i : Nat) (h : i < l.length) : byteAt (BL l) i = (l[i].toNat : Int) := by
  unfold byteAt
  simp [h]
theorem digs_iff (l : List UInt8) : digs l = true ↔ ∀ i (h : i < l.length), 48 ≤ l[i].toNat ∧ l[i].toNat ≤ 57 := by
  unfold digs
  rw [List.all_eq_true]
  constructor
  · intro h i hi
    simpa using h _ (List.getElem_mem hi)
  · intro h b hb
    obtain ⟨i, hi, rfl⟩ := List.getElem_of_mem hb
    simpa using h i hi
theorem unsg_le (s : List UInt8) : (unsg s).length ≤ s.length := by
  cases s with
  | nil => exact Nat.le_refl _
  | cons b r => rw [unsg_cons]; split <;> simp
def numP (d : Nat) (s : ByteArray) : Option Int := numR d s.data.toList
theorem emp_iff (s : ByteArray) : s.toList = (⟨#[]⟩ : ByteArray).toList ↔ s.size = 0 := by
  rw [← beq_iff_eq, size_nil, decide_eq_true_iff]
theorem np_no {d : Nat} {s : ByteArray} (h : ¬ (numOk d s.data.toList = true ∧ lead s.data.toList = false)) : numP d s = none := by
  unfold numP numR; rw [if_neg h]
theorem np_ok {d : Nat} {s : ByteArray} (h : numOk d s.data.toList = true) (h2 : lead s.data.toList = false) : numP d s = some (numV s.data.toList) := by
  unfold numP numR; rw [if_pos ⟨h, h2⟩]
theorem byteAt0 (l : List UInt8) (h : 0 < l.length) : byteAt (BL l) (0 : Int).toNat = 48 ↔ l.head? = some 48 := by
  cases l with
  | nil => simp at h
  | cons b r =>
    have := byteAt_bl (b :: r) 0 (by simp)
    rw [show (0 : Int).toNat = 0 from rfl, this]
    simp only [List.getElem_cons_zero, List.head?_cons, Option.some.injEq]
    constructor
    · intro h; exact UInt8.toNat_inj.1 (by rw [show (48 : UInt8).toNat = 48 from rfl]; omega)
    · intro h; rw [h]; rfl
set_option maxRecDepth 100000 in
set_option maxHeartbeats 4000000 in
theorem bNumber_pc (s : ByteArray) (d : Nat) (hd : d ≤ 16) (hsz : s.size ≤ 1000000) : PCp 84 [.c (.str s), .c (.int .i64 d)] [] (.tup [.c (.int .i64 ((numP d s).getD 0)), .c (.bool (numP d s).isSome)]) [] := by
  have hus := unsg_le s.data.toList
  have hsl : s.size = s.data.toList.length := (Array.length_toList).symm
  have hbu := bl_size (unsg s.data.toList)
  have hei := emp_iff (BL (unsg s.data.toList))
  by_cases hu : unsg s.data.toList = []
  · refine fn_sound (mt := mts) tab_fits tab_mixed Tryz.func84 (by rfl) (by kernel_rfl) (by kernel_rfl) Tryz.results84 (Nat.le_of_ble_eq_true (by kernel_rfl)) ?_
    conv => whnf
    repeat' (first | (refine .mk (fun h => ?_) (fun h => ?_) <;> (try simp only [decide_eq_true_eq, decide_eq_false_iff_not, Bool.not_eq_true', Bool.not_eq_false', beq_iff_eq, beq_eq_false_iff_ne, bne_iff_ne, bne_eq_false_iff_eq] at h) <;> (first | (exfalso; first | omega | exact h trivial) | (conv => whnf))) | (refine .mk _ _ (by exact trimPre_pc s) ?_; conv => whnf) | fail)
    all_goals first | (rw [np_no (by simp [numOk, hu])]; exact FinR.mk (And.intro rfl rfl)) | exact absurd (hei.2 (by rw [hbu, hu]; rfl)) (by assumption)
  · have hpos := List.length_pos_iff.2 hu
    have h48 := byteAt0 (unsg s.data.toList) hpos
    have hbt := byteAt_bl (unsg s.data.toList)
    have hdg := digs_iff (unsg s.data.toList)
    have hl : lead s.data.toList = decide ((unsg s.data.toList).head? = some 48 ∧ (1 < (unsg s.data.toList).length ∨ (unsg s.data.toList).length < s.data.toList.length)) := rfl
    have hk : numOk d s.data.toList = (decide (unsg s.data.toList ≠ [] ∧ (unsg s.data.toList).length ≤ d) && digs (unsg s.data.toList)) := rfl
    have hA := fun h => atoi_pc d s h hd
    have hP := trimPre_pc s
    generalize unsg s.data.toList = u at *
    refine fn_sound (mt := mts) tab_fits tab_mixed Tryz.func84 (by rfl) (by kernel_rfl) (by kernel_rfl) Tryz.results84 (Nat.le_of_ble_eq_true (by kernel_rfl)) ?_
    conv => whnf
    repeat' (first | (refine .mk (fun h => ?_) (fun h => ?_) <;> (try simp only [decide_eq_true_eq, decide_eq_false_iff_not, Bool.not_eq_true', Bool.not_eq_false', beq_iff_eq, beq_eq_false_iff_ne, bne_iff_ne, bne_eq_false_iff_eq] at h) <;> (first | (exfalso; first | omega | exact h trivial) | (conv => whnf))) | (refine .mk _ _ (by exact hP) ?_; conv => whnf) | (refine .mk (by first | omega | (unfold roomOK; simp [cutRows]; done) | (unfold roomOK; simp [cutRows]; omega) | (simp [cutRows]; done) | (simp [cutRows]; omega)) ?_; conv => whnf) | fail)
    · exact absurd (hei.1 (by assumption)) (by omega)
    · rw [np_no (by rw [hk, decide_eq_false (show ¬ (u ≠ [] ∧ u.length ≤ d) from fun h => by have := h.2; omega)]; simp)]; exact .mk ⟨rfl, rfl⟩
    · rw [np_no (by rw [hl, decide_eq_true (show u.head? = some 48 ∧ (1 < u.length ∨ u.length < s.data.toList.length) from ⟨h48.1 (by assumption), by omega⟩)]; simp)]; exact .mk ⟨rfl, rfl⟩
    · rw [np_no (by rw [hl, decide_eq_true (show u.head? = some 48 ∧ (1 < u.length ∨ u.length < s.data.toList.length) from ⟨h48.1 (by assumption), by omega⟩)]; simp)]; exact .mk ⟨rfl, rfl⟩
    · have hlz : lead s.data.toList = false := by
        rw [hl, decide_eq_false_iff_not]
        rintro ⟨_, h⟩; omega
      refine loop_for (u.length) [] [0, 6, 38, 39] (fun k (_ : Unit) => [(39, .c (.int .i64 (k : Int)))]) (fun k (_ : Unit) => []) (fun k (_ : Unit) => ∀ i (hi : i < u.length), i < k → 48 ≤ u[i].toNat ∧ u[i].toNat ≤ 57) (()) ?_
      conv => whnf
      refine ⟨(by first | rfl | (simp; done) | (simp; rfl)), ?_, ?_, ?_⟩
      · intro i hi h; omega
      · intro k _ hkk hi
        have hb := hbt k hkk
        conv => whnf
        repeat' (first | (refine .mk (fun h => ?_) (fun h => ?_) <;> (try simp only [decide_eq_true_eq, decide_eq_false_iff_not, Bool.not_eq_true', Bool.not_eq_false', beq_iff_eq, beq_eq_false_iff_ne, bne_iff_ne, bne_eq_false_iff_eq] at h) <;> (first | (exfalso; first | omega | exact h trivial) | (conv => whnf))) | (refine .mk (by first | omega | (unfold roomOK; simp [cutRows]; done) | (unfold roomOK; simp [cutRows]; omega) | (simp [cutRows]; done) | (simp [cutRows]; omega)) ?_; conv => whnf) | fail)
        all_goals simp only [Int.toNat_natCast, hb] at *
        · have hdf : digs u = false := by
            rw [Bool.eq_false_iff]; intro h2; have := hdg.1 h2 k hkk; omega
          rw [np_no (by rw [hk, hdf]; simp)]; exact .mk ⟨rfl, rfl⟩
        · have hdf : digs u = false := by
            rw [Bool.eq_false_iff]; intro h2; have := hdg.1 h2 k hkk; omega
          rw [np_no (by rw [hk, hdf]; simp)]; exact .mk ⟨rfl, rfl⟩
        · refine count_next () hkk (by rw [wrap_succ hkk (by omega)]; rfl) ?_
          intro i hi2 h2
          rcases Nat.lt_succ_iff_lt_or_eq.1 h2 with h3 | rfl
          · exact hi i hi2 h3
          · omega
      · intro _ hi
        have hdt : digs u = true := hdg.2 fun i h => hi i h h
        have hok : numOk d s.data.toList = true := by rw [hk, hdt, decide_eq_true (show u ≠ [] ∧ u.length ≤ d from ⟨hu, by omega⟩)]; rfl
        have cA := hA hok
        rw [np_ok hok hlz]
        conv => whnf
        repeat' (first | (refine .mk (fun h => ?_) (fun h => ?_) <;> (try simp only [decide_eq_true_eq, decide_eq_false_iff_not, Bool.not_eq_true', Bool.not_eq_false', beq_iff_eq, beq_eq_false_iff_ne, bne_iff_ne, bne_eq_false_iff_eq] at h) <;> (first | (exfalso; first | omega | exact h trivial) | (conv => whnf))) | (refine .mk _ _ (by exact cA) ?_; conv => whnf) | fail)
        exact .mk ⟨rfl, rfl⟩
    · have hlz : lead s.data.toList = false := by
        rw [hl, decide_eq_false_iff_not]
        rintro ⟨h, _⟩; exact absurd (h48.2 h) (by assumption)
      refine loop_for (u.length) [] [0, 6, 38, 39] (fun k (_ : Unit) => [(39, .c (.int .i64 (k : Int)))]) (fun k (_ : Unit) => []) (fun k (_ : Unit) => ∀ i (hi : i < u.length), i < k → 48 ≤ u[i].toNat ∧ u[i].toNat ≤ 57) (()) ?_
      conv => whnf
      refine ⟨(by first | rfl | (simp; done) | (simp; rfl)), ?_, ?_, ?_⟩
      · intro i hi h; omega
      · intro k _ hkk hi
        have hb := hbt k hkk
        conv => whnf
        repeat' (first | (refine .mk (fun h => ?_) (fun h => ?_) <;> (try simp only [decide_eq_true_eq, decide_eq_false_iff_not, Bool.not_eq_true', Bool.not_eq_false', beq_iff_eq, beq_eq_false_iff_ne, bne_iff_ne, bne_eq_false_iff_eq] at h) <;> (first | (exfalso; first | omega | exact h trivial) | (conv => whnf))) | (refine .mk (by first | omega | (unfold roomOK; simp [cutRows]; done) | (unfold roomOK; simp [cutRows]; omega) | (simp [cutRows]; done) | (simp [cutRows]; omega)) ?_; conv => whnf) | fail)
        all_goals simp only [Int.toNat_natCast, hb] at *
        · have hdf : digs u = false := by
            rw [Bool.eq_false_iff]; intro h2; have := hdg.1 h2 k hkk; omega
          rw [np_no (by rw [hk, hdf]; simp)]; exact .mk ⟨rfl, rfl⟩
        · have hdf : digs u = false := by
            rw [Bool.eq_false_iff]; intro h2; have := hdg.1 h2 k hkk; omega
          rw [np_no (by rw [hk, hdf]; simp)]; exact .mk ⟨rfl, rfl⟩
        · refine count_next () hkk (by rw [wrap_succ hkk (by omega)]; rfl) ?_
          intro i hi2 h2
          rcases Nat.lt_succ_iff_lt_or_eq.1 h2 with h3 | rfl
          · exact hi i hi2 h3
          · omega
      · intro _ hi
        have hdt : digs u = true := hdg.2 fun i h => hi i h h
        have hok : numOk d s.data.toList = true := by rw [hk, hdt, decide_eq_true (show u ≠ [] ∧ u.length ≤ d from ⟨hu, by omega⟩)]; rfl
        have cA := hA hok
        rw [np_ok hok hlz]
        conv => whnf
        repeat' (first | (refine .mk (fun h => ?_) (fun h => ?_) <;> (try simp only [decide_eq_true_eq, decide_eq_false_iff_not, Bool.not_eq_true', Bool.not_eq_false', beq_iff_eq, beq_eq_false_iff_ne, bne_iff_ne, bne_eq_false_iff_eq] at h) <;> (first | (exfalso; first | omega | exact h trivial) | (conv => whnf))) | (refine .mk _ _ (by exact cA) ?_; conv => whnf) | fail)
        exact .mk ⟨rfl, rfl⟩
def noneE (l : List ByteArray) : Bool := l.all fun s => decide (s.size ≠ 0)
theorem splB_len (c : UInt8) (s : ByteArray) : (splB c s).length ≤ s.size + 1 := by
  have := spl_len c s.data.toList
  rw [show s.size = s.data.toList.length from (Array.length_toList).symm]
  simpa [splB] using this
theorem splB_memL {c : UInt8} {l : List UInt8} {x : ByteArray} (h : x ∈ splB c (BL l)) : x.size ≤ l.length := by
  obtain ⟨y, hy, rfl⟩ := List.mem_map.1 h
  exact spl_mem c _ y hy
set_option maxRecDepth 100000 in
set_option maxHeartbeats 4000000 in
theorem bLines_pc (s : ByteArray) (hs : s.size ≤ 1000000) : PCp 105 [.c (.str s)] [] (.tup [.c (.lst 1 ((linesB s.data.toList).map encS)), .c (.bool (endsV s.data.toList))]) [] := by
  have hsl : s.size = s.data.toList.length := (Array.length_toList).symm
  have ht := trimSuf_len s.data.toList
  have hbz := bl_size (Lib.trimSuffix s.data.toList [10])
  have c1 := split_pc 10 (BL (Lib.trimSuffix s.data.toList [10])) (by omega)
  have hB : (splB 10 (BL (Lib.trimSuffix s.data.toList [10]))) = (spl 10 (Lib.trimSuffix s.data.toList [10])).map BL := by
    unfold splB; simp
  rw [hB] at c1
  refine fn_sound (mt := mts) tab_fits tab_mixed Tryz.func105 (by rfl) (by kernel_rfl) (by kernel_rfl) Tryz.results105 (Nat.le_of_ble_eq_true (by kernel_rfl)) ?_
  conv => whnf
  repeat' (first | (refine .mk (fun h => ?_) (fun h => ?_) <;> (try simp only [decide_eq_true_eq, decide_eq_false_iff_not, Bool.not_eq_true', Bool.not_eq_false', beq_iff_eq, beq_eq_false_iff_ne, bne_iff_ne, bne_eq_false_iff_eq] at h) <;> (first | (exfalso; first | omega | exact h trivial) | (conv => whnf))) | (refine .mk _ _ (by first | exact cutSuf_pc s (by omega) | exact c1) ?_; conv => whnf) | fail)
  · have h0 : s.data.toList = [] := List.eq_nil_of_length_eq_zero (by have := (emp_iff s).1 (by assumption); omega)
    rw [h0]
    exact fin2n
  · have h0 : s.data.toList ≠ [] := fun e => by
      have h1 : s.toList ≠ (⟨#[]⟩ : ByteArray).toList := by assumption
      exact h1 ((emp_iff s).2 (by rw [hsl, e]; rfl))
    unfold linesB linesV endsV
    rw [if_neg h0, if_neg h0]
    exact fin2r rfl
end Go.Proofs.YtilfcojhdhgmfaaGreatDoor

namespace Go.Proofs.YtilfcojhdhgmfaaGreatDoor
set_option linter.unusedVariables false
set_option linter.unusedSimpArgs false
open Abs

theorem itoaB_size (n : Int) (h0 : -9223372036854775808 ≤ n) (h1 : n ≤ 9223372036854775807) : (itoaB n).size ≤ 21 := Lib.itoa_length_le n h0 h1
def catB (l : List ByteArray) : ByteArray := l.foldl (· ++ ·) ⟨#[]⟩
theorem catB_snoc (l : List ByteArray) (x : ByteArray) : catB (l ++ [x]) = catB l ++ x := by unfold catB; rw [List.foldl_append]; rfl
theorem catB_size (l : List ByteArray) (m : Nat) (h : ∀ x ∈ l, x.size ≤ m) : (catB l).size ≤ l.length * m := by
  have key : ∀ (l : List ByteArray) (a : ByteArray), (∀ x ∈ l, x.size ≤ m) → (l.foldl (· ++ ·) a).size ≤ a.size + l.length * m := by
    intro l
    induction l with
    | nil => intro a _; simp
    | cons b r ih =>
      intro a h
      have h1 := ih (a ++ b) (fun x hx => h x (List.mem_cons_of_mem _ hx))
      have h2 := h b (List.mem_cons_self ..)
      rw [List.foldl_cons, List.length_cons, Nat.succ_mul]
      rw [ByteArray.size_append] at h1
      omega
  have := key l ⟨#[]⟩ h
  rw [show (⟨#[]⟩ : ByteArray).size = 0 from rfl, Nat.zero_add] at this
  exact this
theorem catB_ge : ∀ (l : List ByteArray) (a : ByteArray), a.size ≤ (l.foldl (· ++ ·) a).size ∧ ∀ x ∈ l, x.size ≤ (l.foldl (· ++ ·) a).size
  | [], a => ⟨Nat.le_refl _, fun x h => by simp at h⟩
  | b :: r, a => by
    have ih := catB_ge r (a ++ b)
    rw [List.foldl_cons]
    have e : (a ++ b).size = a.size + b.size := ByteArray.size_append
    refine ⟨by omega, fun x hx => ?_⟩
    rcases List.mem_cons.1 hx with rfl | hx
    · omega
    · exact ih.2 x hx
theorem catB_mem {l : List ByteArray} {x : ByteArray} (h : x ∈ l) : x.size ≤ (catB l).size := (catB_ge l _).2 x h
end Go.Proofs.YtilfcojhdhgmfaaGreatDoor

namespace Go.Proofs.YtilfcojhdhgmfaaGreatDoor
set_option linter.unusedVariables false
set_option linter.unusedSimpArgs false
open Abs

theorem goL_grow {σ : Type} (f : σ → List UInt8 → σ × Bool) (len : σ → Nat) (h : ∀ s x, len (f s x).1 ≤ len s + 1) : ∀ (L : List (List UInt8)) (s : σ) (i : Nat), len (goL f s i L).1 ≤ len s + L.length
  | [], s, i => by simp [goL]
  | x :: r, s, i => by
    have h0 := h s x
    rw [goL]
    by_cases hr : r = []
    · rw [if_pos hr]; split <;> simp
    · rw [if_neg hr]
      split
      · have := goL_grow f len h r (f s x).1 (i + 1)
        simp only [List.length_cons]; omega
      · simp only [List.length_cons]; omega
structure Rd (α : Type) where
  v : α
  i : Nat
  e : Int
def readV {σ : Type} (f : σ → List UInt8 → σ × Bool) (z : σ) (fault : σ → Int) (t : List UInt8) : Rd σ :=
  if 200000 < t.length then ⟨z, 0, 2⟩
  else if (goL f z 0 (spl 10 t)).2.2 = false then ⟨z, (goL f z 0 (spl 10 t)).2.1, 9⟩
  else if fault (goL f z 0 (spl 10 t)).1 ≠ 0 then ⟨z, 0, fault (goL f z 0 (spl 10 t)).1⟩
  else ⟨(goL f z 0 (spl 10 t)).1, 0, 0⟩
def nvP (s : ByteArray) : Int := (numP 15 s).getD 0
def wd (line : List UInt8) (i : Nat) : ByteArray := (splB 32 (BL line)).getD i ⟨#[]⟩
def eB : ByteArray := ⟨#[]⟩
def bArrive : ByteArray := ⟨#[97, 114, 114, 105, 118, 101]⟩
def bCut : ByteArray := ⟨#[99, 117, 116]⟩
def bReturn : ByteArray := ⟨#[114, 101, 116, 117, 114, 110]⟩
def bScrap : ByteArray := ⟨#[115, 99, 114, 97, 112]⟩
def ac0 : Ac := ⟨0, 0, eB, eB, eB, 0⟩
def acPrg (W : List ByteArray) : Ac × Bool :=
  if W.length < 3 ∨ noneE W = false then (ac0, false)
  else if (numP 15 (W.getD 0 eB)).isSome = false then (ac0, false)
  else if W.getD 2 eB = bScrap ∧ W.length = 3 then (⟨nvP (W.getD 0 eB), 4, W.getD 1 eB, eB, eB, 0⟩, true)
  else if W.getD 2 eB = bCut ∧ W.length = 4 then (⟨nvP (W.getD 0 eB), 2, W.getD 1 eB, eB, eB, nvP (W.getD 3 eB)⟩, (numP 15 (W.getD 3 eB)).isSome)
  else if W.getD 2 eB = bArrive ∧ W.length = 5 then (⟨nvP (W.getD 0 eB), 1, W.getD 1 eB, W.getD 3 eB, eB, nvP (W.getD 4 eB)⟩, (numP 15 (W.getD 4 eB)).isSome)
  else if W.getD 2 eB = bReturn ∧ W.length = 5 then (⟨nvP (W.getD 0 eB), 3, W.getD 1 eB, eB, W.getD 3 eB, nvP (W.getD 4 eB)⟩, (numP 15 (W.getD 4 eB)).isSome)
  else (ac0, false)
def acSt (f : List ByteArray → Ac × Bool) (st : List Ac) (line : List UInt8) : List Ac × Bool := (st ++ [(f (splB 32 (BL line))).1], (f (splB 32 (BL line))).2)
theorem acSt_grow (f : List ByteArray → Ac × Bool) (st : List Ac) (line : List UInt8) : (acSt f st line).1.length ≤ st.length + 1 := by simp [acSt]
end Go.Proofs.YtilfcojhdhgmfaaGreatDoor

namespace Go.Proofs.YtilfcojhdhgmfaaGreatDoor
set_option linter.unusedVariables false
set_option linter.unusedSimpArgs false
open Abs

abbrev clO {α : Type} (T sz : Nat) (enc : α → List V) (st : List α) : List Ob := [.box [.row 1], .row T sz (st.map enc)]
def Rdr {α : Type} (T sz : Nat) (enc : α → List V) (g : Nat) (f : List α → List UInt8 → List α × Bool) : Prop :=
  ∀ (st : List α) (line : List UInt8), st.length ≤ 999999 → line.length ≤ 999999 →
    PCq g [.c (.str (BL line)), .c (.ptr 0 0)] (clO T sz enc st) fun r os => r = .c (.bool (f st line).2) ∧ ((os = clO T sz enc st ∧ (f st line).1 = st) ∨ os = [.box [.row 2], .dead, .row T sz ((f st line).1.map enc)])
set_option maxRecDepth 100000 in
set_option maxHeartbeats 4000000 in
theorem each1_pc {α : Type} (T sz : Nat) (enc : α → List V) (g : Nat) (f : List α → List UInt8 → List α × Bool) (hf : ∀ st x, (f st x).1.length ≤ st.length + 1) (hC : Rdr T sz enc g f) (tl : List UInt8) (hs : tl.length ≤ 200000) :
    PCp 44 [.c (.str (BL tl)), .c (.fn g [.ptr 0 0])] [.box [.nils]] (.tup [.c (.int .i64 ((goL f [] 0 (spl 10 tl)).2.1 : Nat)), .c (.bool (goL f [] 0 (spl 10 tl)).2.2)]) (clO T sz enc (goL f [] 0 (spl 10 tl)).1) := by
  have hE := lines_go f [] tl
  have hb := linesV_bd tl
  have cL := bLines_pc (BL tl) (by rw [bl_size]; omega)
  have hx : (BL tl).data.toList = tl := by simp
  rw [hx] at cL
  unfold linesB at cL
  rw [← hE]
  generalize linesV tl = LL at *
  generalize endsV tl = en at *
  have hlm : ((LL.map BL).map encS).length = LL.length := by simp
  have hlm2 : (LL.map BL).length = LL.length := by simp
  refine fn_sound (mt := mts) tab_fits tab_mixed Tryz.func44 (by rfl) (by kernel_rfl) (by kernel_rfl) Tryz.results44 (Nat.le_of_ble_eq_true (by kernel_rfl)) ?_
  conv => whnf
  repeat' (first | (refine .mk _ _ (by exact cL) ?_; conv => whnf) | fail)
  refine loop_for (LL.length) [.ob 0 0 T sz] [1, 6, 7, 15, 16, 17] (fun k (st : List α) => [(17, .c (.int .i64 (k : Int)))]) (fun k (st : List α) => [(0, .box [.row 1]), (1, .row T sz (st.map enc))]) (fun k (st : List α) => eachL f en st k (LL.drop k) = eachL f en [] 0 LL ∧ st.length ≤ k) ([]) ?_
  conv => whnf
  refine ⟨(by first | rfl | (simp; done) | (simp; rfl)), ?_, ?_, ?_⟩
  · exact ⟨rfl, Nat.le_refl _⟩
  · intro k st hk ⟨hi, hl⟩
    have hll := hb.2 _ (List.getElem_mem hk)
    have hgr := hf st LL[k]
    have hg : (LL.map BL)[k]'(by omega) = BL LL[k] := by simp
    have hd : LL.drop (k + 1) = [] ↔ k + 1 = LL.length := by rw [List.drop_eq_nil_iff]; omega
    rw [List.drop_eq_getElem_cons hk, eachL] at hi
    have wl : IntKind.i64.wrap (((((LL.map BL).map encS).length : Nat) : Int) - 1) = (LL.length : Int) - 1 := by rw [hlm]; exact wrap_in (by omega) (by omega)
    have cH := hC st LL[k] (by omega) (by omega)
    rw [← hg] at cH
    generalize f st LL[k] = q at *
    obtain ⟨s', b⟩ := q
    simp only at hi hgr cH
    have hnx : (en = false → k + 1 ≠ LL.length) → b = true → eachL f en s' (k + 1) (LL.drop (k + 1)) = eachL f en [] 0 LL := fun h1 h2 => by
      rw [if_neg (fun h => h1 h.1 (hd.1 h.2)), if_pos h2] at hi; exact hi
    have hrt : (en = false → k + 1 ≠ LL.length) → b = false → (s', k, false) = eachL f en [] 0 LL := fun h1 h2 => by
      rw [if_neg (fun h => h1 h.1 (hd.1 h.2)), if_neg (by rw [h2]; decide)] at hi; exact hi
    have hlast : en = false → k + 1 = LL.length → (st, k, false) = eachL f en [] 0 LL := fun h1 h2 => by
      rw [if_pos ⟨h1, hd.2 h2⟩] at hi; exact hi
    clear hi
    conv => whnf
    repeat' (first | (refine .mk (fun h => ?_) (fun h => ?_) <;> (try simp only [decide_eq_true_eq, decide_eq_false_iff_not, Bool.not_eq_true', Bool.not_eq_false', beq_iff_eq, beq_eq_false_iff_ne, bne_iff_ne, bne_eq_false_iff_eq] at h) <;> (first | (exfalso; first | omega | exact h trivial) | (conv => whnf))) | (refine idx_at _ (by with_reducible rfl) (by first | assumption | omega) ?_; conv => whnf) | fail)
    · rw [← hlast (by assumption) (by omega)]
      exact .mk ⟨rfl, rfl⟩
    all_goals
      have hne : en = false → k + 1 ≠ LL.length := fun h1 => by first | omega | (exfalso; have h2 : en = true := (by assumption); rw [h2] at h1; cases h1)
      refine .ex _ cH ?_
      rintro _ _ ⟨rfl, h⟩
      rcases h with ⟨rfl, rfl⟩ | rfl
      · conv => whnf
        repeat' (first | (refine .mk (fun h => ?_) (fun h => ?_) <;> (try simp only [decide_eq_true_eq, decide_eq_false_iff_not, Bool.not_eq_true', Bool.not_eq_false', beq_iff_eq, beq_eq_false_iff_ne, bne_iff_ne, bne_eq_false_iff_eq] at h) <;> (first | (exfalso; first | omega | exact h trivial) | (conv => whnf))) | fail)
        · rw [← hrt hne (by assumption)]
          exact .mk ⟨rfl, rfl⟩
        · exact count_next s' hk (by rw [wrap_succ hk (by omega)]; rfl) ⟨hnx hne (by assumption), by omega⟩
      · conv => whnf
        repeat' (first | (refine .mk (fun h => ?_) (fun h => ?_) <;> (try simp only [decide_eq_true_eq, decide_eq_false_iff_not, Bool.not_eq_true', Bool.not_eq_false', beq_iff_eq, beq_eq_false_iff_ne, bne_iff_ne, bne_eq_false_iff_eq] at h) <;> (first | (exfalso; first | omega | exact h trivial) | (conv => whnf))) | fail)
        · rw [← hrt hne (by assumption)]
          exact .mk ⟨rfl, rfl⟩
        · exact count_next s' hk (by rw [wrap_succ hk (by omega)]; rfl) ⟨hnx hne (by assumption), by omega⟩
  · intro st ⟨hi, hl⟩
    rw [List.drop_of_length_le (Nat.le_refl _), eachL] at hi
    rw [← hi]
    conv => whnf
    repeat' (first | (refine .mk (fun h => ?_) (fun h => ?_) <;> (try simp only [decide_eq_true_eq, decide_eq_false_iff_not, Bool.not_eq_true', Bool.not_eq_false', beq_iff_eq, beq_eq_false_iff_ne, bne_iff_ne, bne_eq_false_iff_eq] at h) <;> (first | (exfalso; first | omega | exact h trivial) | (conv => whnf))) | fail)
    all_goals exact .mk ⟨rfl, rfl⟩
end Go.Proofs.YtilfcojhdhgmfaaGreatDoor

namespace Go.Proofs.YtilfcojhdhgmfaaGreatDoor
set_option linter.unusedVariables false
set_option linter.unusedSimpArgs false
open Abs

end Go.Proofs.YtilfcojhdhgmfaaGreatDoor

namespace Go.Proofs.YtilfcojhdhgmfaaGreatDoor
set_option linter.unusedVariables false
set_option linter.unusedSimpArgs false
open Abs

end Go.Proofs.YtilfcojhdhgmfaaGreatDoor

namespace Go.Proofs.YtilfcojhdhgmfaaGreatDoor
set_option linter.unusedVariables false
set_option linter.unusedSimpArgs false
open Abs

end Go.Proofs.YtilfcojhdhgmfaaGreatDoor

namespace Go.Proofs.YtilfcojhdhgmfaaGreatDoor
set_option linter.unusedVariables false
set_option linter.unusedSimpArgs false
open Abs

end Go.Proofs.YtilfcojhdhgmfaaGreatDoor

namespace Go.Proofs.YtilfcojhdhgmfaaGreatDoor
set_option linter.unusedVariables false
set_option linter.unusedSimpArgs false
open Abs

end Go.Proofs.YtilfcojhdhgmfaaGreatDoor

namespace Go.Proofs.YtilfcojhdhgmfaaGreatDoor
set_option linter.unusedVariables false
set_option linter.unusedSimpArgs false
open Abs

theorem keyB_size {s : ByteArray} (h : keyB s = true) : 1 ≤ s.size ∧ s.size ≤ 40 := by
  unfold keyB at h
  have := of_decide_eq_true h
  omega
end Go.Proofs.YtilfcojhdhgmfaaGreatDoor

namespace Go.Proofs.YtilfcojhdhgmfaaGreatDoor
set_option linter.unusedVariables false
set_option linter.unusedSimpArgs false
open Abs

def qArrive : ByteArray := ⟨#[97, 114, 114, 105, 118, 101, 32]⟩
def qCut : ByteArray := ⟨#[99, 117, 116, 32]⟩
def qReturn : ByteArray := ⟨#[114, 101, 116, 117, 114, 110, 32]⟩
def wdsV (x : Ac) : ByteArray :=
  if x.kd = 1 then qArrive ++ x.ty ++ b1 32 ++ itoaB x.long else if x.kd = 2 then qCut ++ itoaB x.long else if x.kd = 3 then qReturn ++ x.of ++ b1 32 ++ itoaB x.long else bScrap
def acLine (x : Ac) : ByteArray := itoaB x.mo ++ b1 32 ++ x.drum ++ b1 32 ++ wdsV x ++ b1 10
def acText (l : List Ac) : ByteArray := catB (l.map acLine)
def acOut (l : List Ac) : ByteArray := if actsFault l = 0 then acText l else ⟨#[]⟩
structure AcLn (x : Ac) : Prop where
  mo : 0 ≤ x.mo ∧ x.mo ≤ 345686399999
  kd : 1 ≤ x.kd ∧ x.kd ≤ 4
  long : 0 ≤ x.long ∧ x.long ≤ 200000
  drum : x.drum.size ≤ 40
  ty : x.ty.size ≤ 40
  of : x.of.size ≤ 40
  n1 : (itoaB x.mo).size ≤ 21
  n2 : (itoaB x.long).size ≤ 21
  wd : (wdsV x).size ≤ 69
  lo : 2 ≤ (acLine x).size
  hi : (acLine x).size ≤ 135
theorem acLn {x : Ac} (h : actErr x = 0) : AcLn x := by
  have h1 := actErr_in h
  have hty : x.ty.size ≤ 40 ∧ x.of.size ≤ 40 := by
    unfold actErr at h
    generalize hm : momB x.mo = bm at h
    cases bm with
    | false => simp at h
    | true =>
      simp only [Bool.not_true, Bool.false_eq_true, if_false] at h
      rw [if_neg (by omega)] at h
      split at h
      · omega
      · rename_i h2
        split at h
        · omega
        · split at h
          · omega
          · rename_i h3
            simp only [Bool.or_eq_true, Bool.not_eq_true', Bool.and_eq_true, beq_iff_eq, not_or, not_and, Bool.not_eq_false] at h2
            have h4 := h2.1.2
            have h5 := h2.2
            constructor
            · by_cases e : x.kd = 1
              · exact (keyB_size (h4 e)).2
              · have : x.ty.toList = (⟨#[]⟩ : ByteArray).toList := Classical.byContradiction fun q => h3 (.inl ⟨e, q⟩)
                rw [(emp_iff _).1 this]; omega
            · by_cases e : x.kd = 3
              · exact (keyB_size (h5 e)).2
              · have : x.of.toList = (⟨#[]⟩ : ByteArray).toList := Classical.byContradiction fun q => h3 (.inr (.inl ⟨e, q⟩))
                rw [(emp_iff _).1 this]; omega
  have hd := keyB_size h1.2.2.2.2.2.2.2.1
  have n1 := itoaB_size x.mo (by omega) (by omega)
  have n2 := itoaB_size x.long (by omega) (by omega)
  have s1 : (b1 32).size = 1 := rfl
  have s2 : (b1 10).size = 1 := rfl
  have s3 : qArrive.size = 7 := rfl
  have s4 : qCut.size = 4 := rfl
  have s5 : qReturn.size = 7 := rfl
  have s6 : bScrap.size = 5 := rfl
  have hw : (wdsV x).size ≤ 69 := by
    unfold wdsV
    (repeat' split) <;> (try simp only [ByteArray.size_append]) <;> omega
  have hs : (acLine x).size = (itoaB x.mo).size + 1 + x.drum.size + 1 + (wdsV x).size + 1 := by
    unfold acLine; simp only [ByteArray.size_append]; omega
  exact ⟨⟨h1.1, h1.2.1⟩, ⟨h1.2.2.1, h1.2.2.2.1⟩, ⟨h1.2.2.2.2.1, h1.2.2.2.2.2.1⟩, hd.2, hty.1, hty.2, n1, n2, hw, by omega, by omega⟩
theorem acText_bd {l : List Ac} (h : ∀ x ∈ l, AcLn x) : (acText l).size ≤ l.length * 135 := by
  have := catB_size (l.map acLine) 135 (fun x hx => by
    obtain ⟨q, hq, rfl⟩ := List.mem_map.1 hx
    exact (h q hq).hi)
  rwa [List.length_map] at this
set_option maxRecDepth 100000 in
set_option maxHeartbeats 4000000 in
theorem dWords_pc (x : Ac) (h : AcLn x) : PCp 41 [.agg (encAc x)] [] (.c (.str (wdsV x))) [] := by
  have i1 := itoa_pc x.long (by have := h.long; omega) (by have := h.long; omega)
  have z1 : (⟨#[32]⟩ : ByteArray).size = 1 := rfl
  have s3 : (⟨#[97, 114, 114, 105, 118, 101, 32]⟩ : ByteArray).size = 7 := rfl
  have s4 : (⟨#[99, 117, 116, 32]⟩ : ByteArray).size = 4 := rfl
  have s5 : (⟨#[114, 101, 116, 117, 114, 110, 32]⟩ : ByteArray).size = 7 := rfl
  have hty := h.ty
  have hof := h.of
  have n2 := h.n2
  have hkd := h.kd
  have v1 : (⟨#[97, 114, 114, 105, 118, 101, 32]⟩ ++ x.ty).size = 7 + x.ty.size := by rw [ByteArray.size_append, s3]
  have v2 : (⟨#[97, 114, 114, 105, 118, 101, 32]⟩ ++ x.ty ++ ⟨#[32]⟩).size = 7 + x.ty.size + 1 := by rw [ByteArray.size_append, v1, z1]
  have v3 : (⟨#[114, 101, 116, 117, 114, 110, 32]⟩ ++ x.of).size = 7 + x.of.size := by rw [ByteArray.size_append, s5]
  have v4 : (⟨#[114, 101, 116, 117, 114, 110, 32]⟩ ++ x.of ++ ⟨#[32]⟩).size = 7 + x.of.size + 1 := by rw [ByteArray.size_append, v3, z1]
  unfold wdsV
  refine fn_sound (mt := mts) tab_fits tab_mixed Tryz.func41 (by rfl) (by kernel_rfl) (by kernel_rfl) Tryz.results41 (Nat.le_of_ble_eq_true (by kernel_rfl)) ?_
  conv => whnf
  repeat' (first | (refine .mk (fun h => ?_) (fun h => ?_) <;> (try simp only [decide_eq_true_eq, decide_eq_false_iff_not, Bool.not_eq_true', Bool.not_eq_false', beq_iff_eq, beq_eq_false_iff_ne, bne_iff_ne, bne_eq_false_iff_eq] at h) <;> (first | (exfalso; first | omega | exact h trivial) | (conv => whnf))) | (refine .mk _ _ (by exact i1) ?_; conv => whnf) | (refine .mk (by first | omega | (unfold roomOK; simp [cutRows]; done) | (unfold roomOK; simp [cutRows]; omega) | (simp [cutRows]; done) | (simp [cutRows]; omega)) ?_; conv => whnf) | fail)
  all_goals first
    | (rw [if_pos (by assumption)]; exact .mk ⟨rfl, rfl⟩)
    | (rw [if_neg (by omega), if_pos (by omega)]; exact .mk ⟨rfl, rfl⟩)
    | (rw [if_neg (by omega), if_neg (by omega), if_pos (by omega)]; exact .mk ⟨rfl, rfl⟩)
    | (rw [if_neg (by omega), if_neg (by omega), if_neg (by omega)]; exact .mk ⟨rfl, rfl⟩)
set_option maxRecDepth 100000 in
set_option maxHeartbeats 4000000 in
theorem dText_pc (s : List Ac) (hl : s.length ≤ 100) : PCp 9 [.c (.lst 6 (s.map encAc))] [] (.tup [.c (.str (acOut s)), .c (.int .i64 (actsFault s))]) [] := by
  have hlm : (s.map encAc).length = s.length := List.length_map ..
  have c0 := checkActs_pc s
  unfold acOut
  by_cases he : actsFault s = 0
  · have h2 : ∀ x ∈ s, AcLn x := fun x hm => acLn ((actsFault_all he).2 x hm)
    rw [if_pos he, he]
    rw [he] at c0
    rcases Nat.eq_zero_or_pos s.length with h0 | h0
    · have : s = [] := List.length_eq_zero_iff.1 h0
      subst this
      refine fn_sound (mt := mts) tab_fits tab_mixed Tryz.func9 (by rfl) (by kernel_rfl) (by kernel_rfl) Tryz.results9 (Nat.le_of_ble_eq_true (by kernel_rfl)) ?_
      conv => whnf
      repeat' (first | (refine .mk (fun h => ?_) (fun h => ?_) <;> (try simp only [decide_eq_true_eq, decide_eq_false_iff_not, Bool.not_eq_true', Bool.not_eq_false', beq_iff_eq, beq_eq_false_iff_ne, bne_iff_ne, bne_eq_false_iff_eq] at h) <;> (first | (exfalso; first | omega | exact h trivial) | (conv => whnf))) | (refine .mk _ _ (by exact c0) ?_; conv => whnf) | fail)
      refine .un 1 ?_
      conv => whnf
      repeat' (first | (refine .mk (fun h => ?_) (fun h => ?_) <;> (try simp only [decide_eq_true_eq, decide_eq_false_iff_not, Bool.not_eq_true', Bool.not_eq_false', beq_iff_eq, beq_eq_false_iff_ne, bne_iff_ne, bne_eq_false_iff_eq] at h) <;> (first | (exfalso; first | omega | exact h trivial) | (conv => whnf))) | (refine .mk _ _ (by first | exact len0_pc | exact str0_pc) ?_; conv => whnf) | fail)
      exact .mk ⟨rfl, rfl⟩
    · have hsz := acText_bd h2
      have hpos : 0 < (acText s).size := by
        have h4 := catB_mem (l := s.map acLine) (List.mem_map.2 ⟨s[0], List.getElem_mem h0, rfl⟩)
        have h6 := (h2 _ (List.getElem_mem h0)).lo
        unfold acText
        omega
      have cL := len1_pc (acText s)
      have cS := str1_pc (acText s) hpos
      refine fn_sound (mt := mts) tab_fits tab_mixed Tryz.func9 (by rfl) (by kernel_rfl) (by kernel_rfl) Tryz.results9 (Nat.le_of_ble_eq_true (by kernel_rfl)) ?_
      conv => whnf
      repeat' (first | (refine .mk (fun h => ?_) (fun h => ?_) <;> (try simp only [decide_eq_true_eq, decide_eq_false_iff_not, Bool.not_eq_true', Bool.not_eq_false', beq_iff_eq, beq_eq_false_iff_ne, bne_iff_ne, bne_eq_false_iff_eq] at h) <;> (first | (exfalso; first | omega | exact h trivial) | (conv => whnf))) | (refine .mk _ _ (by exact c0) ?_; conv => whnf) | fail)
      refine loop_for (s.length) [.bx 5 1 5 1] [5, 13, 14, 15] (fun k (_ : Unit) => [(15, .c (.int .i64 (k : Int)))]) (fun k (_ : Unit) => [(0, .box [bif Nat.beq k 0 then .nilp else .ptr 0 0, .row 1] TBld), (1, .row 5 1 (byteRows (catB ((s.take k).map acLine))))]) (fun k (_ : Unit) => True) (()) ?_
      conv => whnf
      refine ⟨(by first | rfl | (simp; done) | (simp; rfl)), (by trivial), ?_, ?_⟩
      · intro k _ hk _
        have hxk := h2 _ (List.getElem_mem hk)
        have cw := dWords_pc s[k] hxk
        obtain ⟨g1, g2, g3, g4, g5, g6, g7, g8, g9, g10, g11⟩ := hxk
        have hks := acText_bd (l := s.take k) (fun x hx => h2 x (List.mem_of_mem_take hx))
        unfold acText at hks
        rw [List.length_take] at hks
        have e1 : catB ((s.take (k + 1)).map acLine) = catB ((s.take k).map acLine) ++ acLine s[k] := by rw [List.take_succ_eq_append_getElem hk, List.map_append, List.map_cons, List.map_nil, catB_snoc]
        have z1 : (⟨#[32]⟩ : ByteArray).size = 1 := rfl
        have z2 : (⟨#[10]⟩ : ByteArray).size = 1 := rfl
        have z3 : (itoaB s[k].mo ++ ⟨#[32]⟩).size = (itoaB s[k].mo).size + 1 := ByteArray.size_append
        have z4 : (itoaB s[k].mo ++ ⟨#[32]⟩ ++ s[k].drum).size = (itoaB s[k].mo).size + 1 + s[k].drum.size := by rw [ByteArray.size_append, z3]
        have z5 : (itoaB s[k].mo ++ ⟨#[32]⟩ ++ s[k].drum ++ ⟨#[32]⟩).size = (itoaB s[k].mo).size + 1 + s[k].drum.size + 1 := by rw [ByteArray.size_append, z4, z1]
        have z6 : (itoaB s[k].mo ++ ⟨#[32]⟩ ++ s[k].drum ++ ⟨#[32]⟩ ++ wdsV s[k]).size = (itoaB s[k].mo).size + 1 + s[k].drum.size + 1 + (wdsV s[k]).size := by rw [ByteArray.size_append, z5]
        have i1 := itoa_pc s[k].mo (by omega) (by omega)
        generalize catB ((s.take k).map acLine) = tx at *
        have w0 := ws0_pc tx (acLine s[k]) (by omega)
        have w1 := ws1_pc tx (acLine s[k]) (by omega)
        unfold acLine at w0 w1
        rcases Nat.eq_zero_or_pos k with rfl | hk0
        · conv => whnf
          repeat' (first | (refine .mk (fun h => ?_) (fun h => ?_) <;> (try simp only [decide_eq_true_eq, decide_eq_false_iff_not, Bool.not_eq_true', Bool.not_eq_false', beq_iff_eq, beq_eq_false_iff_ne, bne_iff_ne, bne_eq_false_iff_eq] at h) <;> (first | (exfalso; first | omega | exact h trivial) | (conv => whnf))) | (refine .mk _ _ (by first | exact i1 | exact cw | exact w0) ?_; conv => whnf) | (refine .mk (by first | omega | (unfold roomOK; simp [cutRows]; done) | (unfold roomOK; simp [cutRows]; omega) | (simp [cutRows]; done) | (simp [cutRows]; omega)) ?_; conv => whnf) | (refine idx_at _ (by with_reducible rfl) (by first | assumption | omega) ?_; conv => whnf) | fail)
          exact count_next () hk (by rw [wrap_succ hk (by omega), e1]; rfl) trivial
        · obtain ⟨j, rfl⟩ : ∃ j, k = j + 1 := ⟨k - 1, by omega⟩
          conv => whnf
          repeat' (first | (refine .mk (fun h => ?_) (fun h => ?_) <;> (try simp only [decide_eq_true_eq, decide_eq_false_iff_not, Bool.not_eq_true', Bool.not_eq_false', beq_iff_eq, beq_eq_false_iff_ne, bne_iff_ne, bne_eq_false_iff_eq] at h) <;> (first | (exfalso; first | omega | exact h trivial) | (conv => whnf))) | (refine .mk _ _ (by first | exact i1 | exact cw | exact w1) ?_; conv => whnf) | (refine .mk (by first | omega | (unfold roomOK; simp [cutRows]; done) | (unfold roomOK; simp [cutRows]; omega) | (simp [cutRows]; done) | (simp [cutRows]; omega)) ?_; conv => whnf) | (refine idx_at _ (by with_reducible rfl) (by first | assumption | omega) ?_; conv => whnf) | fail)
          exact count_next () hk (by rw [wrap_succ hk (by omega), e1]; rfl) trivial
      · intro _ _
        rw [List.take_length]
        obtain ⟨j, hj⟩ : ∃ j, s.length = j + 1 := ⟨s.length - 1, by omega⟩
        rw [hj]
        conv => whnf
        repeat' (first | (refine .mk (fun h => ?_) (fun h => ?_) <;> (try simp only [decide_eq_true_eq, decide_eq_false_iff_not, Bool.not_eq_true', Bool.not_eq_false', beq_iff_eq, beq_eq_false_iff_ne, bne_iff_ne, bne_eq_false_iff_eq] at h) <;> (first | (exfalso; first | omega | exact h trivial) | (conv => whnf))) | (refine .mk _ _ (by first | exact cL | exact cS) ?_; conv => whnf) | fail)
        all_goals exact .mk ⟨rfl, rfl⟩
  · rw [if_neg he]
    refine fn_sound (mt := mts) tab_fits tab_mixed Tryz.func9 (by rfl) (by kernel_rfl) (by kernel_rfl) Tryz.results9 (Nat.le_of_ble_eq_true (by kernel_rfl)) ?_
    conv => whnf
    repeat' (first | (refine .mk (fun h => ?_) (fun h => ?_) <;> (try simp only [decide_eq_true_eq, decide_eq_false_iff_not, Bool.not_eq_true', Bool.not_eq_false', beq_iff_eq, beq_eq_false_iff_ne, bne_iff_ne, bne_eq_false_iff_eq] at h) <;> (first | (exfalso; first | omega | exact h trivial) | (conv => whnf))) | (refine .mk _ _ (by exact c0) ?_; conv => whnf) | fail)
    all_goals exact .mk ⟨rfl, rfl⟩
end Go.Proofs.YtilfcojhdhgmfaaGreatDoor

namespace Go.Proofs.YtilfcojhdhgmfaaGreatDoor
set_option linter.unusedVariables false
set_option linter.unusedSimpArgs false
open Abs

theorem fin3n {x y : S} {sz : Nat} {os : List Ob} : FinR 0 (.tup [.c (.lst sz []), x, y]) [] (.tup [.c .nils, x, y]) os :=
  .weak os (.tup _ _ rfl (by
    intro i a b ha hb
    match i with
    | 0 => cases ha; cases hb; exact .nil sz
    | 1 => cases ha; cases hb; exact .refl _
    | 2 => cases ha; cases hb; exact .refl _)) rfl (Nat.le_refl _)
theorem fin3f {x y : S} {l sz : Nat} {rows : List (List V)} {os : List Ob} (h : os[l]? = some (.frow sz rows)) : FinR 0 (.tup [.c (.lst sz rows), x, y]) [] (.tup [.c (.row l), x, y]) os :=
  .weak os (.tup _ _ rfl (by
    intro i a b ha hb
    match i with
    | 0 => cases ha; cases hb; exact .fro l sz rows h
    | 1 => cases ha; cases hb; exact .refl _
    | 2 => cases ha; cases hb; exact .refl _)) rfl (Nat.le_refl _)
theorem readV_cases {σ : Type} {f : σ → List UInt8 → σ × Bool} {z : σ} {fault : σ → Int} {tl : List UInt8} {st : σ} {i : Nat} {ok : Bool} (hq : goL f z 0 (spl 10 tl) = (st, i, ok)) (h : ¬ 200000 < tl.length) :
    (ok = false → readV f z fault tl = ⟨z, i, 9⟩) ∧ (ok = true → fault st ≠ 0 → readV f z fault tl = ⟨z, 0, fault st⟩) ∧ (ok = true → fault st = 0 → readV f z fault tl = ⟨st, 0, 0⟩) := by
  unfold readV
  rw [hq, if_neg h]
  refine ⟨fun h => ?_, fun h h2 => ?_, fun h h2 => ?_⟩
  · subst h; rw [if_pos rfl]
  · subst h; rw [if_neg (by simp), if_pos h2]
  · subst h; rw [if_neg (by simp), if_neg (by simpa using h2)]
theorem goL_len {α : Type} (f : List α → List UInt8 → List α × Bool) (hf : ∀ st x, (f st x).1.length ≤ st.length + 1) (tl : List UInt8) : (goL f [] 0 (spl 10 tl)).1.length ≤ tl.length + 1 := by
  have h1 := goL_grow f List.length hf (spl 10 tl) [] 0
  have h2 := spl_len 10 tl
  simp only [List.length_nil] at h1
  omega
end Go.Proofs.YtilfcojhdhgmfaaGreatDoor

namespace Go.Proofs.YtilfcojhdhgmfaaGreatDoor
set_option linter.unusedVariables false
set_option linter.unusedSimpArgs false
open Abs

theorem getD0 {W : List ByteArray} {i : Nat} (h : i < W.length) : W.getD i ⟨#[]⟩ = W[i] := by
  rw [List.getD_eq_getElem?_getD, List.getElem?_eq_getElem h]; rfl
theorem noneE_mem (W : List ByteArray) : noneE W = !(decide (⟨#[]⟩ ∈ W)) := by
  rw [Bool.eq_iff_iff]
  unfold noneE
  simp only [List.all_eq_true, decide_eq_true_eq, Bool.not_eq_true', decide_eq_false_iff_not]
  constructor
  · intro h h2; exact h _ h2 rfl
  · intro h x hx h2
    refine h ?_
    rw [show (⟨#[]⟩ : ByteArray) = x from (ByteArray.ext (Array.eq_empty_of_size_eq_zero h2)).symm]
    exact hx
end Go.Proofs.YtilfcojhdhgmfaaGreatDoor

namespace Go.Proofs.YtilfcojhdhgmfaaGreatDoor
set_option linter.unusedVariables false
set_option linter.unusedSimpArgs false
open Abs

theorem bd_true {W : List ByteArray} (h : decide (⟨#[]⟩ ∈ W) = true) : noneE W = false := by rw [noneE_mem, h]; rfl
theorem bd_false {W : List ByteArray} (h : decide (⟨#[]⟩ ∈ W) = false) : noneE W = true := by rw [noneE_mem, h]; rfl
theorem thr {W : List ByteArray} (h : W.length = 3) : ∃ a b c, W = [a, b, c] := by
  match W, h with
  | [a, b, c], _ => exact ⟨a, b, c, rfl⟩
theorem fou {W : List ByteArray} (h : W.length = 4) : ∃ a b c d, W = [a, b, c, d] := by
  match W, h with
  | [a, b, c, d], _ => exact ⟨a, b, c, d, rfl⟩
theorem fiv {W : List ByteArray} (h : W.length = 5) : ∃ a b c d e, W = [a, b, c, d, e] := by
  match W, h with
  | [a, b, c, d, e], _ => exact ⟨a, b, c, d, e, rfl⟩
set_option maxRecDepth 100000 in
set_option maxHeartbeats 4000000 in
theorem dReadLine_pc (line : List UInt8) (hz : line.length ≤ 999999) : PCp 46 [.c (.str (BL line))] [] (.tup [.agg (encAc (acPrg (splB 32 (BL line))).1), .c (.bool (acPrg (splB 32 (BL line))).2)]) [] := by
  have hbz := bl_size line
  have cW := split_pc 32 (BL line) (by omega)
  have hxz : ∀ x ∈ splB 32 (BL line), x.size ≤ 1000000 := fun x hx => by have := splB_memL hx; omega
  have hwl := splB_len 32 (BL line)
  generalize splB 32 (BL line) = W at *
  have hWm : (W.map encS).length = W.length := List.length_map ..
  have cC := containsS_pc ⟨#[]⟩ W (by omega)
  cases hbd : decide (⟨#[]⟩ ∈ W) with
  | true =>
    rw [hbd] at cC
    rw [show acPrg W = (ac0, false) by unfold acPrg; rw [if_pos (Or.inr (bd_true hbd))]]
    refine fn_sound (mt := mts) tab_fits tab_mixed Tryz.func46 (by rfl) (by kernel_rfl) (by kernel_rfl) Tryz.results46 (Nat.le_of_ble_eq_true (by kernel_rfl)) ?_
    conv => whnf
    repeat' (first | (refine .mk (fun h => ?_) (fun h => ?_) <;> (try simp only [decide_eq_true_eq, decide_eq_false_iff_not, Bool.not_eq_true', Bool.not_eq_false', beq_iff_eq, beq_eq_false_iff_ne, bne_iff_ne, bne_eq_false_iff_eq] at h) <;> (first | (exfalso; first | omega | exact h trivial) | (conv => whnf))) | (refine .mk _ _ (by first | exact cW | exact cC) ?_; conv => whnf) | fail)
    all_goals first | (cases ‹true = false›; done) | exact .mk ⟨rfl, rfl⟩
  | false =>
    rw [hbd] at cC
    have hno := bd_false hbd
    clear hbd
    by_cases h3 : W.length < 3
    · rw [show acPrg W = (ac0, false) by unfold acPrg; rw [if_pos (Or.inl h3)]]
      refine fn_sound (mt := mts) tab_fits tab_mixed Tryz.func46 (by rfl) (by kernel_rfl) (by kernel_rfl) Tryz.results46 (Nat.le_of_ble_eq_true (by kernel_rfl)) ?_
      conv => whnf
      repeat' (first | (refine .mk (fun h => ?_) (fun h => ?_) <;> (try simp only [decide_eq_true_eq, decide_eq_false_iff_not, Bool.not_eq_true', Bool.not_eq_false', beq_iff_eq, beq_eq_false_iff_ne, bne_iff_ne, bne_eq_false_iff_eq] at h) <;> (first | (exfalso; first | omega | exact h trivial) | (conv => whnf))) | (refine .mk _ _ (by exact cW) ?_; conv => whnf) | fail)
      all_goals first | (cases ‹false = true›; done) | exact .mk ⟨rfl, rfl⟩
    · have hc : ¬ (W.length < 3 ∨ noneE W = false) := by rintro (h | h); exact h3 h; rw [hno] at h; cases h
      have cN := fun (i : Nat) (h : i < W.length) => bNumber_pc W[i] 15 (by omega) (hxz _ (List.getElem_mem h))
      have hg0 := getD0 (W := W) (i := 0) (by omega)
      have c0 := cN 0 (by omega)
      cases hn : (numP 15 W[0]).isSome with
      | false =>
        rw [hn] at c0
        rw [show acPrg W = (ac0, false) by unfold acPrg; rw [if_neg hc, if_pos (by rw [show eB = ⟨#[]⟩ from rfl, hg0, hn])]]
        refine fn_sound (mt := mts) tab_fits tab_mixed Tryz.func46 (by rfl) (by kernel_rfl) (by kernel_rfl) Tryz.results46 (Nat.le_of_ble_eq_true (by kernel_rfl)) ?_
        conv => whnf
        repeat' (first | (refine .mk (fun h => ?_) (fun h => ?_) <;> (try simp only [decide_eq_true_eq, decide_eq_false_iff_not, Bool.not_eq_true', Bool.not_eq_false', beq_iff_eq, beq_eq_false_iff_ne, bne_iff_ne, bne_eq_false_iff_eq] at h) <;> (first | (exfalso; first | omega | exact h trivial) | (conv => whnf))) | (refine .mk _ _ (by first | exact cW | exact cC | exact c0) ?_; conv => whnf) | ((refine idx_map (enc := encS) (l := W) 0 (by omega) (by rfl) ?_); conv => whnf) | ((refine idx_map (enc := encS) (l := W) 1 (by omega) (by rfl) ?_); conv => whnf) | fail)
        all_goals first | (cases ‹false = true›; done) | (cases ‹true = false›; done) | exact .mk ⟨rfl, rfl⟩
      | true =>
        rw [hn] at c0
        have hn0 : ¬ (numP 15 (W.getD 0 eB)).isSome = false := by rw [show eB = ⟨#[]⟩ from rfl, hg0, hn]; decide
        have hnv : (numP 15 W[0]).getD 0 = nvP (W.getD 0 eB) := by rw [show eB = ⟨#[]⟩ from rfl, hg0]; rfl
        have hg1 : W[1] = W.getD 1 eB := (getD0 (W := W) (i := 1) (by omega)).symm
        have hg2 : W[2] = W.getD 2 eB := (getD0 (W := W) (i := 2) (by omega)).symm
        have hA : acPrg W = if W.getD 2 eB = bScrap ∧ W.length = 3 then (⟨nvP (W.getD 0 eB), 4, W.getD 1 eB, eB, eB, 0⟩, true)
            else if W.getD 2 eB = bCut ∧ W.length = 4 then (⟨nvP (W.getD 0 eB), 2, W.getD 1 eB, eB, eB, nvP (W.getD 3 eB)⟩, (numP 15 (W.getD 3 eB)).isSome)
            else if W.getD 2 eB = bArrive ∧ W.length = 5 then (⟨nvP (W.getD 0 eB), 1, W.getD 1 eB, W.getD 3 eB, eB, nvP (W.getD 4 eB)⟩, (numP 15 (W.getD 4 eB)).isSome)
            else if W.getD 2 eB = bReturn ∧ W.length = 5 then (⟨nvP (W.getD 0 eB), 3, W.getD 1 eB, eB, W.getD 3 eB, nvP (W.getD 4 eB)⟩, (numP 15 (W.getD 4 eB)).isSome)
            else (ac0, false) := by
          conv => lhs; unfold acPrg
          rw [if_neg hc, if_neg hn0]
        rw [hA]
        clear hA hn0 hc
        by_cases q4 : W.getD 2 eB = bScrap ∧ W.length = 3
        · rw [if_pos q4]
          obtain ⟨a, b, c, rfl⟩ := thr q4.2
          obtain rfl : c = bScrap := q4.1
          have hlw : (List.map encS [a, b, bScrap]).length = 3 := rfl
          refine fn_sound (mt := mts) tab_fits tab_mixed Tryz.func46 (by rfl) (by kernel_rfl) (by kernel_rfl) Tryz.results46 (Nat.le_of_ble_eq_true (by kernel_rfl)) ?_
          conv => whnf
          repeat' (first | (refine .mk (fun h => ?_) (fun h => ?_) <;> (try simp only [decide_eq_true_eq, decide_eq_false_iff_not, Bool.not_eq_true', Bool.not_eq_false', beq_iff_eq, beq_eq_false_iff_ne, bne_iff_ne, bne_eq_false_iff_eq] at h) <;> (first | (exfalso; first | omega | exact h trivial) | (conv => whnf))) | (refine .mk _ _ (by first | exact cW | exact cC | exact c0) ?_; conv => whnf) | ((refine IdxG.mk _ ⟨by decide, by rfl⟩ ?_); conv => whnf) | fail)
          all_goals first | (cases ‹false = true›; done) | (cases ‹true = false›; done) | exact .mk ⟨rfl, rfl⟩ | exact absurd (show bScrap.toList = (⟨#[115, 99, 114, 97, 112]⟩ : ByteArray).toList from rfl) (by assumption) | exact absurd (toList_inj (show bScrap.toList = (⟨#[99, 117, 116]⟩ : ByteArray).toList from (by assumption))) (by decide) | exact absurd (toList_inj (show bScrap.toList = (⟨#[97, 114, 114, 105, 118, 101]⟩ : ByteArray).toList from (by assumption))) (by decide) | exact absurd (toList_inj (show bScrap.toList = (⟨#[114, 101, 116, 117, 114, 110]⟩ : ByteArray).toList from (by assumption))) (by decide) | (exfalso; omega) | skip
        · rw [if_neg q4]
          by_cases q2 : W.getD 2 eB = bCut ∧ W.length = 4
          · rw [if_pos q2]
            obtain ⟨a, b, c, d, rfl⟩ := fou q2.2
            obtain rfl : c = bCut := q2.1
            have hlw : (List.map encS [a, b, bCut, d]).length = 4 := rfl
            have cl := cN 3 (by simp)
            refine fn_sound (mt := mts) tab_fits tab_mixed Tryz.func46 (by rfl) (by kernel_rfl) (by kernel_rfl) Tryz.results46 (Nat.le_of_ble_eq_true (by kernel_rfl)) ?_
            conv => whnf
            repeat' (first | (refine .mk (fun h => ?_) (fun h => ?_) <;> (try simp only [decide_eq_true_eq, decide_eq_false_iff_not, Bool.not_eq_true', Bool.not_eq_false', beq_iff_eq, beq_eq_false_iff_ne, bne_iff_ne, bne_eq_false_iff_eq] at h) <;> (first | (exfalso; first | omega | exact h trivial) | (conv => whnf))) | (refine .mk _ _ (by first | exact cW | exact cC | exact c0 | exact cl) ?_; conv => whnf) | ((refine IdxG.mk _ ⟨by decide, by rfl⟩ ?_); conv => whnf) | ((refine idx_map (enc := encS) 3 (by simp) (by rfl) ?_); conv => whnf) | fail)
            all_goals first | (cases ‹false = true›; done) | (cases ‹true = false›; done) | exact .mk ⟨rfl, rfl⟩ | exact absurd (toList_inj (show bCut.toList = (⟨#[115, 99, 114, 97, 112]⟩ : ByteArray).toList from (by assumption))) (by decide) | exact absurd (show bCut.toList = (⟨#[99, 117, 116]⟩ : ByteArray).toList from rfl) (by assumption) | exact absurd (toList_inj (show bCut.toList = (⟨#[97, 114, 114, 105, 118, 101]⟩ : ByteArray).toList from (by assumption))) (by decide) | exact absurd (toList_inj (show bCut.toList = (⟨#[114, 101, 116, 117, 114, 110]⟩ : ByteArray).toList from (by assumption))) (by decide) | (exfalso; omega) | skip
          · rw [if_neg q2]
            by_cases q1 : W.getD 2 eB = bArrive ∧ W.length = 5
            · rw [if_pos q1]
              obtain ⟨a, b, c, d, e, rfl⟩ := fiv q1.2
              obtain rfl : c = bArrive := q1.1
              have hlw : (List.map encS [a, b, bArrive, d, e]).length = 5 := rfl
              have cl := cN 4 (by simp)
              refine fn_sound (mt := mts) tab_fits tab_mixed Tryz.func46 (by rfl) (by kernel_rfl) (by kernel_rfl) Tryz.results46 (Nat.le_of_ble_eq_true (by kernel_rfl)) ?_
              conv => whnf
              repeat' (first | (refine .mk (fun h => ?_) (fun h => ?_) <;> (try simp only [decide_eq_true_eq, decide_eq_false_iff_not, Bool.not_eq_true', Bool.not_eq_false', beq_iff_eq, beq_eq_false_iff_ne, bne_iff_ne, bne_eq_false_iff_eq] at h) <;> (first | (exfalso; first | omega | exact h trivial) | (conv => whnf))) | (refine .mk _ _ (by first | exact cW | exact cC | exact c0 | exact cl) ?_; conv => whnf) | ((refine IdxG.mk _ ⟨by decide, by rfl⟩ ?_); conv => whnf) | ((refine idx_map (enc := encS) 4 (by simp) (by rfl) ?_); conv => whnf) | fail)
              all_goals first | (cases ‹false = true›; done) | (cases ‹true = false›; done) | exact .mk ⟨rfl, rfl⟩ | exact absurd (toList_inj (show bArrive.toList = (⟨#[115, 99, 114, 97, 112]⟩ : ByteArray).toList from (by assumption))) (by decide) | exact absurd (toList_inj (show bArrive.toList = (⟨#[99, 117, 116]⟩ : ByteArray).toList from (by assumption))) (by decide) | exact absurd (show bArrive.toList = (⟨#[97, 114, 114, 105, 118, 101]⟩ : ByteArray).toList from rfl) (by assumption) | exact absurd (toList_inj (show bArrive.toList = (⟨#[114, 101, 116, 117, 114, 110]⟩ : ByteArray).toList from (by assumption))) (by decide) | (exfalso; omega) | skip
            · rw [if_neg q1]
              by_cases q3 : W.getD 2 eB = bReturn ∧ W.length = 5
              · rw [if_pos q3]
                obtain ⟨a, b, c, d, e, rfl⟩ := fiv q3.2
                obtain rfl : c = bReturn := q3.1
                have hlw : (List.map encS [a, b, bReturn, d, e]).length = 5 := rfl
                have cl := cN 4 (by simp)
                refine fn_sound (mt := mts) tab_fits tab_mixed Tryz.func46 (by rfl) (by kernel_rfl) (by kernel_rfl) Tryz.results46 (Nat.le_of_ble_eq_true (by kernel_rfl)) ?_
                conv => whnf
                repeat' (first | (refine .mk (fun h => ?_) (fun h => ?_) <;> (try simp only [decide_eq_true_eq, decide_eq_false_iff_not, Bool.not_eq_true', Bool.not_eq_false', beq_iff_eq, beq_eq_false_iff_ne, bne_iff_ne, bne_eq_false_iff_eq] at h) <;> (first | (exfalso; first | omega | exact h trivial) | (conv => whnf))) | (refine .mk _ _ (by first | exact cW | exact cC | exact c0 | exact cl) ?_; conv => whnf) | ((refine IdxG.mk _ ⟨by decide, by rfl⟩ ?_); conv => whnf) | ((refine idx_map (enc := encS) 4 (by simp) (by rfl) ?_); conv => whnf) | fail)
                all_goals first | (cases ‹false = true›; done) | (cases ‹true = false›; done) | exact .mk ⟨rfl, rfl⟩ | exact absurd (toList_inj (show bReturn.toList = (⟨#[115, 99, 114, 97, 112]⟩ : ByteArray).toList from (by assumption))) (by decide) | exact absurd (toList_inj (show bReturn.toList = (⟨#[99, 117, 116]⟩ : ByteArray).toList from (by assumption))) (by decide) | exact absurd (toList_inj (show bReturn.toList = (⟨#[97, 114, 114, 105, 118, 101]⟩ : ByteArray).toList from (by assumption))) (by decide) | exact absurd (show bReturn.toList = (⟨#[114, 101, 116, 117, 114, 110]⟩ : ByteArray).toList from rfl) (by assumption) | (exfalso; omega) | skip
              · rw [if_neg q3]
                have nq4 : ∀ (_ : W[2].toList = (⟨#[115, 99, 114, 97, 112]⟩ : ByteArray).toList) (_ : (((W.map encS).length : Nat) : Int) = 3), False := fun e1 e2 => q4 ⟨by rw [← hg2]; exact toList_inj e1, by omega⟩
                have nq2 : ∀ (_ : W[2].toList = (⟨#[99, 117, 116]⟩ : ByteArray).toList) (_ : (((W.map encS).length : Nat) : Int) = 4), False := fun e1 e2 => q2 ⟨by rw [← hg2]; exact toList_inj e1, by omega⟩
                have nq1 : ∀ (_ : W[2].toList = (⟨#[97, 114, 114, 105, 118, 101]⟩ : ByteArray).toList) (_ : (((W.map encS).length : Nat) : Int) = 5), False := fun e1 e2 => q1 ⟨by rw [← hg2]; exact toList_inj e1, by omega⟩
                have nq3 : ∀ (_ : W[2].toList = (⟨#[114, 101, 116, 117, 114, 110]⟩ : ByteArray).toList) (_ : (((W.map encS).length : Nat) : Int) = 5), False := fun e1 e2 => q3 ⟨by rw [← hg2]; exact toList_inj e1, by omega⟩
                refine fn_sound (mt := mts) tab_fits tab_mixed Tryz.func46 (by rfl) (by kernel_rfl) (by kernel_rfl) Tryz.results46 (Nat.le_of_ble_eq_true (by kernel_rfl)) ?_
                conv => whnf
                repeat' (first | (refine .mk (fun h => ?_) (fun h => ?_) <;> (try simp only [decide_eq_true_eq, decide_eq_false_iff_not, Bool.not_eq_true', Bool.not_eq_false', beq_iff_eq, beq_eq_false_iff_ne, bne_iff_ne, bne_eq_false_iff_eq] at h) <;> (first | (exfalso; first | omega | exact h trivial) | (conv => whnf))) | (refine .mk _ _ (by first | exact cW | exact cC | exact c0) ?_; conv => whnf) | ((refine idx_map (enc := encS) (l := W) 0 (by omega) (by rfl) ?_); conv => whnf) | ((refine idx_map (enc := encS) (l := W) 1 (by omega) (by rfl) ?_); conv => whnf) | ((refine idx_map (enc := encS) (l := W) 2 (by omega) (by rfl) ?_); conv => whnf) | fail)
                all_goals first | (cases ‹false = true›; done) | (cases ‹true = false›; done) | exact .mk ⟨rfl, rfl⟩ | exact (nq4 (by assumption) (by assumption)).elim | exact (nq2 (by assumption) (by assumption)).elim | exact (nq1 (by assumption) (by assumption)).elim | exact (nq3 (by assumption) (by assumption)).elim | (exfalso; omega) | skip
set_option maxRecDepth 100000 in
set_option maxHeartbeats 4000000 in
theorem dRead1A_pc : Rdr 32 6 encAc 45 (acSt acPrg) := by
  intro st line hst hz
  have c1 := dReadLine_pc line hz
  have hsm : (st.map encAc).length = st.length := List.length_map ..
  unfold acSt
  generalize acPrg (splB 32 (BL line)) = q at *
  obtain ⟨x, ok⟩ := q
  refine fn_soundX (mt := mts) tab_fits tab_mixed Tryz.func45 (by rfl) (by kernel_rfl) (by kernel_rfl) Tryz.results45 (Nat.le_of_ble_eq_true (by kernel_rfl)) ?_
  conv => whnf
  repeat' (first | (refine .mk _ _ (by exact c1) ?_; conv => whnf) | (refine .mk (by first | omega | (unfold roomOK; simp [cutRows]; done) | (unfold roomOK; simp [cutRows]; omega) | (simp [cutRows]; done) | (simp [cutRows]; omega)) ?_; conv => whnf) | fail)
  exact FinX.mk _ _ ⟨rfl, .inr rfl⟩ (.mk ⟨rfl, by rw [List.map_append]; rfl⟩)
end Go.Proofs.YtilfcojhdhgmfaaGreatDoor

namespace Go.Proofs.YtilfcojhdhgmfaaGreatDoor
set_option linter.unusedVariables false
set_option linter.unusedSimpArgs false
open Abs

theorem of_same {l : List Ac} (kind : ByteArray) {s t : Int} (h : cntAt l s = cntAt l t) : ofR l kind s = ofR l kind t := by unfold ofR; rw [h]
end Go.Proofs.YtilfcojhdhgmfaaGreatDoor

namespace Go.Proofs.YtilfcojhdhgmfaaGreatDoor
set_option linter.unusedVariables false
set_option linter.unusedSimpArgs false
open Abs

end Go.Proofs.YtilfcojhdhgmfaaGreatDoor

namespace Go.Proofs.YtilfcojhdhgmfaaGreatDoor
set_option linter.unusedVariables false
set_option linter.unusedSimpArgs false
open Abs

def acRd (tl : List UInt8) : Rd (List Ac) := readV (acSt acPrg) [] actsFault tl
set_option maxRecDepth 100000 in
set_option maxHeartbeats 4000000 in
theorem dReadA_pc (tl : List UInt8) (ht : tl.length ≤ 900000) : PCp 10 [.c (.str (BL tl))] [] (.tup [.c (.lst 6 ((acRd tl).v.map encAc)), .c (.int .i64 ((acRd tl).i : Nat)), .c (.int .i64 (acRd tl).e)]) [] := by
  have hbz := bl_size tl
  by_cases h0 : 200000 < tl.length
  · rw [show acRd tl = ⟨[], 0, 2⟩ by unfold acRd readV; rw [if_pos h0]]
    refine fn_sound (mt := mts) tab_fits tab_mixed Tryz.func10 (by rfl) (by kernel_rfl) (by kernel_rfl) Tryz.results10 (Nat.le_of_ble_eq_true (by kernel_rfl)) ?_
    conv => whnf
    repeat' (first | (refine .mk (fun h => ?_) (fun h => ?_) <;> (try simp only [decide_eq_true_eq, decide_eq_false_iff_not, Bool.not_eq_true', Bool.not_eq_false', beq_iff_eq, beq_eq_false_iff_ne, bne_iff_ne, bne_eq_false_iff_eq] at h) <;> (first | (exfalso; first | omega | exact h trivial) | (conv => whnf))) | fail)
    exact fin3n
  · have cE := each1_pc 32 6 encAc 45 (acSt acPrg) (acSt_grow acPrg) dRead1A_pc tl (by omega)
    have hlen := goL_len (acSt acPrg) (acSt_grow acPrg) tl
    obtain ⟨q, hq⟩ : ∃ q, goL (acSt acPrg) [] 0 (spl 10 tl) = q := ⟨_, rfl⟩
    rw [hq] at cE hlen
    obtain ⟨st, i, ok⟩ := q
    simp only at cE hlen
    obtain ⟨r1, r2, r3⟩ := readV_cases (fault := actsFault) hq h0
    have cF := checkActs_pc st
    unfold acRd
    cases ok with
    | false =>
      rw [r1 rfl]
      refine fn_sound (mt := mts) tab_fits tab_mixed Tryz.func10 (by rfl) (by kernel_rfl) (by kernel_rfl) Tryz.results10 (Nat.le_of_ble_eq_true (by kernel_rfl)) ?_
      conv => whnf
      repeat' (first | (refine .mk (fun h => ?_) (fun h => ?_) <;> (try simp only [decide_eq_true_eq, decide_eq_false_iff_not, Bool.not_eq_true', Bool.not_eq_false', beq_iff_eq, beq_eq_false_iff_ne, bne_iff_ne, bne_eq_false_iff_eq] at h) <;> (first | (exfalso; first | omega | exact h trivial) | (conv => whnf))) | (refine .mk _ _ (by exact cE) ?_; conv => whnf) | fail)
      all_goals first | (cases ‹true = false›; done) | (cases ‹false = true›; done) | skip
      exact fin3n
    | true =>
      by_cases hf : actsFault st = 0
      · rw [r3 rfl hf]
        rw [hf] at cF
        refine fn_sound (mt := mts) tab_fits tab_mixed Tryz.func10 (by rfl) (by kernel_rfl) (by kernel_rfl) Tryz.results10 (Nat.le_of_ble_eq_true (by kernel_rfl)) ?_
        conv => whnf
        repeat' (first | (refine .mk (fun h => ?_) (fun h => ?_) <;> (try simp only [decide_eq_true_eq, decide_eq_false_iff_not, Bool.not_eq_true', Bool.not_eq_false', beq_iff_eq, beq_eq_false_iff_ne, bne_iff_ne, bne_eq_false_iff_eq] at h) <;> (first | (exfalso; first | omega | exact h trivial) | (conv => whnf))) | (refine .mk _ _ (by first | exact cE | exact cF) ?_; conv => whnf) | fail)
        all_goals first | (cases ‹true = false›; done) | (cases ‹false = true›; done) | skip
        exact fin3f rfl
      · rw [r2 rfl hf]
        refine fn_sound (mt := mts) tab_fits tab_mixed Tryz.func10 (by rfl) (by kernel_rfl) (by kernel_rfl) Tryz.results10 (Nat.le_of_ble_eq_true (by kernel_rfl)) ?_
        conv => whnf
        repeat' (first | (refine .mk (fun h => ?_) (fun h => ?_) <;> (try simp only [decide_eq_true_eq, decide_eq_false_iff_not, Bool.not_eq_true', Bool.not_eq_false', beq_iff_eq, beq_eq_false_iff_ne, bne_iff_ne, bne_eq_false_iff_eq] at h) <;> (first | (exfalso; first | omega | exact h trivial) | (conv => whnf))) | (refine .mk _ _ (by first | exact cE | exact cF) ?_; conv => whnf) | fail)
        all_goals first | (cases ‹true = false›; done) | (cases ‹false = true›; done) | (exact absurd (by assumption) hf) | skip
        exact fin3n
end Go.Proofs.YtilfcojhdhgmfaaGreatDoor

namespace Go.Proofs.YtilfcojhdhgmfaaGreatDoor
set_option linter.unusedVariables false
set_option linter.unusedSimpArgs false
open Abs

theorem spl_app (c : UInt8) : ∀ (w r : List UInt8), c ∉ w → spl c (w ++ c :: r) = w :: spl c r
  | [], r, _ => by rw [List.nil_append, spl, if_pos rfl]
  | b :: w, r, h => by
    rw [List.cons_append, spl, if_neg (by intro e; exact h (e ▸ List.mem_cons_self ..)), spl_app c w r (fun e => h (List.mem_cons_of_mem _ e))]
theorem spl_one (c : UInt8) : ∀ (w : List UInt8), c ∉ w → spl c w = [w]
  | [], _ => rfl
  | b :: w, h => by
    rw [spl, if_neg (by intro e; exact h (e ▸ List.mem_cons_self ..)), spl_one c w (fun e => h (List.mem_cons_of_mem _ e))]
theorem spl_lines (c : UInt8) : ∀ (L : List (List UInt8)), (∀ w ∈ L, c ∉ w) → spl c (L.flatMap fun w => w ++ [c]) = L ++ [[]]
  | [], _ => rfl
  | w :: L, h => by
    rw [List.flatMap_cons, List.append_assoc, List.singleton_append, spl_app c w _ (h w (List.mem_cons_self ..)), spl_lines c L (fun x hx => h x (List.mem_cons_of_mem _ hx)), List.cons_append]
theorem goL_all {σ : Type} (f : σ → List UInt8 → σ × Bool) : ∀ (L : List (List UInt8)) (s : σ) (i : Nat) (st : Nat → σ), (∀ k (hk : k < L.length), f (st k) L[k] = (st (k + 1), true)) → s = st 0 → goL f s i (L ++ [[]]) = (st L.length, 0, true)
  | [], s, i, st, _, h0 => by rw [h0]; rfl
  | x :: L, s, i, st, h, h0 => by
    have hx := h 0 (by simp)
    rw [List.getElem_cons_zero] at hx
    rw [List.cons_append, goL, if_neg (by simp), h0, hx]
    exact goL_all f L _ (i + 1) (fun k => st (k + 1)) (fun k hk => by have := h (k + 1) (by simp; omega); rw [List.getElem_cons_succ] at this; exact this) rfl
theorem numR_itoa (u : Nat) (h : u < 1000000000000000) : numR 15 (Lib.itoa (u : Int)) = some (u : Int) := by
  obtain ⟨h1, h2, h3⟩ := dec_all u
  have hl : (Lib.decDigits u).length ≤ 15 := dec_len 14 u (by omega)
  have hc := Lib.itoa_nonneg u
  have hb : (Lib.decDigits u).head? ≠ some 45 := by
    intro e
    cases hd : Lib.decDigits u with
    | nil => exact h3 hd
    | cons b r =>
      rw [hd] at e h1
      simp at e
      subst e
      simp [digs] at h1
  have hu : unsg (Lib.decDigits u) = Lib.decDigits u := by
    cases hd : Lib.decDigits u with
    | nil => exact absurd hd h3
    | cons b r =>
      rw [hd] at hb
      rw [unsg_cons, if_neg (by simpa using hb)]
  have hok : numOk 15 (Lib.decDigits u) = true := by
    unfold numOk
    rw [hu, h1, Bool.and_true, decide_eq_true_eq]
    exact ⟨h3, hl⟩
  have hv : numV (Lib.decDigits u) = u := by unfold numV; rw [if_neg hb, h2]
  have hle : lead (Lib.decDigits u) = false := by
    refine (num_canon 15 _ hok).1 ?_
    rw [hv, hc]
  rw [hc]
  unfold numR
  rw [if_pos ⟨hok, hle⟩, hv]
theorem key_bytes {s : ByteArray} (h : keyB s = true) (c : UInt8) (hc : c = 32 ∨ c = 10) : c ∉ s.data.toList := by
  intro hm
  have h := (of_decide_eq_true h).2.2.2.2
  obtain ⟨i, hi, he⟩ := List.getElem_of_mem hm
  have hi2 : i < s.data.size := by simpa using hi
  have hi3 : i < s.size := hi2
  have h1 := h i hi3
  have hb : byteAt s i = (c.toNat : Int) := by
    unfold byteAt
    rw [← he, Array.getElem_toList]
    simp [Array.getD, hi3]
  rw [hb] at h1
  rcases hc with rfl | rfl <;> exact absurd h1 (by decide)
theorem ne_size {s : ByteArray} (h : s.size ≠ 0) : ¬ s = ByteArray.empty := fun e => h (by rw [e]; rfl)
theorem key_ne {s : ByteArray} (h : keyB s = true) : s.size ≠ 0 := by
  have := (of_decide_eq_true h).1; omega
theorem itoa_bytes (u : Nat) (c : UInt8) (hc : c = 32 ∨ c = 10) : c ∉ (itoaB (u : Int)).data.toList := by
  obtain ⟨h1, _, _⟩ := dec_all u
  unfold itoaB
  rw [List.toList_toArray, Lib.itoa_nonneg]
  intro hm
  have := List.all_eq_true.1 h1 c hm
  rcases hc with rfl | rfl <;> exact absurd this (by decide)
theorem itoa_ne (u : Nat) : (itoaB (u : Int)).size ≠ 0 := by
  obtain ⟨_, _, h3⟩ := dec_all u
  unfold itoaB
  rw [Lib.itoa_nonneg]
  show (Lib.decDigits u).toArray.size ≠ 0
  rw [List.size_toArray]
  intro e
  exact h3 (List.eq_nil_of_length_eq_zero e)
theorem numP_itoa (u : Nat) (h : u < 1000000000000000) : numP 15 (itoaB (u : Int)) = some (u : Int) := by
  unfold numP itoaB
  rw [List.toList_toArray]
  exact numR_itoa u h
def jn : List (List UInt8) → List UInt8
  | [] => []
  | [w] => w
  | w :: v :: r => w ++ 32 :: jn (v :: r)
theorem spl_jn : ∀ L : List (List UInt8), L ≠ [] → (∀ w ∈ L, (32 : UInt8) ∉ w) → spl 32 (jn L) = L
  | [], h, _ => absurd rfl h
  | [w], _, h => by rw [jn, spl_one 32 w (h w (List.mem_cons_self ..))]
  | w :: v :: r, _, h => by
    rw [jn, spl_app 32 w _ (h w (List.mem_cons_self ..)), spl_jn (v :: r) (by simp) (fun x hx => h x (List.mem_cons_of_mem _ hx))]
theorem jn_mem (c : UInt8) (hc : c ≠ 32) : ∀ L : List (List UInt8), (∀ w ∈ L, c ∉ w) → c ∉ jn L
  | [], _ => by simp [jn]
  | [w], h => by rw [jn]; exact h w (List.mem_cons_self ..)
  | w :: v :: r, h => by
    rw [jn, List.mem_append, List.mem_cons]
    rintro (e | e | e)
    · exact h w (List.mem_cons_self ..) e
    · exact hc e
    · exact jn_mem c hc (v :: r) (fun x hx => h x (List.mem_cons_of_mem _ hx)) e
abbrev dl (s : ByteArray) : List UInt8 := s.data.toList
theorem splB_jn (W : List ByteArray) (h0 : W ≠ []) (h : ∀ w ∈ W, (32 : UInt8) ∉ dl w) : splB 32 (BL (jn (W.map dl))) = W := by
  unfold splB
  rw [List.toList_toArray, spl_jn _ (by simpa using h0) (by intro w hw; obtain ⟨v, hv, rfl⟩ := List.mem_map.1 hw; exact h v hv), List.map_map]
  have : (BL ∘ dl) = id := by funext s; rfl
  rw [this, List.map_id]
def acW (x : Ac) : List ByteArray :=
  if x.kd = 1 then [itoaB x.mo, x.drum, bArrive, x.ty, itoaB x.long] else if x.kd = 2 then [itoaB x.mo, x.drum, bCut, itoaB x.long] else if x.kd = 3 then [itoaB x.mo, x.drum, bReturn, x.of, itoaB x.long] else [itoaB x.mo, x.drum, bScrap]
theorem acLine_jn (x : Ac) : dl (acLine x) = jn ((acW x).map dl) ++ [10] := by
  unfold acLine acW wdsV dl
  (repeat' split) <;> simp [jn, ByteArray.toList_data_append, qArrive, qCut, qReturn, bArrive, bCut, bReturn, bScrap]
theorem act_ok {x : Ac} (h : actErr x = 0) : (0 ≤ x.mo ∧ x.mo ≤ 345686399999) ∧ (1 ≤ x.kd ∧ x.kd ≤ 4) ∧ (0 ≤ x.long ∧ x.long ≤ 200000) ∧ keyB x.drum = true ∧ (x.kd = 1 → keyB x.ty = true) ∧ (x.kd = 3 → keyB x.of = true) ∧ (x.kd ≠ 1 → x.ty = eB) ∧ (x.kd ≠ 3 → x.of = eB) ∧ (x.kd = 4 → x.long = 0) := by
  have hA := acLn h
  refine ⟨hA.mo, hA.kd, hA.long, ?_⟩
  unfold actErr at h
  (repeat' split at h) <;> first | (exfalso; revert h; decide) | skip
  rename_i h1 h2 h3 h4 h5
  simp only [Bool.or_eq_true, Bool.and_eq_true, Bool.not_eq_true', beq_iff_eq, not_or, not_and, Bool.not_eq_false] at h3
  refine ⟨h3.1.1, fun e => h3.1.2 e, fun e => h3.2 e, fun e => ?_, fun e => ?_, fun e => ?_⟩
  · exact toList_inj (Classical.not_not.1 fun e2 => h5 (.inl ⟨e, e2⟩))
  · exact toList_inj (Classical.not_not.1 fun e2 => h5 (.inr (.inl ⟨e, e2⟩)))
  · exact Classical.not_not.1 fun e2 => h5 (.inr (.inr ⟨e, e2⟩))
theorem acW_free {x : Ac} (h : actErr x = 0) (c : UInt8) (hc : c = 32 ∨ c = 10) : ∀ w ∈ acW x, c ∉ dl w := by
  obtain ⟨h1, h2, h3, h4, h5, h6, _⟩ := act_ok h
  have hm : c ∉ dl (itoaB x.mo) := by
    have := itoa_bytes x.mo.toNat c hc
    rwa [Int.toNat_of_nonneg h1.1] at this
  have hl : c ∉ dl (itoaB x.long) := by
    have := itoa_bytes x.long.toNat c hc
    rwa [Int.toNat_of_nonneg h3.1] at this
  have hd := key_bytes h4 c hc
  have k1 : c ∉ dl bArrive := by rcases hc with rfl | rfl <;> decide
  have k2 : c ∉ dl bCut := by rcases hc with rfl | rfl <;> decide
  have k3 : c ∉ dl bReturn := by rcases hc with rfl | rfl <;> decide
  have k4 : c ∉ dl bScrap := by rcases hc with rfl | rfl <;> decide
  unfold acW
  split
  · rename_i e
    have := key_bytes (h5 e) c hc
    intro w hw
    simp only [List.mem_cons, List.not_mem_nil, or_false] at hw
    rcases hw with rfl | rfl | rfl | rfl | rfl <;> assumption
  · split
    · intro w hw
      simp only [List.mem_cons, List.not_mem_nil, or_false] at hw
      rcases hw with rfl | rfl | rfl | rfl <;> assumption
    · split
      · rename_i e
        have := key_bytes (h6 e) c hc
        intro w hw
        simp only [List.mem_cons, List.not_mem_nil, or_false] at hw
        rcases hw with rfl | rfl | rfl | rfl | rfl <;> assumption
      · intro w hw
        simp only [List.mem_cons, List.not_mem_nil, or_false] at hw
        rcases hw with rfl | rfl | rfl <;> assumption
theorem acPrg_acW {x : Ac} (h : actErr x = 0) : acPrg (acW x) = (x, true) := by
  obtain ⟨h1, h2, h3, h4, h5, h6, h7, h8, h9⟩ := act_ok h
  have hm : numP 15 (itoaB x.mo) = some x.mo := by
    have := numP_itoa x.mo.toNat (by omega)
    rwa [Int.toNat_of_nonneg h1.1] at this
  have hl : numP 15 (itoaB x.long) = some x.long := by
    have := numP_itoa x.long.toNat (by omega)
    rwa [Int.toNat_of_nonneg h3.1] at this
  have zm : (itoaB x.mo).size ≠ 0 := by
    have := itoa_ne x.mo.toNat
    rwa [Int.toNat_of_nonneg h1.1] at this
  have zl : (itoaB x.long).size ≠ 0 := by
    have := itoa_ne x.long.toNat
    rwa [Int.toNat_of_nonneg h3.1] at this
  have zd := key_ne h4
  have d1 : bArrive ≠ bCut := by decide
  have d3 : bArrive ≠ bScrap := by decide
  have d4 : bReturn ≠ bCut := by decide
  have d2 : bReturn ≠ bArrive := by decide
  have d5 : bCut ≠ bScrap := by decide
  have d6 : bReturn ≠ bScrap := by decide
  have z1 : bArrive.size ≠ 0 := by decide
  have z2 : bCut.size ≠ 0 := by decide
  have z3 : bReturn.size ≠ 0 := by decide
  have z4 : bScrap.size ≠ 0 := by decide
  replace zm := ne_size zm
  replace zl := ne_size zl
  replace zd := ne_size zd
  replace z1 := ne_size z1
  replace z2 := ne_size z2
  replace z3 := ne_size z3
  replace z4 := ne_size z4
  obtain ⟨mo, kd, drum, ty, of, long⟩ := x
  simp only at *
  have : kd = 1 ∨ kd = 2 ∨ kd = 3 ∨ kd = 4 := by omega
  rcases this with rfl | rfl | rfl | rfl
  · have zt := ne_size (key_ne (h5 rfl))
    rw [h8 (by decide)]
    simp [acPrg, acW, noneE, nvP, hm, hl, zm, zl, zd, zt, z1, d1, d3]
  · rw [h7 (by decide), h8 (by decide)]
    simp [acPrg, acW, noneE, nvP, hm, hl, zm, zl, zd, z2, d5]
  · have zt := ne_size (key_ne (h6 rfl))
    rw [h7 (by decide)]
    simp [acPrg, acW, noneE, nvP, hm, hl, zm, zl, zd, zt, z3, d2, d4, d6]
  · rw [h7 (by decide), h8 (by decide), h9 rfl]
    simp [acPrg, acW, noneE, nvP, hm, zm, zd, z4]
theorem catB_dl (L : List ByteArray) : dl (catB L) = L.flatMap dl := by
  have : ∀ (L : List ByteArray) (a : ByteArray), dl (L.foldl (· ++ ·) a) = dl a ++ L.flatMap dl := by
    intro L
    induction L with
    | nil => intro a; simp
    | cons x r ih => intro a; rw [List.foldl_cons, ih, List.flatMap_cons, dl, ByteArray.toList_data_append, List.append_assoc]
  exact this L ⟨#[]⟩
theorem actsErr_each : ∀ (l : List Ac) (p : Option Ac), actsErr p l = 0 → ∀ x ∈ l, actErr x = 0
  | [], _, _, x, hx => by cases hx
  | y :: r, p, h, x, hx => by
    rw [actsErr] at h
    by_cases h1 : actErr y ≠ 0
    · rw [if_pos h1] at h; exact absurd h h1
    · rw [if_neg h1] at h
      split at h
      · cases h
      · rcases List.mem_cons.1 hx with rfl | hx
        · exact Classical.not_not.1 h1
        · exact actsErr_each r _ h x hx
theorem acts_round {l : List Ac} (h : actsFault l = 0) (hs : (acText l).size ≤ 200000) : acRd (dl (acText l)) = ⟨l, 0, 0⟩ := by
  have hE : ∀ x ∈ l, actErr x = 0 := by
    refine actsErr_each l none ?_
    unfold actsFault at h
    split at h
    · cases h
    · exact h
  have ht : dl (acText l) = (l.map fun x => jn ((acW x).map dl)).flatMap fun w => w ++ [10] := by
    rw [acText, catB_dl, List.flatMap_map, List.flatMap_map]
    have : (fun x => dl (acLine x)) = fun x => jn ((acW x).map dl) ++ [10] := by funext x; exact acLine_jn x
    rw [this]
  have hsp : spl 10 (dl (acText l)) = (l.map fun x => jn ((acW x).map dl)) ++ [[]] := by
    rw [ht]
    refine spl_lines 10 _ fun w hw => ?_
    obtain ⟨x, hx, rfl⟩ := List.mem_map.1 hw
    refine jn_mem 10 (by decide) _ fun v hv => ?_
    obtain ⟨s, hs, rfl⟩ := List.mem_map.1 hv
    exact acW_free (hE x hx) 10 (.inr rfl) s hs
  have hg : goL (acSt acPrg) [] 0 (spl 10 (dl (acText l))) = (l, 0, true) := by
    rw [hsp]
    refine (goL_all (acSt acPrg) _ [] 0 (fun k => l.take k) (fun k hk => ?_) rfl).trans ?_
    · rw [List.length_map] at hk
      have hx := hE _ (List.getElem_mem hk)
      rw [List.getElem_map]
      unfold acSt
      rw [splB_jn _ (by unfold acW; (repeat' split) <;> simp) (acW_free hx 32 (.inl rfl)), acPrg_acW hx, List.take_succ_eq_append_getElem hk]
    · rw [List.length_map, List.take_length]
  have hn : ¬ 200000 < (dl (acText l)).length := by
    have : (dl (acText l)).length = (acText l).size := by simp [dl]
    omega
  unfold acRd readV
  rw [if_neg hn, hg]
  simp [h]
end Go.Proofs.YtilfcojhdhgmfaaGreatDoor

namespace Go.Proofs.YtilfcojhdhgmfaaGreatDoor
set_option linter.unusedVariables false
set_option linter.unusedSimpArgs false
open Abs

def kindsTU : List ByteArray := [⟨#[116]⟩, ⟨#[117]⟩]
set_option maxRecDepth 100000 in
set_option maxHeartbeats 4000000 in
theorem storesAddUp_pc (L : List Int) (hL : L.length ≤ 9223372036854775807) : PCp 3 [.c (.lst 1 (L.map encI))] [] (.c (.bool true)) [] := by
  have st0 : StOk L 0 := ⟨hL, by omega, by omega⟩
  have hr := rangeV_in L 0 0 14 (by omega)
  obtain ⟨n, hn⟩ := Int.eq_ofNat_of_zero_le hr.1
  refine fn_sound (mt := mts) tab_fits tab_mixed Tryz.func3 (by rfl) (by kernel_rfl) (by kernel_rfl) Tryz.results3 (Nat.le_of_ble_eq_true (by kernel_rfl)) ?_
  conv => whnf
  repeat' (first | (refine .mk _ _ (by exact range_ok st0 0 14 (by omega) (small_lit (by decide)) (small_lit (by decide))) ?_; conv => whnf) | fail)
  rw [hn]
  refine .ex _ (rRightM_pc (L := L) (p := 0 + 1) ⟨hL, by omega, by omega⟩ (by omega) n (by omega)) ?_
  rintro _ _ ⟨l, p, rfl, rfl, hf, h1, h2, h3, h4, h5⟩
  conv => whnf
  refine .ex _ (parts_pc (L := L) (p := p) ⟨hL, by omega, by omega⟩ (by omega) l (by omega)) ?_
  rintro _ _ ⟨a, b, p2, rfl, rfl, g1, g2, g3⟩
  have hfa := acts_sub hf g1
  have hfb := acts_sub hf g2
  have hla := g1.length_le
  have hlb := g2.length_le
  have hE := (actsFault_all hf).2
  have hmo := mo_small hf h3
  have hca := cnt_all hmo
  have hAt : atE l 10000 = 0 := by
    unfold atE
    rw [if_neg (by omega), if_pos]
    unfold momB; simp only [decide_eq_true_eq]; omega
  have h12 : (stoAt l (cntAt l 10000)).d.es.length ≤ 12 := by
    have hb : LongR (rAt l 10000) := longR_at (names := names6) (by decide) h2 hf (cntAt l 10000) (cntAt_le l 10000)
    have h1 := (both_perm hAt).length_eq
    have h2 := stL_len (rAt l 10000) (rAt l 10000).l.es
    have h3 := hb.2
    simp only [dL, List.length_map] at h1
    omega
  have c1 := dMergeL_pc a b (by omega)
  have c2 := dMergeL_pc b a (by omega)
  have e1 : firstErr [actsFault a, actsFault b] = 0 := by rw [hfa, hfb]; rfl
  have e2 : firstErr [actsFault b, actsFault a] = 0 := by rw [hfa, hfb]; rfl
  rw [if_pos e1, e1, mgV_parts hf g3] at c1
  rw [if_pos e2, e2, mgV_parts hf (fun x => by rw [← g3 x]; simp [or_comm])] at c2
  have c3 := dText_pc l (by omega)
  rw [acOut, if_pos hf, hf] at c3
  have hsz := acText_bd (l := l) (fun x hx => acLn (hE x hx))
  have c4 := dReadA_pc (dl (acText l)) (by show (acText l).data.toList.length ≤ 900000; have : (acText l).data.toList.length = (acText l).size := Array.length_toList; omega)
  rw [acts_round hf (by omega), bl_data] at c4
  have c5 := dRefused_pc l (by omega)
  rw [hf, refV, if_pos hf] at c5
  have c7 := eqAcS_pc l (by omega)
  have hpl := (pRef_len l l.length).2
  have hlm : (l.map encAc).length = l.length := List.length_map ..
  have cT := dTotals_pc l 10000 hAt h12
  have hgk : (fun n => sumP n (dL (stoAt l (cntAt l 10000)).d.es)) = fun n => totT l n l.length := funext fun n => by
    rw [hca]; exact (sumK_P n _).symm
  rw [hgk] at cT
  rw [hca] at h12
  have hti := fun kind => tot_in hf kind (by omega)
  have hadd := fun kind => stores_add hf hE (by omega) kind l.length (Nat.le_refl _)
  have hAin := arrL_in hE
  have hmem := pRef_mem l
  conv => whnf
  repeat' (first | (refine .mk (fun h => ?_) (fun h => ?_) <;> (try simp only [decide_eq_true_eq, decide_eq_false_iff_not, Bool.not_eq_true', Bool.not_eq_false', beq_iff_eq, beq_eq_false_iff_ne, bne_iff_ne, bne_eq_false_iff_eq] at h) <;> (first | (exfalso; first | omega | exact h trivial | contradiction | (simp_all [eqRes]; done)) | (conv => whnf))) | (refine .mk _ _ (by first | exact c1 | exact c2 | exact c3 | exact c4 | exact c5 | exact c7 | exact kerrs_pc [0, 0, 0, 0, 0] (by decide)) ?_; conv => whnf) | fail)
  have hs0 : scrAt l 0 = false := rfl
  refine loop_for (l.length) [] [4, 16, 19, 20, 21, 102, 103, 104] (fun k (_ : Unit) => [(21, .c (.bool (scrAt l k))), (104, .c (.int .i64 (k : Int)))]) (fun k (_ : Unit) => [(0, smO ekS evI (sumsM (arrL l k)))]) (fun k (_ : Unit) => True) (()) ?_
  conv => whnf
  refine ⟨?_, (by trivial), ?_, ?_⟩
  · rfl
  · intro k _ hk _
    have hgd : l.getD k acD = l[k] := by simp [hk]
    have hA1 := hAin k (by omega)
    have hsm := sumsM_ok (arrL l k)
    have hS1 : scrAt l (k + 1) = (scrAt l k || (decide ((tkA l k).2.2 = 0) && decide (l[k].kd = 4))) := by rw [← hgd]; rfl
    have hL1 : arrL l (k + 1) = if (tkA l k).2.2 = 0 ∧ l[k].kd = 1 then ⟨l[k].drum, l[k].ty, l[k].long⟩ :: arrL l k else arrL l k := by rw [← hgd]; rfl
    have cC := containsI_pc (k : Int) (pRef l l.length) (by omega)
    have hrk : (pRef l l.length).any ((k : Int) == ·) = true ↔ (tkA l k).2.2 ≠ 0 := by
      rw [List.any_eq_true]
      simp only [beq_iff_eq]
      constructor
      · rintro ⟨x, hx, rfl⟩
        exact ((hmem k l.length).1 hx).2
      · intro h
        exact ⟨_, (hmem k l.length).2 ⟨hk, h⟩, rfl⟩
    generalize (pRef l l.length).any ((k : Int) == ·) = r at cC hrk
    generalize (tkA l k).2.2 = te at hS1 hL1 hrk
    conv => whnf
    repeat' (first | (refine .mk (fun h => ?_) (fun h => ?_) <;> (try simp only [decide_eq_true_eq, decide_eq_false_iff_not, Bool.not_eq_true', Bool.not_eq_false', beq_iff_eq, beq_eq_false_iff_ne, bne_iff_ne, bne_eq_false_iff_eq] at h) <;> (first | (exfalso; first | omega | exact h trivial) | (conv => whnf))) | (refine .mk _ _ (by exact cC) ?_; conv => whnf) | (refine idx_at _ (by with_reducible rfl) (by first | assumption | omega) ?_; conv => whnf) | ((with_reducible refine sm_look (ek := ekS) (ev := evI) keyStr _ _ ((0 : Int)) ?_ ?_); exact rfl; conv => whnf) | ((with_reducible refine sm_upd (ek := ekS) (ev := evI) keyStr _ _ _ ?_); conv => whnf) | fail)
    · have ht : te ≠ 0 := hrk.1 (by assumption)
      have eS : scrAt l (k + 1) = scrAt l k := by rw [hS1, decide_eq_false ht, Bool.false_and, Bool.or_false]
      have eL : arrL l (k + 1) = arrL l k := by rw [hL1, if_neg (fun e => ht e.1)]
      exact count_next () hk (by rw [wrap_succ hk (by omega), eS, eL]; rfl) trivial
    all_goals
      have ht : te = 0 := by
        have hrf : r = false := by assumption
        by_cases e : te = 0
        · exact e
        · have := hrk.2 e
          rw [hrf] at this; cases this
      rw [decide_eq_true ht, Bool.true_and] at hS1
      clear cC hrk hmem c1 c2 c3 c4 c5 c7 cT
    · have e1 : scrAt l k = true := by assumption
      rw [e1, Bool.true_or] at hS1
      rw [if_pos ⟨ht, by assumption⟩] at hL1
      exact count_next () hk (by rw [wrap_succ hk (by omega), hS1, hL1]; rfl) trivial
    · have e1 : scrAt l k = false := by assumption
      rw [e1, Bool.false_or] at hS1
      rw [if_pos ⟨ht, by assumption⟩] at hL1
      exact count_next () hk (by rw [wrap_succ hk (by omega), hS1, hL1]; rfl) trivial
    · have e1 : scrAt l k = true := by assumption
      rw [e1, Bool.true_or] at hS1
      have e2 : ¬ l[k].kd = 1 := by assumption
      rw [if_neg (fun e => e2 e.2)] at hL1
      exact count_next () hk (by rw [wrap_succ hk (by omega), hS1, hL1]; rfl) trivial
    · have e1 : scrAt l k = false := by assumption
      rw [e1, Bool.false_or] at hS1
      have e2 : ¬ l[k].kd = 1 := by assumption
      rw [if_neg (fun e => e2 e.2)] at hL1
      exact count_next () hk (by rw [wrap_succ hk (by omega), hS1, hL1]; rfl) trivial
  · intro _ _
    as_aux_lemma =>
     have hscr := scrAt l l.length
     conv => whnf
     repeat' (first | (refine .mk (fun h => ?_) (fun h => ?_) <;> (try simp only [decide_eq_true_eq, decide_eq_false_iff_not, Bool.not_eq_true', Bool.not_eq_false', beq_iff_eq, beq_eq_false_iff_ne, bne_iff_ne, bne_eq_false_iff_eq] at h) <;> (first | (exfalso; first | omega | exact h trivial) | (conv => whnf))) | fail)
     refine .ex _ cT ?_
     rintro _ _ ⟨ns, hK, rfl, rfl⟩
     conv => whnf
     skip
     have hgt : ∀ kind, ((sumsM (arrL l l.length)).get kind).getD 0 = arrAt l kind l.length := fun kind => by
       rw [sumsM_get _ (hAin l.length (Nat.le_refl _)).1 (by have := (hAin l.length (Nat.le_refl _)).2; omega), arrL_sum]
     have hpm : ((prsV (fun n => totT l n l.length) ns).map encPr).length = ns.length := by rw [List.length_map]; unfold prsV; rw [List.length_map]
     have hnl := keys_few hK
     clear c1 c2 c3 c4 c5 c7 cT hmem hAin
     refine loop_for (2) [] [4, 20, 21, 24, 25, 135, 136, 137] (fun j (_ : Unit) => [(137, .c (.int .i64 (j : Int)))]) (fun j (_ : Unit) => []) (fun j (_ : Unit) => True) (()) ?_
     conv => whnf
     refine ⟨(by first | rfl | (simp; done) | (simp; rfl)), (by trivial), ?_, ?_⟩
     · intro j _ hj _
       conv => whnf
       repeat' (first | (refine .mk (fun h => ?_) (fun h => ?_) <;> (try simp only [decide_eq_true_eq, decide_eq_false_iff_not, Bool.not_eq_true', Bool.not_eq_false', beq_iff_eq, beq_eq_false_iff_ne, bne_iff_ne, bne_eq_false_iff_eq] at h) <;> (first | (exfalso; first | omega | exact h trivial | (simp [cutRows] at h; done) | (simp [cutRows] at h; omega)) | (conv => whnf))) | (refine .mk (by first | omega | (unfold roomOK; simp [cutRows]; done) | (unfold roomOK; simp [cutRows]; omega) | (simp [cutRows]; done) | (simp [cutRows]; omega)) ?_; conv => whnf) | (refine row_strm (N := kindsTU) (by rfl) (by rfl) (by first | (simp [cutRows]; done) | (simp [cutRows]; omega)) ?_; intro str hstr; conv => whnf) | fail)
       have hkey : keyB str = true := by
         unfold kindsTU at hstr
         simp only [List.mem_cons, List.not_mem_nil, or_false] at hstr
         rcases hstr with rfl | rfl <;> decide
       have hwe : winErr l str (0, 345686400000) = 0 := by
         unfold winErr
         rw [if_neg (by omega), hkey]
         have : winB (0, 345686400000) = true := by unfold winB; decide
         rw [this]; rfl
       have cU := dUsed_pc l (by omega) str (0, 345686400000)
       rw [usedV, if_pos hwe, hwe] at cU
       obtain ⟨a1, a2, a3, a4⟩ := hadd str
       have a5 := hti str
       have a6 := hgt str
       have a7 := told_all hK str a5.1
       have cA : ∀ m, PCp 17 [.c (.str (itoaB (totT l m l.length)))] [] (.tup [.c (.int .i64 (totT l m l.length)), .c .nili]) [] := fun m => atoiI_pc _ (hti m).1 (by have := (hti m).2; omega)
       have hT : ∀ i (h : i < ns.length), toldOf (fun n => totT l n l.length) str (ns.take (i + 1)) 0 = if ns[i] = str then totT l ns[i] l.length else toldOf (fun n => totT l n l.length) str (ns.take i) 0 := fun i h => by
         rw [List.take_succ_eq_append_getElem h]
         unfold toldOf
         by_cases e : ns[i] = str
         · rw [if_pos e, if_pos (by simp [e]), e]
         · rw [if_neg e]
           have : str ∈ ns.take i ++ [ns[i]] ↔ str ∈ ns.take i := by
             rw [List.mem_append, List.mem_singleton]
             exact ⟨fun q => q.resolve_right (fun q => e q.symm), .inl⟩
           simp only [this]
       have hw1 : IntKind.i64.wrap (totT l str l.length + usedAt l str (0, 345686400000) l.length) = totT l str l.length + usedAt l str (0, 345686400000) l.length := wrap_in (by omega) (by omega)
       repeat' (first | (refine .mk _ _ (by exact cU) ?_; conv => whnf) | fail)
       refine loop_for (ns.length) [] [4, 20, 21, 24, 25, 27, 28, 29, 30, 135, 136, 137, 148, 149, 150] (fun i (_ : Unit) => [(30, .c (.int .i64 (toldOf (fun n => totT l n l.length) str (ns.take i) 0))), (150, .c (.int .i64 (i : Int)))]) (fun i (_ : Unit) => []) (fun i (_ : Unit) => True) (()) ?_
       conv => whnf
       refine ⟨(by first | rfl | (simp; done) | (simp; rfl)), (by trivial), ?_, ?_⟩
       · intro i _ hi _
         have hTi := hT i hi
         have hPi : ((prsV (fun n => totT l n l.length) ns).map encPr)[i]? = some (encPr (ns[i], itoaB (totT l ns[i] l.length))) := by
           unfold prsV
           rw [List.map_map, List.getElem?_map, List.getElem?_eq_getElem hi]; rfl
         conv => whnf
         repeat' (first | (refine .mk (fun h => ?_) (fun h => ?_) <;> (try simp only [decide_eq_true_eq, decide_eq_false_iff_not, Bool.not_eq_true', Bool.not_eq_false', beq_iff_eq, beq_eq_false_iff_ne] at h) <;> (first | (exfalso; first | omega | exact h trivial) | (conv => whnf))) | (refine .mk _ _ (by exact cA _) ?_; conv => whnf) | ((refine IdxG.mk (encPr (ns[i], itoaB (totT l ns[i] l.length))) ⟨by omega, by rw [toN]; exact hPi⟩ ?_); conv => whnf) | fail)
         · rw [if_pos (strEq.1 (by assumption))] at hTi
           exact count_next () hi (by rw [wrap_succ hi (by omega), hTi]; rfl) trivial
         · rw [if_neg (fun e => absurd (strEq.2 e) (by assumption))] at hTi
           exact count_next () hi (by rw [wrap_succ hi (by omega), hTi]; rfl) trivial
       · intro _ _
         rw [List.take_length, a7]
         conv => whnf
         repeat' (first | (refine .mk (fun h => ?_) (fun h => ?_) <;> (try simp only [decide_eq_true_eq, decide_eq_false_iff_not, Bool.not_eq_true', Bool.not_eq_false', beq_iff_eq, beq_eq_false_iff_ne] at h) <;> (first | (exfalso; first | omega | exact h trivial) | (conv => whnf))) | ((with_reducible refine sm_look (ek := ekS) (ev := evI) keyStr _ _ ((0 : Int)) ?_ ?_); exact rfl; conv => whnf) | fail)
         all_goals first | exact count_next () hj (by rw [wrap_succ hj (by omega)]; rfl) trivial | (exfalso; exact absurd h (by decide)) | (exfalso; omega) | (exfalso; have q := a2 (by assumption); rw [hw1, a6, q] at h; simp at h; done)
     · intro _ _
       conv => whnf
       repeat' (first | (refine .mk (fun h => ?_) (fun h => ?_) <;> (try simp only [decide_eq_true_eq, decide_eq_false_iff_not, Bool.not_eq_true', Bool.not_eq_false', beq_iff_eq, beq_eq_false_iff_ne, bne_iff_ne, bne_eq_false_iff_eq] at h) <;> (first | (exfalso; first | omega | exact h trivial | (simp [cutRows] at h; done) | (simp [cutRows] at h; omega)) | (conv => whnf))) | (refine .mk _ _ (by exact ready_pc) ?_; conv => whnf) | fail)
       all_goals exact finb rfl
end Go.Proofs.YtilfcojhdhgmfaaGreatDoor


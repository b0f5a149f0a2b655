/- What an operation gives is one value, and some changes. -/
import Derived.Test.YtkefgcleaalnnaaGreatAbsK
namespace Go.Proofs.YtkefgcleaalnnaaGreat
set_option linter.unusedVariables false
set_option linter.unusedSimpArgs false
namespace Abs

def DM {α : Type} (F : (α → Prop) → Prop) : Prop := ∀ k, F k → ∃ x, k x ∧ ∀ k', k' x → F k'
def DM2 {α β : Type} (F : (α → β → Prop) → Prop) : Prop := ∀ k, F k → ∃ x y, k x y ∧ ∀ k', k' x y → F k'

theorem DM.pure {α : Type} (x : α) : DM (fun k => k x) := fun k hk => ⟨x, hk, fun _ h => h⟩
theorem DM.none {α : Type} : DM (fun (_ : α → Prop) => False) := fun _ hk => hk.elim
theorem DM.and {α : Type} {p : Prop} {F : (α → Prop) → Prop} (h : DM F) : DM (fun k => p ∧ F k) := fun k hk => by
 obtain ⟨x, h1, h2⟩ := h k hk.2
 exact ⟨x, h1, fun k' hk' => ⟨hk.1, h2 k' hk'⟩⟩
theorem DM2.pure {α β : Type} (x : α) (y : β) : DM2 (fun k => k x y) := fun k hk => ⟨x, y, hk, fun _ h => h⟩
theorem DM2.none {α β : Type} : DM2 (fun (_ : α → β → Prop) => False) := fun _ hk => hk.elim
theorem DM2.and {α β : Type} {p : Prop} {F : (α → β → Prop) → Prop} (h : DM2 F) : DM2 (fun k => p ∧ F k) := fun k hk => by
 obtain ⟨x, y, h1, h2⟩ := h k hk.2
 exact ⟨x, y, h1, fun k' hk' => ⟨hk.1, h2 k' hk'⟩⟩
theorem DM.ask {α : Type} {p : Prop} {F : (α → Prop) → Prop} (h : DM F) : DM (fun k => Ask p (F k)) := fun k hk => by
 obtain ⟨x, h1, h2⟩ := h k hk.p
 exact ⟨x, h1, fun k' hk' => ⟨hk.c, h2 k' hk'⟩⟩
theorem DM2.ask {α β : Type} {p : Prop} {F : (α → β → Prop) → Prop} (h : DM2 F) : DM2 (fun k => Ask p (F k)) := fun k hk => by
 obtain ⟨x, y, h1, h2⟩ := h k hk.p
 exact ⟨x, y, h1, fun k' hk' => ⟨hk.c, h2 k' hk'⟩⟩
theorem DM2.app {α β : Type} {p : Prop} {F G : (α → β → Prop) → Prop} (h : DM2 F) (h' : DM2 G) : DM2 (fun k => AppG p (F k) (G k)) := fun k hk => by
 rcases hk with ⟨hp, hk⟩ | ⟨hp, hk⟩
 ·obtain ⟨x, y, h1, h2⟩ := h k hk
  exact ⟨x, y, h1, fun k' hk' => .mk hp (h2 k' hk')⟩
 ·obtain ⟨x, y, h1, h2⟩ := h' k hk
  exact ⟨x, y, h1, fun k' hk' => .fr hp (h2 k' hk')⟩
theorem DM2.idx {α β : Type} {rows : List (List V)} {i : Int} {F : List V → (α → β → Prop) → Prop} (h : ∀ z, DM2 (F z)) : DM2 (fun k => IdxG rows i fun z => F z k) := fun k hk => by
 obtain ⟨z, hz, hk⟩ := hk
 obtain ⟨x, y, h1, h2⟩ := h z k hk
 exact ⟨x, y, h1, fun k' hk' => ⟨z, hz, h2 k' hk'⟩⟩
theorem DM2.gridg {α β : Type} {ins : List (Value × List (List V))} {i : Nat} {c : Value} {F : List (List V) → (α → β → Prop) → Prop} (h : ∀ z, DM2 (F z)) : DM2 (fun k => GridG ins i c fun z => F z k) := fun k hk => by
 obtain ⟨z, h1, h2⟩ := hk
 obtain ⟨x, y, h3, h4⟩ := h z k h2
 exact ⟨x, y, h3, fun k' hk' => ⟨z, h1, h4 k' hk'⟩⟩
theorem DM.gridg {α : Type} {ins : List (Value × List (List V))} {i : Nat} {c : Value} {F : List (List V) → (α → Prop) → Prop} (h : ∀ z, DM (F z)) : DM (fun k => GridG ins i c fun z => F z k) := fun k hk => by
 obtain ⟨z, h1, h2⟩ := hk
 obtain ⟨x, h3, h4⟩ := h z k h2
 exact ⟨x, h3, fun k' hk' => ⟨z, h1, h4 k' hk'⟩⟩
theorem DM2.gridl {α β : Type} {ins : List (Value × List (List V))} {i : Nat} {F : Value → (α → β → Prop) → Prop} (h : ∀ z, DM2 (F z)) : DM2 (fun k => GridL ins i fun z => F z k) := fun k hk => by
 obtain ⟨c, z, h1, h2⟩ := hk
 obtain ⟨x, y, h3, h4⟩ := h c k h2
 exact ⟨x, y, h3, fun k' hk' => ⟨c, z, h1, h4 k' hk'⟩⟩
theorem DM2.ptake {α β : Type} {ins : List (Value × Option (List (List V)))} {i : Nat} {c : Value} {F : List (List V) → (α → β → Prop) → Prop} (h : ∀ z, DM2 (F z)) : DM2 (fun k => PTake ins i c fun z => F z k) := fun k hk => by
 obtain ⟨z, h1, hk⟩ := hk
 obtain ⟨x, y, h2, h3⟩ := h z k hk
 exact ⟨x, y, h2, fun k' hk' => .mk z h1 (h3 k' hk')⟩
theorem DM2.rowg {α β : Type} {rows : List (List V)} {i : Nat} {F : List V → (α → β → Prop) → Prop} (h : ∀ z, DM2 (F z)) : DM2 (fun k => RowG rows i fun z => F z k) := fun k hk => by
 obtain ⟨z, hz, hk⟩ := hk
 obtain ⟨x, y, h1, h2⟩ := h z k hk
 exact ⟨x, y, h1, fun k' hk' => ⟨z, hz, h2 k' hk'⟩⟩
theorem DM2.callg {α β : Type} {P : S → List Ob → Prop} {F : S → List Ob → (α → β → Prop) → Prop} (h : ∀ r os, DM2 (F r os)) : DM2 (fun k => CallG P fun r os => F r os k) := fun k hk => by
 obtain ⟨r, os, hz, hk⟩ := hk
 obtain ⟨x, y, h1, h2⟩ := h r os k hk
 exact ⟨x, y, h1, fun k' hk' => ⟨r, os, hz, h2 k' hk'⟩⟩
theorem DM2.lookg {α β : Type} {f : Found} {z : S} {F : S → Bool → (α → β → Prop) → Prop} (h : ∀ r os, DM2 (F r os)) : DM2 (fun k => LookG f z fun r os => F r os k) := fun k hk => by
 obtain ⟨r, os, hz, hk⟩ := hk
 obtain ⟨x, y, h1, h2⟩ := h r os k hk
 exact ⟨x, y, h1, fun k' hk' => ⟨r, os, hz, h2 k' hk'⟩⟩
theorem DM2.updg {α β : Type} {f : Found} {sm : Nat → Prop} {cl : Nat} {es : Ents} {key v : S} {F : Nat → Ents → (α → β → Prop) → Prop} (h : ∀ r os, DM2 (F r os)) : DM2 (fun k => UpdG f sm cl es key v fun r os => F r os k) := fun k hk => by
 obtain ⟨r, os, hz, hk⟩ := hk
 obtain ⟨x, y, h1, h2⟩ := h r os k hk
 exact ⟨x, y, h1, fun k' hk' => ⟨r, os, hz, h2 k' hk'⟩⟩
theorem DM2.entg {α β : Type} {f : Found} {sm : Nat → Prop} {cl : Nat} {es : Ents} {key z : S} {F : S → Nat → Nat → Ents → (α → β → Prop) → Prop} (h : ∀ v n r os, DM2 (F v n r os)) : DM2 (fun k => EntG f sm cl es key z fun v n r os => F v n r os k) := fun k hk => by
 obtain ⟨v, n, r, os, hz, hk⟩ := hk
 obtain ⟨x, y, h1, h2⟩ := h v n r os k hk
 exact ⟨x, y, h1, fun k' hk' => ⟨v, n, r, os, hz, h2 k' hk'⟩⟩
theorem DM2.stampg {α β : Type} {es : Ents} {st : Int} {v : S} {F : Ents → (α → β → Prop) → Prop} (h : ∀ os, DM2 (F os)) : DM2 (fun k => StampG es st v fun os => F os k) := fun k hk => by
 obtain ⟨i, n, key, v0, hz, hk⟩ := hk
 obtain ⟨x, y, h1, h2⟩ := h _ k hk
 exact ⟨x, y, h1, fun k' hk' => ⟨i, n, key, v0, hz, h2 k' hk'⟩⟩
theorem DM2.delg {α β : Type} {f : Found} {es : Ents} {F : Ents → (α → β → Prop) → Prop} (h : ∀ os, DM2 (F os)) : DM2 (fun k => DelG f es fun os => F os k) := fun k hk => by
 obtain ⟨r, hz, hk⟩ := hk
 obtain ⟨x, y, h1, h2⟩ := h r k hk
 exact ⟨x, y, h1, fun k' hk' => ⟨r, hz, h2 k' hk'⟩⟩
theorem DM2.entryg {α β : Type} {es : Ents} {n : Nat} {F : S → S → (α → β → Prop) → Prop} (h : ∀ r os, DM2 (F r os)) : DM2 (fun k => EntryG es n fun r os => F r os k) := fun k hk => by
 obtain ⟨r, os, hz, hk⟩ := hk
 obtain ⟨x, y, h1, h2⟩ := h r os k hk
 exact ⟨x, y, h1, fun k' hk' => ⟨r, os, hz, h2 k' hk'⟩⟩
theorem DM2.ex {α β γ : Type} {F : γ → (α → β → Prop) → Prop} (h : ∀ z, DM2 (F z)) : DM2 (fun k => ∃ z, F z k) := fun k hk => by
 obtain ⟨z, hk⟩ := hk
 obtain ⟨x, y, h1, h2⟩ := h z k hk
 exact ⟨x, y, h1, fun k' hk' => ⟨z, h2 k' hk'⟩⟩
theorem DM2.bif {α β : Type} {b : Bool} {F G : (α → β → Prop) → Prop} (h1 : DM2 F) (h2 : DM2 G) : DM2 (fun k => bif b then F k else G k) := by cases b <;> assumption
theorem DM.bif {α : Type} {b : Bool} {F G : (α → Prop) → Prop} (h1 : DM F) (h2 : DM G) : DM (fun k => bif b then F k else G k) := by cases b <;> assumption
theorem DM.bind {α β : Type} {F : (α → Prop) → Prop} {G : α → (β → Prop) → Prop} (h1 : DM F) (h2 : ∀ x, DM (G x)) : DM (fun k => F fun x => G x k) := fun k hk => by
 obtain ⟨x, g1, g2⟩ := h1 _ hk
 obtain ⟨y, g3, g4⟩ := h2 x k g1
 exact ⟨y, g3, fun k' hk' => g2 _ (g4 k' hk')⟩
theorem DM.bind2 {α β γ : Type} {F : (α → Prop) → Prop} {G : α → (β → γ → Prop) → Prop} (h1 : DM F) (h2 : ∀ x, DM2 (G x)) : DM2 (fun k => F fun x => G x k) := fun k hk => by
 obtain ⟨x, g1, g2⟩ := h1 _ hk
 obtain ⟨y, z, g3, g4⟩ := h2 x k g1
 exact ⟨y, z, g3, fun k' hk' => g2 _ (g4 k' hk')⟩
theorem DM2.bind2 {α β γ δ : Type} {F : (α → β → Prop) → Prop} {G : α → β → (γ → δ → Prop) → Prop} (h1 : DM2 F) (h2 : ∀ x y, DM2 (G x y)) : DM2 (fun k => F fun x y => G x y k) := fun k hk => by
 obtain ⟨x, y, g1, g2⟩ := h1 _ hk
 obtain ⟨u, z, g3, g4⟩ := h2 x y k g1
 exact ⟨u, z, g3, fun k' hk' => g2 _ (g4 k' hk')⟩

section
variable {T : List (Nat × TI)} {PC : Nat → List S → List Ob → (S → List Ob → Prop) → Prop} {mt : List Nat} {g : Nat → Option Nat}

mutual
theorem dm_rnV : ∀ (v : V), DM (rnV g v)
 | .row l => by intro k hk; simp only [rnV] at hk ⊢; cases hl : g l with
  | none => simp [hl] at hk
  | some i => simp only [hl] at hk ⊢; exact ⟨_, hk, fun _ h => h⟩
 | .mp l => by intro k hk; simp only [rnV] at hk ⊢; cases hl : g l with
  | none => simp [hl] at hk
  | some i => simp only [hl] at hk ⊢; exact ⟨_, hk, fun _ h => h⟩
 | .ptr l o => by intro k hk; simp only [rnV] at hk ⊢; cases hl : g l with
  | none => simp [hl] at hk
  | some i => simp only [hl] at hk ⊢; exact ⟨_, hk, fun _ h => h⟩
 | .eptr l o a b => by intro k hk; simp only [rnV] at hk ⊢; cases hl : g l with
  | none => simp [hl] at hk
  | some i => simp only [hl] at hk ⊢; exact ⟨_, hk, fun _ h => h⟩
 | .vw l o a b => by intro k hk; simp only [rnV] at hk ⊢; cases hl : g l with
  | none => simp [hl] at hk
  | some i => simp only [hl] at hk ⊢; exact ⟨_, hk, fun _ h => h⟩
 | .inn l a b => by intro k hk; simp only [rnV] at hk ⊢; cases hl : g l with
  | none => simp [hl] at hk
  | some i => simp only [hl] at hk ⊢; exact ⟨_, hk, fun _ h => h⟩
 | .iptr l a b c d e => by intro k hk; simp only [rnV] at hk ⊢; cases hl : g l with
  | none => simp [hl] at hk
  | some i => simp only [hl] at hk ⊢; exact ⟨_, hk, fun _ h => h⟩
 | .fn f caps => by intro k hk; simp only [rnV] at hk ⊢; obtain ⟨x, h1, h2⟩ := dm_rnVs caps _ hk; exact ⟨_, h1, fun k' hk' => h2 _ hk'⟩
 | .int a b => fun k hk => ⟨_, hk, fun _ h => h⟩
 | .bool b => fun k hk => ⟨_, hk, fun _ h => h⟩
 | .tt => fun k hk => ⟨_, hk, fun _ h => h⟩
 | .ff => fun k hk => ⟨_, hk, fun _ h => h⟩
 | .str b => fun k hk => ⟨_, hk, fun _ h => h⟩
 | .nils => fun k hk => ⟨_, hk, fun _ h => h⟩
 | .nilp => fun k hk => ⟨_, hk, fun _ h => h⟩
 | .nilf => fun k hk => ⟨_, hk, fun _ h => h⟩
 | .nili => fun k hk => ⟨_, hk, fun _ h => h⟩
 | .nilm => fun k hk => ⟨_, hk, fun _ h => h⟩
 | .lst a b => fun k hk => ⟨_, hk, fun _ h => h⟩
 | .cptr a => fun k hk => ⟨_, hk, fun _ h => h⟩
 | .cmap a => fun k hk => ⟨_, hk, fun _ h => h⟩
 | .bot => fun k hk => ⟨_, hk, fun _ h => h⟩
theorem dm_rnVs : ∀ (vs : List V), DM (rnV.rnVs g vs)
 | [] => fun k hk => ⟨_, hk, fun _ h => h⟩
 | v :: r => by
  intro k hk
  simp only [rnV.rnVs] at hk ⊢
  obtain ⟨x, h1, h2⟩ := dm_rnV v _ hk
  obtain ⟨y, h3, h4⟩ := dm_rnVs r _ h1
  exact ⟨_, h3, fun k' hk' => h2 _ (h4 _ hk')⟩
end
mutual
theorem dm_rnS : ∀ (s : S), DM (rnS g s)
 | .c v => by intro k hk; simp only [rnS] at hk ⊢; obtain ⟨x, h1, h2⟩ := dm_rnV v _ hk; exact ⟨_, h1, fun k' hk' => h2 _ hk'⟩
 | .agg v => by intro k hk; simp only [rnS] at hk ⊢; obtain ⟨x, h1, h2⟩ := dm_rnVs v _ hk; exact ⟨_, h1, fun k' hk' => h2 _ hk'⟩
 | .tup v => by intro k hk; simp only [rnS] at hk ⊢; obtain ⟨x, h1, h2⟩ := dm_rnSs v _ hk; exact ⟨_, h1, fun k' hk' => h2 _ hk'⟩
 | .bot => fun k hk => ⟨_, hk, fun _ h => h⟩
theorem dm_rnSs : ∀ (vs : List S), DM (rnS.rnSs g vs)
 | [] => fun k hk => ⟨_, hk, fun _ h => h⟩
 | v :: r => by
  intro k hk
  simp only [rnS.rnSs] at hk ⊢
  obtain ⟨x, h1, h2⟩ := dm_rnS v _ hk
  obtain ⟨y, h3, h4⟩ := dm_rnSs r _ h1
  exact ⟨_, h3, fun k' hk' => h2 _ (h4 _ hk')⟩
end
theorem dm_rnO : ∀ (o : Ob), DM (rnO g o)
 | .box cs _ => by intro k hk; simp only [rnO] at hk ⊢; obtain ⟨x, h1, h2⟩ := dm_rnVs cs _ hk; exact ⟨_, h1, fun k' hk' => h2 _ hk'⟩
 | .row e a b => fun k hk => ⟨_, hk, fun _ h => h⟩
 | .frow a b => fun k hk => ⟨_, hk, fun _ h => h⟩
 | .map c a => fun k hk => ⟨_, hk, fun _ h => h⟩
 | .iter l a b => by intro k hk; simp only [rnO] at hk ⊢; cases hl : g l with
  | none => simp [hl] at hk
  | some i => simp only [hl] at hk ⊢; exact ⟨_, hk, fun _ h => h⟩
 | .grid a b c d => fun k hk => ⟨_, hk, fun _ h => h⟩
 | .pmap q p c a => fun k hk => by
  simp only [rnO] at hk ⊢
  cases q with
  | true => exact hk.elim
  | false =>
   simp only [cond_false] at hk ⊢
   cases hg : g p with
   | none => simp [hg] at hk
   | some i => simp only [hg] at hk ⊢; exact ⟨_, hk, fun _ h => h⟩
 | .pool a b c => fun k hk => ⟨_, hk, fun _ h => h⟩
 | .dead => fun k hk => ⟨_, hk, fun _ h => h⟩
theorem dm_rnOs : ∀ (vs : List Ob), DM (rnOs g vs)
 | [] => fun k hk => ⟨_, hk, fun _ h => h⟩
 | v :: r => by
  intro k hk
  simp only [rnOs] at hk ⊢
  obtain ⟨x, h1, h2⟩ := dm_rnO v _ hk
  obtain ⟨y, h3, h4⟩ := dm_rnOs r _ h1
  exact ⟨_, h3, fun k' hk' => h2 _ (h4 _ hk')⟩
theorem dm_getAll {h : Nat → Option Ob} : ∀ (ids : List Nat), DM (getAll h ids)
 | [] => fun k hk => ⟨_, hk, fun _ h => h⟩
 | l :: r => by
  intro k hk
  simp only [getAll] at hk ⊢
  cases hl : h l with
  | none => simp [hl] at hk
  | some o =>
   simp only [hl] at hk ⊢
   obtain ⟨y, h3, h4⟩ := dm_getAll r _ hk
   exact ⟨_, h3, fun k' hk' => h4 _ hk'⟩
theorem dm_zipCh : ∀ (os : List Ob) (i : Nat), DM (zipCh i g os)
 | [], i => fun k hk => ⟨_, hk, fun _ h => h⟩
 | o :: r, i => by
  intro k hk
  simp only [zipCh] at hk ⊢
  cases hl : g i with
  | none => simp [hl] at hk
  | some l =>
   simp only [hl] at hk ⊢
   obtain ⟨y, h3, h4⟩ := dm_zipCh r (i + 1) _ hk
   exact ⟨_, h3, fun k' hk' => h4 _ hk'⟩
theorem dm_frz : ∀ (vs : List V) (h : Nat → Option Ob), DM2 (frz h vs)
 | [], h => fun k hk => ⟨_, _, hk, fun _ h => h⟩
 | v :: r, h => by
  intro k hk
  simp only [frz] at hk ⊢
  cases v with
  | row l =>
   simp only at hk ⊢
   cases hl : h l with
   | none => simp [hl] at hk
   | some o =>
    simp only [hl] at hk ⊢
    cases o with
    | row e sz rows => obtain ⟨x, y, h1, h2⟩ := dm_frz r _ _ hk; exact ⟨_, _, h1, fun k' hk' => h2 _ hk'⟩
    | frow sz rows => obtain ⟨x, y, h1, h2⟩ := dm_frz r _ _ hk; exact ⟨_, _, h1, fun k' hk' => h2 _ hk'⟩
    | _ => exact hk.elim
  | _ => obtain ⟨x, y, h1, h2⟩ := dm_frz r _ _ hk; exact ⟨_, _, h1, fun k' hk' => h2 _ hk'⟩
theorem dm_fz : ∀ (vs : List V) (h : Nat → Option Ob), DM2 (fz h vs)
 | [], h => fun k hk => ⟨_, _, hk, fun _ h => h⟩
 | v :: r, h => by
  intro k hk
  simp only [fz] at hk ⊢
  cases v with
  | row l =>
   simp only at hk ⊢
   cases hl : h l with
   | none => simp [hl] at hk
   | some o =>
    simp only [hl] at hk ⊢
    cases o with
    | row e sz rows => obtain ⟨x, y, h1, h2⟩ := dm_fz r _ _ hk; exact ⟨_, _, h1, fun k' hk' => h2 _ hk'⟩
    | frow sz rows => obtain ⟨x, y, h1, h2⟩ := dm_fz r _ _ hk; exact ⟨_, _, h1, fun k' hk' => h2 _ hk'⟩
    | _ => exact hk.elim
  | ptr => exact hk.elim
  | eptr => exact hk.elim
  | vw => exact hk.elim
  | inn => exact hk.elim
  | iptr => exact hk.elim
  | mp => exact hk.elim
  | fn => exact hk.elim
  | bot => exact hk.elim
  | _ => obtain ⟨x, y, h1, h2⟩ := dm_fz r _ _ hk; exact ⟨_, _, h1, fun k' hk' => h2 _ hk'⟩
theorem dm_frzS : ∀ (vs : List S) (h : Nat → Option Ob), DM2 (frzS h vs)
 | [], h => fun k hk => ⟨_, _, hk, fun _ h => h⟩
 | s :: r, h => by
  intro k hk
  simp only [frzS] at hk ⊢
  cases s with
  | c v =>
   simp only at hk ⊢
   obtain ⟨x, y, h1, h2⟩ := dm_frz [v] h _ hk
   cases x with
   | nil => exact h1.elim
   | cons v' t =>
    cases t with
    | cons => exact h1.elim
    | nil =>
     simp only at h1
     obtain ⟨x, y, h3, h4⟩ := dm_frzS r _ _ h1
     exact ⟨_, _, h3, fun k' hk' => h2 _ (h4 _ hk')⟩
  | agg v =>
   simp only at hk ⊢
   obtain ⟨x, y, h1, h2⟩ := dm_frz v h _ hk
   obtain ⟨x, y, h3, h4⟩ := dm_frzS r _ _ h1
   exact ⟨_, _, h3, fun k' hk' => h2 _ (h4 _ hk')⟩
  | tup v => obtain ⟨x, y, h1, h2⟩ := dm_frzS r _ _ hk; exact ⟨_, _, h1, fun k' hk' => h2 _ hk'⟩
  | bot => obtain ⟨x, y, h1, h2⟩ := dm_frzS r _ _ hk; exact ⟨_, _, h1, fun k' hk' => h2 _ hk'⟩

theorem dm_rowsOf (h : Nat → Option Ob) (size : Nat) (v : S) : DM (rowsOf h size v) := by
 unfold rowsOf
 cases v with
 | c v =>
  cases v with
  | lst sz rows => exact DM.bif (DM.pure _) DM.none
  | nils => exact DM.pure _
  | row l =>
   simp only
   cases h l with
   | none => exact DM.none
   | some o => cases o <;> first | exact DM.bif (DM.pure _) DM.none | exact DM.none
  | vw l =>
   simp only
   cases h l with
   | none => exact DM.none
   | some o => cases o <;> first | exact DM.bif (DM.pure _) DM.none | exact DM.none
  | _ => exact DM.none
 | _ => exact DM.none
theorem dm_lenOf (h : Nat → Option Ob) (kd : TK) (v : S) : DM (lenOf h kd v) := by
 unfold lenOf
 cases kd with
 | slice e =>
  simp only
  cases v with
  | c v =>
   cases v with
   | row l =>
    simp only
    cases h l with
    | none => exact DM.none
    | some o => cases o <;> first | exact DM.pure _ | exact DM.none
   | lst => exact DM.pure _
   | nils => exact DM.pure _
   | vw => exact DM.pure _
   | inn l i c =>
    simp only
    cases h l with
    | none => exact DM.none
    | some o => cases o <;> first | exact DM.gridg fun _ => DM.pure _ | exact DM.none
   | _ => exact DM.none
  | _ => exact DM.none
 | string =>
  simp only
  cases v with
  | c v => cases v <;> first | exact DM.pure _ | exact DM.none
  | _ => exact DM.none
 | map a b =>
  simp only
  cases v with
  | c v =>
   cases v with
   | nilm => exact DM.pure _
   | mp l =>
    simp only
    cases h l with
    | none => exact DM.none
    | some o => cases o <;> first | exact DM.pure _ | exact DM.none
   | _ => exact DM.none
  | _ => exact DM.none
 | _ => exact DM.none
theorem dm_bin (op : BinOp) (a b : S) : DM (bin op a b) := by
 unfold bin
 cases a with
 | c a =>
  cases b with
  | c b =>
   cases a with
   | int => cases b with
    | int => refine DM.bif ?_ DM.none; cases op <;> first | exact DM.pure _ | exact DM.ask (DM.pure _) | exact DM.none
    | _ => exact DM.none
   | str => cases b with
    | str => cases op <;> first | exact DM.pure _ | exact DM.ask (DM.pure _) | exact DM.none
    | _ => exact DM.none
   | _ => exact DM.none
  | _ => cases a <;> exact DM.none
 | _ => exact DM.none
theorem dm_mkS (ti : TI) (cs : List V) : DM (mkS ti cs) := by
 unfold mkS
 refine DM.bif (DM.bif (DM.pure _) DM.none) ?_
 cases cs with
 | nil => exact DM.none
 | cons v r => exact DM.pure _
theorem dm_kindOf (ts : Array Nat) : DM (kindOf T ts) := by
 unfold kindOf
 cases nth ts.toList 0 with
 | none => exact DM.none
 | some t => simp only; cases getA T t <;> first | exact DM.none | exact DM.pure _
theorem dm_withT (t : Nat) : DM (withT T t) := by
 unfold withT
 cases getA T t <;> first | exact DM.none | exact DM.pure _
theorem dm_elemTI (t : Nat) : DM (elemTI T t) := by
 unfold elemTI
 cases getA T t with
 | none => exact DM.none
 | some ti =>
  simp only
  cases ti.kind with
  | slice e => simp only; cases getA T e <;> first | exact DM.none | exact DM.pure _
  | _ => exact DM.none
theorem dm_elemTIe (t : Nat) : DM2 (elemTIe T t) := by
 unfold elemTIe
 cases getA T t with
 | none => exact DM2.none
 | some ti =>
  simp only
  cases ti.kind with
  | slice e => simp only; cases getA T e <;> first | exact DM2.none | exact DM2.bif (DM2.pure _ _) DM2.none
  | _ => exact DM2.none

theorem dm_aPick (a b c : S) : DM2 (aPick a b c) := by
 unfold aPick
 cases a with
 | c v =>
  cases v with
  | tt => exact DM2.pure _ _
  | ff => exact DM2.pure _ _
  | bool x =>
   simp only
   cases boolV b with
   | none => exact DM2.none
   | some y => simp only; cases boolV c <;> first | exact DM2.none | exact DM2.pure _ _
  | _ => exact DM2.none
 | _ => exact DM2.none
theorem dm_aUn (op : UnOp) (x : S) : DM2 (aUn op x) := by
 intro k hk
 unfold aUn at hk
 split at hk
 ·exact ⟨_, _, hk, fun _ h => h⟩
 ·exact ⟨_, _, hk, fun _ h => h⟩
 ·exact ⟨_, _, hk, fun _ h => h⟩
 ·exact ⟨_, _, hk, fun _ h => h⟩
 ·exact hk.elim
theorem dm_aBox (id : Nat) (v : S) : DM2 (aBox id v) := by
 unfold aBox
 cases cellsOf v <;> first | exact DM2.none | exact DM2.pure _ _
theorem dm_aExtract (v : S) (i : Nat) : DM2 (aExtract v i) := by
 unfold aExtract
 cases v with
 | tup xs => simp only; cases nth xs i <;> first | exact DM2.none | exact DM2.pure _ _
 | _ => exact DM2.none
theorem dm_aFieldAddr (ti : TI) (f : Nat) (x : S) : DM2 (aFieldAddr ti f x) := by
 unfold aFieldAddr
 cases ti.kind with
 | struct fs =>
  simp only
  cases nth fs f with
  | none => exact DM2.none
  | some fo =>
   simp only
   cases x with
   | c v => cases v <;> first | exact DM2.pure _ _ | exact DM2.none
   | _ => exact DM2.none
 | _ => exact DM2.none
theorem dm_aLoad (h : Nat → Option Ob) (ti : TI) (x : S) : DM2 (aLoad h ti x) := by
 unfold aLoad
 cases x with
 | c v =>
  cases v with
  | ptr l o =>
   simp only
   cases h l with
   | none => exact DM2.none
   | some ob => cases ob <;> first | exact DM.bind2 (dm_mkS _ _) (fun _ => DM2.pure _ _) | exact DM2.none
  | cptr cs => exact DM.bind2 (dm_mkS _ _) (fun _ => DM2.pure _ _)
  | eptr l sz i o =>
   simp only
   cases h l with
   | none => exact DM2.none
   | some ob => cases ob <;> first | exact DM2.bif (DM2.rowg fun _ => DM.bind2 (dm_mkS _ _) (fun _ => DM2.pure _ _)) DM2.none | exact DM2.bif (DM2.gridl fun _ => DM2.pure _ _) DM2.none | exact DM2.none
  | iptr l i sz j o c =>
   simp only
   cases h l with
   | none => exact DM2.none
   | some ob => cases ob <;> first | exact DM2.bif (DM2.gridg fun _ => DM2.rowg fun _ => DM.bind2 (dm_mkS _ _) (fun _ => DM2.pure _ _)) DM2.none | exact DM2.none
  | _ => exact DM2.none
 | _ => exact DM2.none
theorem dm_aStore (h : Nat → Option Ob) (ti : TI) (x y : S) : DM2 (aStore h ti x y) := by
 unfold aStore
 cases x with
 | c v =>
  cases v with
  | ptr l o =>
   simp only
   cases h l with
   | none => exact DM2.none
   | some ob =>
    cases ob with
    | box cs t => simp only; cases cellsOf y <;> first | exact DM2.bif (DM2.pure _ _) DM2.none | exact DM2.none
    | _ => exact DM2.none
  | eptr l sz i o =>
   simp only
   cases h l with
   | none => exact DM2.none
   | some ob =>
    cases ob with
    | row e sz' rows =>
     simp only
     refine DM2.bif ?_ DM2.none
     cases cellsOf y <;> first | exact DM2.rowg fun _ => DM2.bif (DM2.bind2 (dm_fz _ _) fun _ _ => DM2.pure _ _) DM2.none | exact DM2.none
    | _ => exact DM2.none
  | iptr l i sz j o c =>
   simp only
   cases h l with
   | none => exact DM2.none
   | some ob =>
    cases ob with
    | grid e e2 sz' ins =>
     simp only
     refine DM2.bif ?_ DM2.none
     cases cellsOf y <;> first | exact DM2.gridg fun _ => DM2.rowg fun _ => DM2.bif (DM2.bind2 (dm_fz _ _) fun _ _ => DM2.pure _ _) DM2.none | exact DM2.none
    | _ => exact DM2.none
  | _ => exact DM2.none
 | _ => exact DM2.none
theorem dm_aIndexAddr (h : Nat → Option Ob) (ei : TI) (x i : S) : DM2 (aIndexAddr h ei x i) := by
 unfold aIndexAddr
 cases i with
 | c i =>
  cases i with
  | int ki i =>
   simp only
   cases x with
   | c v =>
    cases v with
    | lst sz rows => exact DM2.bif (DM2.idx fun _ => DM2.pure _ _) DM2.none
    | row l =>
     simp only
     cases h l with
     | none => exact DM2.none
     | some ob => cases ob <;> first | exact DM2.bif (DM2.idx fun _ => DM2.pure _ _) DM2.none | exact DM2.bif (DM2.ask (DM2.pure _ _)) DM2.none | exact DM2.none
    | vw l =>
     simp only
     cases h l with
     | none => exact DM2.none
     | some ob => cases ob <;> first | exact DM2.bif (DM2.ask (DM2.pure _ _)) DM2.none | exact DM2.none
    | inn l q c =>
     simp only
     cases h l with
     | none => exact DM2.none
     | some ob => cases ob <;> first | exact DM2.bif (DM2.gridg fun _ => DM2.ask (DM2.pure _ _)) DM2.none | exact DM2.none
    | _ => exact DM2.none
   | _ => exact DM2.none
  | _ => exact DM2.none
 | _ => exact DM2.none
theorem dm_arrTI {α β : Type} (t : Nat) {F : Nat → TI → (α → β → Prop) → Prop} (h : ∀ n ei, DM2 (F n ei)) : DM2 (fun k => arrTI T t fun n ei => F n ei k) := by
 unfold arrTI
 cases getA T t with
 | none => exact DM2.none
 | some ti =>
  simp only
  cases ti.kind with
  | array n e => simp only; cases getA T e with
   | none => exact DM2.none
   | some ei => exact h n ei
  | _ => exact DM2.none
theorem dm_aIndexAt (h : Nat → Option Ob) (t : Nat) (x i : S) : DM2 (aIndexAt T h t x i) := by
 have base : DM2 (fun k => elemTI T t fun ei => aIndexAddr h ei x i k) := DM.bind2 (dm_elemTI t) fun ei => dm_aIndexAddr h ei x i
 unfold aIndexAt
 cases x with
 | c v =>
  cases v with
  | ptr l off =>
   refine dm_arrTI t fun n ei => ?_
   unfold aIdxArr
   cases i with
   | c i =>
    cases i with
    | int ki i => exact DM2.ask (DM2.pure _ _)
    | _ => exact DM2.none
   | _ => exact DM2.none
  | _ => exact base
 | _ => exact base
theorem dm_aAppend (h : Nat → Option Ob) (id e : Nat) (ei : TI) (x y : S) : DM2 (aAppend h id e ei x y) := by
 unfold aAppend
 refine DM.bind2 (dm_rowsOf h ei.size y) fun ys => ?_
 cases x with
 | c v =>
  cases v with
  | nils => exact DM2.ask (DM2.pure _ _)
  | row l =>
   simp only
   cases h l with
   | none => exact DM2.none
   | some ob => cases ob <;> first | exact DM2.bif (DM2.app (DM2.pure _ _) (DM2.pure _ _)) DM2.none | exact DM2.none
  | _ => exact DM2.none
 | _ => exact DM2.none
theorem dm_callOn (h : Nat → Option Ob) (id f : Nat) (ar : List S) : DM2 (callOn PC GD h id f ar) := by
 unfold callOn
 simp only [forceNs_eq]
 refine DM2.bif ?_ DM2.none
 refine DM.bind2 (dm_getAll _) fun os => DM.bind2 (dm_rnSs _) fun ar2 => DM.bind2 (dm_rnOs _) fun os2 => DM2.callg fun r os3 => DM.bind2 (dm_rnS _) fun r2 => DM.bind2 (dm_rnOs _) fun os4 => DM.bind2 (dm_zipCh _ _) fun ch => DM2.pure _ _
theorem dm_call (h : Nat → Option Ob) (id f : Nat) (ar : List S) : DM2 (call mt PC GD h id f ar) := by
 unfold call
 exact DM2.bif (dm_callOn _ _ _ _) (DM2.bind2 (dm_frzS _ _) fun _ _ => DM2.bind2 (dm_callOn _ _ _ _) fun _ _ => DM2.pure _ _)
theorem dm_aAppendV (h : Nat → Option Ob) (id e : Nat) (ei : TI) (x y : S) : DM2 (aAppendV h id e ei x y) := by
 unfold aAppendV
 cases x with
 | c v =>
  cases v with
  | vw l =>
   refine DM.bind2 (dm_rowsOf h ei.size y) fun ys => ?_
   cases h l with
   | none => exact DM2.none
   | some ob => cases ob <;> first | exact DM2.bif (DM2.ask (DM2.pure _ _)) DM2.none | exact DM2.none
  | _ => exact dm_aAppend h id e ei _ y
 | _ => exact dm_aAppend h id e ei _ y
theorem dm_aAppendG (h : Nat → Option Ob) (id e : Nat) (ei : TI) (x y : S) : DM2 (aAppendG h id e ei x y) := by
 unfold aAppendG
 cases x with
 | c v =>
  cases v with
  | row l =>
   simp only
   cases hob : h l with
   | none => exact dm_aAppendV h id e ei _ y
   | some ob =>
    cases ob with
    | grid e' e2 sz2 ins =>
     simp only
     cases y with
     | c y =>
      cases y with
      | row m =>
       simp only
       cases h m with
       | none => exact DM2.none
       | some ob2 => cases ob2 <;> first | exact DM2.bif (DM2.ask (DM2.pure _ _)) DM2.none | exact DM2.none
      | _ => exact DM2.none
     | _ => exact DM2.none
    | _ => exact dm_aAppendV h id e ei _ y
  | inn p i c =>
   simp only
   refine DM.bind2 (dm_rowsOf h ei.size y) fun ys => ?_
   cases h p with
   | none => exact DM2.none
   | some ob => cases ob <;> first | exact DM2.bif (DM2.ptake fun _ => DM2.ask (DM2.pure _ _)) DM2.none | exact DM2.none
  | _ => exact dm_aAppendV h id e ei _ y
 | _ => exact dm_aAppendV h id e ei _ y
theorem dm_aCall (h : Nat → Option Ob) (id : Nat) (f : S) (ar : List S) : DM2 (aCall mt PC GD h id f ar) := by
 unfold aCall
 cases f with
 | c v =>
  cases v with
  | fn g caps =>
   intro k hk
   simp only [forceSs_eq] at hk ⊢
   exact dm_call _ _ _ _ k hk
  | _ => exact DM2.none
 | _ => exact DM2.none

theorem dm_withT2 (t : Nat) : DM (withT2 T t) := by
 unfold withT2
 cases getA T t <;> first | exact DM.none | exact DM.pure _
theorem dm_putParts (pl : Nat → Option (Nat × Nat)) : ∀ (ps : List (Nat × S)) (cs : List V), DM (putParts pl ps cs)
 | [], cs => fun k hk => ⟨_, hk, fun _ h => h⟩
 | (i, v) :: r, cs => by
  intro k hk
  simp only [putParts] at hk ⊢
  cases hp : pl i with
  | none => simp [hp] at hk
  | some p =>
   simp only [hp] at hk ⊢
   cases hv : cellsOf v with
   | none => simp [hv] at hk
   | some vs =>
    simp only [hv] at hk ⊢
    cases hb : Nat.beq vs.length p.2 && Nat.ble (p.1 + vs.length) cs.length with
    | false => simp only [hb, cond_false] at hk
    | true =>
     simp only [hb, cond_true] at hk ⊢
     obtain ⟨y, h3, h4⟩ := dm_putParts pl r _ _ hk
     exact ⟨_, h3, fun k' hk' => h4 _ hk'⟩
theorem dm_aBuild (ti : TI) (is : List Nat) (vs : List S) : DM2 (aBuild T ti is vs) := by
 unfold aBuild
 cases ti.kind with
 | struct fs => exact DM.bind2 (dm_putParts _ _ _) fun cs => DM2.pure (S.agg cs) []
 | array n e => exact DM.bind2 (dm_withT2 _) fun ei => DM.bind2 (dm_putParts _ _ _) fun cs => DM2.pure (S.agg cs) []
 | _ => exact DM2.none
theorem dm_elemsOf (size : Nat) : ∀ (vs : List S), DM2 (elemsOf size vs)
 | [] => fun k hk => ⟨_, _, hk, fun _ h => h⟩
 | v :: r => by
  intro k hk
  simp only [elemsOf] at hk ⊢
  cases hv : cellsOf v with
  | none => simp [hv] at hk
  | some vs =>
   simp only [hv] at hk ⊢
   cases hb : Nat.beq vs.length size with
   | false => simp only [hb, cond_false] at hk
   | true =>
    simp only [hb, cond_true] at hk ⊢
    obtain ⟨x, y, h3, h4⟩ := dm_elemsOf size r _ hk
    exact ⟨_, _, h3, fun k' hk' => h4 _ hk'⟩
theorem dm_aBuildSlice (h : Nat → Option Ob) (id e : Nat) (ei : TI) (len : Nat) (is : List Nat) (vs : List S) : DM2 (aBuildSlice h id e ei len is vs) := by
 unfold aBuildSlice
 exact DM2.bif (DM2.bind2 (dm_elemsOf _ _) fun cs rows => DM2.bind2 (dm_fz _ _) fun _ _ => DM2.pure _ _) DM2.none
theorem dm_aField (ti : TI) (f : Nat) (x : S) : DM2 (aField T ti f x) := by
 unfold aField
 cases ti.kind with
 | struct fs =>
  simp only
  cases nth fs f with
  | none => exact DM2.none
  | some fo =>
   simp only
   cases x with
   | agg cs => exact DM.bind2 (dm_withT2 _) fun _ => DM.bind2 (dm_mkS _ _) fun _ => DM2.pure _ _
   | _ => exact DM2.none
 | _ => exact DM2.none
theorem dm_aIndex (ti : TI) (x i : S) : DM2 (aIndex T ti x i) := by
 unfold aIndex
 cases i with
 | c i =>
  cases i with
  | int ki i =>
   simp only
   cases ti.kind with
   | string =>
    simp only
    cases x with
    | c v => cases v <;> first | exact DM2.ask (DM2.pure _ _) | exact DM2.none
    | _ => exact DM2.none
   | array n e =>
    simp only
    cases x with
    | agg cs => exact DM2.ask (DM.bind2 (dm_withT2 _) fun _ => DM.bind2 (dm_mkS _ _) fun _ => DM2.pure _ _)
    | _ => exact DM2.none
   | _ => exact DM2.none
  | _ => exact DM2.none
 | _ => exact DM2.none
theorem dm_bounds (n : Nat) (lo hi : Option S) : DM2 (bounds n lo hi) := by
 intro k hk
 unfold bounds at hk
 split at hk
 ·exact ⟨_, _, hk, fun _ h => h⟩
 ·exact ⟨_, _, hk.p, fun _ h => ⟨hk.c, h⟩⟩
 ·exact ⟨_, _, hk.p, fun _ h => ⟨hk.c, h⟩⟩
 ·exact ⟨_, _, hk.p, fun _ h => ⟨hk.c, h⟩⟩
 ·exact hk.elim
theorem dm_bounds2 (n m : Nat) (lo hi : Option S) : DM2 (bounds2 n m lo hi) := by
 intro k hk
 unfold bounds2 at hk
 split at hk
 ·exact ⟨_, _, hk, fun _ h => h⟩
 ·exact ⟨_, _, hk.p, fun _ h => ⟨hk.c, h⟩⟩
 ·exact ⟨_, _, hk.p, fun _ h => ⟨hk.c, h⟩⟩
 ·exact ⟨_, _, hk.p, fun _ h => ⟨hk.c, h⟩⟩
 ·exact hk.elim
theorem dm_aSlice3 (h : Nat → Option Ob) (ei : TI) (x lo hi mx : S) : DM2 (aSlice3 h ei x lo hi mx) := by
 unfold aSlice3
 cases lo with
 | c v => cases v with
  | int => cases hi with
   | c v => cases v with
    | int => cases mx with
     | c v => cases v with
      | int => cases x with
       | c v => cases v with
        | row l =>
         simp only
         cases h l with
         | none => exact DM2.none
         | some ob => cases ob <;> first | exact DM2.bif (DM2.ask (DM2.pure _ _)) DM2.none | exact DM2.none
        | _ => exact DM2.none
       | _ => exact DM2.none
      | _ => exact DM2.none
     | _ => exact DM2.none
    | _ => exact DM2.none
   | _ => exact DM2.none
  | _ => exact DM2.none
 | _ => exact DM2.none
theorem DM2.sl {α β : Type} {F G : (α → β → Prop) → Prop} {p : Prop} {H : (α → β → Prop) → Prop} (h1 : DM2 F) (h2 : DM2 G) (h3 : DM2 H) : DM2 (fun k => SliceG (F k) (G k) (p ∧ H k)) := by
 intro k hk
 rcases hk with hk | hk | ⟨hp, hk⟩
 ·obtain ⟨x, y, g1, g2⟩ := h1 k hk; exact ⟨x, y, g1, fun k' hk' => .fr (g2 k' hk')⟩
 ·obtain ⟨x, y, g1, g2⟩ := h2 k hk; exact ⟨x, y, g1, fun k' hk' => .vw (g2 k' hk')⟩
 ·obtain ⟨x, y, g1, g2⟩ := h3 k hk; exact ⟨x, y, g1, fun k' hk' => .cut ⟨hp, g2 k' hk'⟩⟩
theorem dm_aClear (h : Nat → Option Ob) (ei : TI) (x : S) : DM2 (aClear h ei x) := by
 unfold aClear
 cases x with
 | c v =>
  cases v with
  | nils => exact DM2.pure _ _
  | row l =>
   simp only
   cases h l with
   | none => exact DM2.none
   | some ob => cases ob <;> first | exact DM2.bif (DM2.pure _ _) DM2.none | exact DM2.none
  | vw l =>
   simp only
   cases h l with
   | none => exact DM2.none
   | some ob => cases ob <;> first | exact DM2.bif (DM2.pure _ _) DM2.none | exact DM2.none
  | _ => exact DM2.none
 | _ => exact DM2.none
theorem dm_aCopy (h : Nat → Option Ob) (ei : TI) (x y : S) : DM2 (aCopy h ei x y) := by
 unfold aCopy
 refine DM.bind2 (dm_rowsOf h ei.size y) fun ys => ?_
 cases x with
 | c v =>
  cases v with
  | nils => exact DM2.pure _ _
  | row l =>
   simp only
   cases h l with
   | none => exact DM2.none
   | some ob => cases ob <;> first | exact DM2.bif (DM2.pure _ _) DM2.none | exact DM2.none
  | vw l =>
   simp only
   cases h l with
   | none => exact DM2.none
   | some ob => cases ob <;> first | exact DM2.bif (DM2.pure _ _) DM2.none | exact DM2.none
  | _ => exact DM2.none
 | _ => exact DM2.none
theorem dm_aSlice (h : Nat → Option Ob) (id : Nat) (kd : TK) (x : S) (lo hi : Option S) : DM2 (aSlice T h id kd x lo hi) := by
 unfold aSlice
 cases kd with
 | string =>
  simp only
  cases x with
  | c v => cases v <;> first | exact DM2.bind2 (dm_bounds _ _ _) fun _ _ => DM2.pure _ _ | exact DM2.none
  | _ => exact DM2.none
 | slice e =>
  simp only
  refine DM.bind2 (dm_withT2 _) fun ei => ?_
  cases x with
  | c v =>
   cases v with
   | lst sz rows => exact DM2.bif (DM2.bind2 (dm_bounds _ _ _) fun _ _ => DM2.pure _ _) DM2.none
   | nils => exact DM2.bind2 (dm_bounds _ _ _) fun _ _ => DM2.pure _ _
   | row l =>
    simp only
    cases h l with
    | none => exact DM2.none
    | some ob => cases ob <;> first | exact DM2.bif (DM2.bind2 (dm_bounds _ _ _) fun _ _ => DM2.pure _ _) DM2.none | exact DM2.bif (DM2.bind2 (dm_bounds _ _ _) fun _ _ => DM2.sl (DM2.pure _ _) (DM2.pure _ _) (DM2.pure _ _)) DM2.none | exact DM2.none
   | vw l =>
    simp only
    cases h l with
    | none => exact DM2.none
    | some ob => cases ob <;> first | exact DM2.bif (DM2.bind2 (dm_bounds2 _ _ _ _) fun _ _ => DM2.pure _ _) DM2.none | exact DM2.none
   | _ => exact DM2.none
  | _ => exact DM2.none
 | _ => exact DM2.none
theorem dm_aConvert (src dst : TK) (x : S) : DM2 (aConvert src dst x) := by
 intro k hk
 unfold aConvert at hk
 split at hk
 ·split at hk
  ·exact ⟨_, _, hk, fun _ h => h⟩
  ·exact hk.elim
 ·split at hk
  ·exact ⟨_, _, hk, fun _ h => h⟩
  ·exact hk.elim
 ·split at hk
  ·exact ⟨_, _, hk, fun _ h => h⟩
  ·exact hk.elim
 ·exact hk.elim
theorem dm_aNilCheck (x : S) : DM2 (aNilCheck x) := by
 unfold aNilCheck
 cases x with
 | c v => cases v <;> first | exact DM2.pure _ _ | exact DM2.none
 | _ => exact DM2.none
theorem dm_aMakeSlice (id e : Nat) (ei : TI) (x y : S) : DM2 (aMakeSlice id e ei x y) := by
 intro k hk
 unfold aMakeSlice at hk
 split at hk
 ·exact ⟨_, _, hk.p, fun _ h => ⟨hk.c, h⟩⟩
 ·exact hk.elim

theorem dm_aBin (op : BinOp) (t : Nat) (x y : S) : DM (aBin T op t x y) := by
 unfold aBin
 refine DM.bif ?_ (DM.bif ?_ (DM.bif ?_ (dm_bin op x y)))
 ·unfold aShift
  cases x with
  | c a =>
   cases y with
   | c b => cases a <;> cases b <;> first | exact DM.ask (DM.pure _) | exact DM.none
   | _ => cases a <;> exact DM.none
  | _ => exact DM.none
 ·unfold aBits
  cases x with
  | c a =>
   cases y with
   | c b => cases a <;> cases b <;> first | exact DM.bif (DM.pure _) DM.none | exact DM.none
   | _ => cases a <;> exact DM.none
  | _ => exact DM.none
 cases cellsT T t x with
 | none => exact DM.none
 | some xs =>
  simp only
  cases cellsT T t y with
  | none => exact DM.none
  | some ys =>
   simp only
   cases eqW T 6 t xs ys <;> first | exact DM.none | exact DM.pure _
theorem dm_aBinC (op : BinOp) (t : Nat) (y2 : Operand) (x y : S) : DM (aBinC T op t y2 x y) := by
 unfold aBinC
 refine DM.bif ?_ (dm_aBin op t x y)
 unfold aIfc
 cases getA T t with
 | none => exact DM.none
 | some ti =>
  simp only
  cases ti.kind with
  | iface =>
   simp only
   cases x with
   | c v => cases v <;> first | exact DM.pure _ | exact DM.none
   | _ => exact DM.none
  | _ => exact DM.none

theorem dm_aMin (x y : S) : DM2 (aMin x y) := by
 intro k hk
 unfold aMin at hk
 split at hk
 ·exact ⟨_, _, hk, fun _ h => h⟩
 ·exact hk.elim
theorem dm_aMax (x y : S) : DM2 (aMax x y) := by
 intro k hk
 unfold aMax at hk
 split at hk
 ·exact ⟨_, _, hk, fun _ h => h⟩
 ·exact ⟨_, _, hk, fun _ h => h⟩
 ·exact hk.elim
theorem dm_aSlice0 (h : Nat → Option Ob) (id e : Nat) (ei : TI) (x y z : S) : DM2 (aSlice0 h id e ei x y z) := by
 intro k hk
 unfold aSlice0 at hk ⊢
 split at hk
 ·simp only at hk ⊢
  split at hk
  ·split at hk
   ·exact ⟨_, _, hk, fun _ h => h⟩
   ·cases hq : Nat.beq _ ei.size with
    | false => simp [hq] at hk
    | true => simp only [hq, cond_true] at hk ⊢; exact ⟨_, _, hk, fun _ h => h⟩
   ·split at hk
    ·rename_i hob
     cases hq : Nat.beq _ ei.size with
     | false => simp [hq] at hk
     | true => simp only [hq, cond_true, hob] at hk ⊢; exact ⟨_, _, hk, fun _ h => h⟩
    ·rename_i hob
     cases hq : Nat.beq _ ei.size with
     | false => simp [hq] at hk
     | true => simp only [hq, cond_true, hob] at hk ⊢; exact ⟨_, _, hk, fun _ h => h⟩
    ·exact hk.elim
   ·exact hk.elim
  ·exact hk.elim
 ·exact hk.elim
theorem dm_mapT (t : Nat) : DM2 (mapT T t) := by
 unfold mapT
 cases getA T t with
 | none => exact DM2.none
 | some ti =>
  simp only
  cases ti.kind with
  | map kt e => simp only; cases getA T e <;> first | exact DM2.none | exact DM2.pure _ _
  | _ => exact DM2.none
theorem dm_zeroS (ti : TI) : DM (zeroS ti) := dm_mkS ti ti.zero
theorem dm_fzS (h : Nat → Option Ob) (s : S) : DM2 (fzS h s) := by
 intro k hk
 unfold fzS at hk ⊢
 cases s with
 | c v =>
  simp only at hk ⊢
  obtain ⟨x, y, h1, h2⟩ := dm_fz [v] h _ hk
  cases x with
  | nil => exact h1.elim
  | cons v' t =>
   cases t with
   | cons => exact h1.elim
   | nil => exact ⟨_, _, h1, fun k' hk' => h2 _ hk'⟩
 | agg v =>
  simp only at hk ⊢
  obtain ⟨x, y, h1, h2⟩ := dm_fz v h _ hk
  exact ⟨_, _, h1, fun k' hk' => h2 _ hk'⟩
 | tup => exact hk.elim
 | bot => exact hk.elim
theorem dm_keyFits {α β : Type} (t : Nat) (key : S) {G : (α → β → Prop) → Prop} (h : DM2 G) : DM2 (fun k => keyFits T t key (G k)) := by
 unfold keyFits
 cases getA T t with
 | none => exact DM2.none
 | some ti =>
  simp only
  cases ti.kind with
  | int => simp only; cases key with
   | c v => cases v <;> first | exact DM2.bif h DM2.none | exact DM2.none
   | _ => exact DM2.none
  | string => simp only; cases key with
   | c v => cases v <;> first | exact h | exact DM2.none
   | _ => exact DM2.none
  | struct fs => simp only; cases key with
   | agg cs =>
    simp only
    generalize leafVs cs = lf
    generalize eqW T 6 t cs cs = e
    cases lf with
    | false => simp only [cond_false]; exact DM2.none
    | true =>
     simp only [cond_true]
     cases e with
     | none => exact DM2.none
     | some b => exact h
   | _ => exact DM2.none
  | _ => exact DM2.none
theorem dm_aLookup (h : Nat → Option Ob) (kt : Nat) (ei : TI) (m key : S) (ok : Bool) : DM2 (aLookup T h kt ei m key ok) := by
 unfold aLookup
 refine dm_keyFits _ _ ?_
 cases m with
 | c v =>
  cases v with
  | mp l =>
   simp only
   cases h l with
   | none => exact DM2.none
   | some o => cases o <;> first | exact DM.bind2 (dm_zeroS _) fun _ => DM2.lookg fun _ _ => DM2.pure _ _ | exact DM2.none
  | nilm => exact DM.bind2 (dm_zeroS _) fun _ => DM2.pure _ _
  | _ => exact DM2.none
 | _ => exact DM2.none
theorem dm_aMapUpdate (h : Nat → Option Ob) (kt : Nat) (m key v : S) : DM2 (aMapUpdate T h kt m key v) := by
 unfold aMapUpdate
 refine dm_keyFits _ _ ?_
 cases m with
 | c v =>
  cases v with
  | mp l =>
   simp only
   cases h l with
   | none => exact DM2.none
   | some o =>
    cases o with
    | pmap q p clock es =>
     simp only
     cases v with
     | c v => cases v <;> first | exact DM2.updg fun _ _ => DM2.pure _ _ | exact DM2.none
     | _ => exact DM2.none
    | _ => first | exact DM2.bind2 (dm_fzS _ _) fun _ _ => DM2.updg fun _ _ => DM2.pure _ _ | exact DM2.none
  | _ => exact DM2.none
 | _ => exact DM2.none
theorem dm_aMapEntry (h : Nat → Option Ob) (kt : Nat) (ei : TI) (m key : S) : DM2 (aMapEntry T h kt ei m key) := by
 unfold aMapEntry
 refine dm_keyFits _ _ ?_
 cases m with
 | c v =>
  cases v with
  | mp l =>
   simp only
   cases h l with
   | none => exact DM2.none
   | some o => cases o <;> first | exact DM.bind2 (dm_zeroS _) fun _ => DM2.entg fun _ _ _ _ => DM2.pure _ _ | exact DM2.none
  | _ => exact DM2.none
 | _ => exact DM2.none
theorem dm_aEntryStore (h : Nat → Option Ob) (m s v : S) : DM2 (aEntryStore h m s v) := by
 unfold aEntryStore
 cases s with
 | c sv =>
  cases sv with
  | int ks s =>
   simp only
   cases m with
   | c v =>
    cases v with
    | mp l =>
     simp only
     cases h l with
     | none => exact DM2.none
     | some o =>
      cases o with
      | pmap q p clock es =>
       simp only
       cases v with
       | c v => cases v <;> first | exact DM2.stampg fun _ => DM2.pure _ _ | exact DM2.none
       | _ => exact DM2.none
      | _ => first | exact DM2.bind2 (dm_fzS _ _) fun _ _ => DM2.stampg fun _ => DM2.pure _ _ | exact DM2.none
    | _ => exact DM2.none
   | _ => exact DM2.none
  | _ => exact DM2.none
 | _ => exact DM2.none
theorem dm_aDelete (h : Nat → Option Ob) (kt : Nat) (m key : S) : DM2 (aDelete T h kt m key) := by
 unfold aDelete
 refine dm_keyFits _ _ ?_
 cases m with
 | c v =>
  cases v with
  | mp l =>
   simp only
   cases h l with
   | none => exact DM2.none
   | some o => cases o <;> first | exact DM2.delg fun _ => DM2.pure _ _ | exact DM2.none
  | _ => exact DM2.none
 | _ => exact DM2.none
theorem dm_aRange (h : Nat → Option Ob) (id : Nat) (m : S) : DM2 (aRange h id m) := by
 unfold aRange
 cases m with
 | c v =>
  cases v with
  | mp l =>
   simp only
   cases h l with
   | none => exact DM2.none
   | some o => cases o <;> first | exact DM2.pure _ _ | exact DM2.none
  | _ => exact DM2.none
 | _ => exact DM2.none
theorem dm_aEntry (h : Nat → Option Ob) (it : S) : DM2 (aEntry h it) := by
 unfold aEntry
 cases it with
 | c v =>
  cases v with
  | ptr j o =>
   simp only
   refine DM2.bif ?_ DM2.none
   cases h j with
   | none => exact DM2.none
   | some ob =>
    cases ob with
    | iter l since seen =>
     simp only
     cases seen with
     | nil => exact DM2.none
     | cons n r =>
      simp only
      cases h l with
      | none => exact DM2.none
      | some o => cases o <;> first | exact DM2.ask (DM2.entryg fun _ _ => DM2.pure _ _) | exact DM2.none
    | _ => exact DM2.none
  | _ => exact DM2.none
 | _ => exact DM2.none
theorem dm_aAppendS (h : Nat → Option Ob) (id t u : Nat) (x y : S) : DM2 (aAppendS T h id t u x y) := by
 unfold aAppendS
 cases getA T u with
 | none => exact DM2.none
 | some ui =>
  simp only
  cases ui.kind with
  | string =>
   simp only
   refine DM2.bind2 (dm_elemTIe _) fun e ei => ?_
   cases y with
   | c yv =>
    cases yv with
    | str s =>
     simp only
     cases x with
     | c v =>
      cases v with
      | nils => exact DM2.bif (DM2.ask (DM2.pure _ _)) DM2.none
      | row l =>
       simp only
       cases h l with
       | none => exact DM2.none
       | some ob => cases ob <;> first | exact DM2.bif (DM2.ask (DM2.pure _ _)) DM2.none | exact DM2.none
      | _ => exact DM2.none
     | _ => exact DM2.none
    | _ => exact DM2.none
   | _ => exact DM2.none
  | _ => exact DM2.none
theorem dm_aop (h : Nat → Option Ob) (id : Nat) (o : Op) (vs : List S) : DM2 (aop T mt PC h id o vs) := by
 unfold aop
 cases o with
 | alloc t =>
  simp only
  cases vs with
  | nil => exact DM.bind2 (dm_withT t) fun ti => DM2.pure (S.c (V.ptr id 0)) [(id, Ob.box ti.zero (boxT t ti.zero))]
  | cons => exact DM2.none
 | move x =>
  simp only
  cases vs with
  | nil => exact DM2.none
  | cons v r =>
   cases r with
   | nil => exact DM2.pure v []
   | cons => exact DM2.none
 | assign x =>
  simp only
  cases vs with
  | nil => exact DM2.none
  | cons v r =>
   cases r with
   | nil => exact DM2.pure v []
   | cons => exact DM2.none
 | pick a b c =>
  simp only
  cases vs with
  | nil => exact DM2.none
  | cons v r =>
   cases r with
   | nil => exact DM2.none
   | cons u r =>
    cases r with
    | nil => exact DM2.none
    | cons z r =>
     cases r with
     | nil => exact dm_aPick v u z
     | cons => exact DM2.none
 | box t x =>
  simp only
  cases vs with
  | nil => exact DM2.none
  | cons v r =>
   cases r with
   | nil => exact dm_aBox id v
   | cons => exact DM2.none
 | fieldAddr t x f =>
  simp only
  cases vs with
  | nil => exact DM2.none
  | cons v r =>
   cases r with
   | nil => exact DM.bind2 (dm_withT t) fun ti => dm_aFieldAddr ti f v
   | cons => exact DM2.none
 | load t x =>
  simp only
  cases vs with
  | nil => exact DM2.none
  | cons v r =>
   cases r with
   | nil => exact DM.bind2 (dm_withT t) fun ti => dm_aLoad h ti v
   | cons => exact DM2.none
 | store t x y =>
  simp only
  cases vs with
  | nil => exact DM2.none
  | cons v r =>
   cases r with
   | nil => exact DM2.none
   | cons u r =>
    cases r with
    | nil => exact DM.bind2 (dm_withT t) fun ti => dm_aStore h ti v u
    | cons => exact DM2.none
 | binOp op t x y t2 =>
  simp only
  cases vs with
  | nil => exact DM2.none
  | cons v r =>
   cases r with
   | nil => exact DM2.none
   | cons u r =>
    cases r with
    | nil => exact DM.bind2 (dm_aBinC op t y v u) fun _ => DM2.pure _ _
    | cons => exact DM2.none
 | unOp op t x =>
  simp only
  cases vs with
  | nil => exact DM2.none
  | cons v r =>
   cases r with
   | nil => exact dm_aUn op v
   | cons => exact DM2.none
 | indexAddr t x i =>
  simp only
  cases vs with
  | nil => exact DM2.none
  | cons v r =>
   cases r with
   | nil => exact DM2.none
   | cons u r =>
    cases r with
    | nil => exact dm_aIndexAt h t v u
    | cons => exact DM2.none
 | extract x i =>
  simp only
  cases vs with
  | nil => exact DM2.none
  | cons v r =>
   cases r with
   | nil => exact dm_aExtract v i
   | cons => exact DM2.none
 | makeMap t r =>
  simp only
  cases vs with
  | nil => exact DM2.bind2 (dm_mapT t) fun _ _ => DM2.pure _ _
  | cons => exact DM2.none
 | lookup t x y ok =>
  simp only
  rcases vs with _ | ⟨v, _ | ⟨u, _ | ⟨z, r⟩⟩⟩
  ·exact DM2.none
  ·exact DM2.none
  ·exact DM2.bind2 (dm_mapT t) fun kt ei => dm_aLookup h kt ei v u ok
  ·exact DM2.none
 | mapUpdate t x y z =>
  simp only
  rcases vs with _ | ⟨v, _ | ⟨u, _ | ⟨z, _ | ⟨y, r⟩⟩⟩⟩
  ·exact DM2.none
  ·exact DM2.none
  ·exact DM2.none
  ·exact DM2.bind2 (dm_mapT t) fun kt _ => dm_aMapUpdate h kt v u z
  ·exact DM2.none
 | insert t x y z =>
  simp only
  rcases vs with _ | ⟨v, _ | ⟨u, _ | ⟨z, _ | ⟨y, r⟩⟩⟩⟩
  ·exact DM2.none
  ·exact DM2.none
  ·exact DM2.none
  ·exact DM2.bind2 (dm_mapT t) fun kt _ => dm_aMapUpdate h kt v u z
  ·exact DM2.none
 | mapEntry t x y =>
  simp only
  rcases vs with _ | ⟨v, _ | ⟨u, _ | ⟨z, r⟩⟩⟩
  ·exact DM2.none
  ·exact DM2.none
  ·exact DM2.bind2 (dm_mapT t) fun kt ei => dm_aMapEntry h kt ei v u
  ·exact DM2.none
 | entryStore t x y z =>
  simp only
  rcases vs with _ | ⟨v, _ | ⟨u, _ | ⟨z, _ | ⟨y, r⟩⟩⟩⟩
  ·exact DM2.none
  ·exact DM2.none
  ·exact DM2.none
  ·exact dm_aEntryStore h v u z
  ·exact DM2.none
 | range t x =>
  simp only
  rcases vs with _ | ⟨v, _ | ⟨u, r⟩⟩
  ·exact DM2.none
  ·exact DM2.bind2 (dm_mapT t) fun _ _ => dm_aRange h id v
  ·exact DM2.none
 | entry x =>
  simp only
  rcases vs with _ | ⟨v, _ | ⟨u, r⟩⟩
  ·exact DM2.none
  ·exact dm_aEntry h v
  ·exact DM2.none
 | call c =>
  simp only
  cases c.callee with
  | invoke => exact DM2.none
  | value f =>
   simp only
   cases vs with
   | nil => exact DM2.none
   | cons f r => exact dm_aCall h id f r
  | builtin b =>
   cases b with
   | len =>
    simp only
    cases vs with
    | nil => exact DM2.none
    | cons v r =>
     cases r with
     | nil => exact DM.bind2 (dm_kindOf _) fun kd => DM.bind2 (dm_lenOf _ _ _) fun _ => DM2.pure _ _
     | cons => exact DM2.none
   | delete =>
    simp only
    rcases vs with _ | ⟨v, _ | ⟨u, _ | ⟨z, r⟩⟩⟩
    ·exact DM2.none
    ·exact DM2.none
    ·simp only
     cases c.argTypes.toList with
     | nil => exact DM2.none
     | cons t r => exact DM2.bind2 (dm_mapT t) fun kt _ => dm_aDelete h kt v u
    ·exact DM2.none
   | clear =>
    simp only
    rcases vs with _ | ⟨v, _ | ⟨u, r⟩⟩
    ·exact DM2.none
    ·simp only
     rcases c.argTypes.toList with _ | ⟨t, _ | ⟨t', r⟩⟩
     ·exact DM2.none
     ·exact DM2.bind2 (dm_elemTIe t) fun e ei => dm_aClear h ei v
     ·exact DM2.none
    ·exact DM2.none
   | copy =>
    simp only
    rcases vs with _ | ⟨v, _ | ⟨u, _ | ⟨z, r⟩⟩⟩
    ·exact DM2.none
    ·exact DM2.none
    ·simp only
     rcases c.argTypes.toList with _ | ⟨t, _ | ⟨t', _ | ⟨t2, r⟩⟩⟩
     ·exact DM2.none
     ·exact DM2.none
     ·exact DM2.bif (DM2.bind2 (dm_elemTIe t) fun e ei => dm_aCopy h ei v u) DM2.none
     ·exact DM2.none
    ·exact DM2.none
   | min =>
    simp only
    rcases vs with _ | ⟨v, _ | ⟨u, _ | ⟨z, r⟩⟩⟩
    ·exact DM2.none
    ·exact DM2.none
    ·exact dm_aMin v u
    ·exact DM2.none
   | max =>
    simp only
    rcases vs with _ | ⟨v, _ | ⟨u, _ | ⟨z, r⟩⟩⟩
    ·exact DM2.none
    ·exact DM2.none
    ·exact dm_aMax v u
    ·exact DM2.none
   | append =>
    simp only
    cases vs with
    | nil => exact DM2.none
    | cons v r =>
     cases r with
     | nil => exact DM2.none
     | cons u r =>
      cases r with
      | cons => exact DM2.none
      | nil =>
       simp only
       cases c.argTypes.toList with
       | nil => exact DM2.none
       | cons t r =>
        cases r with
        | nil => exact DM2.none
        | cons t' r =>
         cases r with
         | nil => exact DM2.bif (DM2.bind2 (dm_elemTIe _) fun e ei => dm_aAppendG h id e ei v u) (dm_aAppendS h id t t' v u)
         | cons => exact DM2.none
   | _ => exact DM2.none
 | build t ps => exact DM.bind2 (dm_withT t) fun ti => dm_aBuild ti _ vs
 | buildSlice t len ps => exact DM2.bind2 (dm_elemTIe t) fun e ei => dm_aBuildSlice h id e ei len _ vs
 | field t x f =>
  simp only
  rcases vs with _ | ⟨v, _ | ⟨u, r⟩⟩
  ·exact DM2.none
  ·exact DM.bind2 (dm_withT t) fun ti => dm_aField ti f v
  ·exact DM2.none
 | index t x i =>
  simp only
  rcases vs with _ | ⟨v, _ | ⟨u, _ | ⟨z, r⟩⟩⟩
  ·exact DM2.none
  ·exact DM2.none
  ·exact DM.bind2 (dm_withT t) fun ti => dm_aIndex ti v u
  ·exact DM2.none
 | convert src dst x =>
  simp only
  rcases vs with _ | ⟨v, _ | ⟨u, r⟩⟩
  ·exact DM2.none
  ·exact DM.bind2 (dm_withT src) fun si => DM.bind2 (dm_withT dst) fun di => dm_aConvert si.kind di.kind v
  ·exact DM2.none
 | nilCheck x =>
  simp only
  rcases vs with _ | ⟨v, _ | ⟨u, r⟩⟩
  ·exact DM2.none
  ·exact dm_aNilCheck v
  ·exact DM2.none
 | makeSlice t x y =>
  simp only
  rcases vs with _ | ⟨v, _ | ⟨u, _ | ⟨z, r⟩⟩⟩
  ·exact DM2.none
  ·exact DM2.none
  ·exact DM2.bind2 (dm_elemTIe t) fun e ei => dm_aMakeSlice id e ei v u
  ·exact DM2.none
 | makeFunc fn first cap =>
  cases fn with
  | func f =>
   simp only
   refine DM2.bif ?_ DM2.none
   cases oneV vs <;> first | exact DM2.none | exact DM2.pure _ _
  | _ => exact DM2.none
 | slice t x lo hi mx =>
  cases mx with
  | some m =>
   cases lo with
   | some =>
    cases hi with
    | none => exact DM2.none
    | some b =>
     simp only
     rcases vs with _ | ⟨v, _ | ⟨u, _ | ⟨z, _ | ⟨y, _ | ⟨q, r⟩⟩⟩⟩⟩
     ·exact DM2.none
     ·exact DM2.none
     ·exact DM2.none
     ·exact DM2.none
     ·exact DM2.bind2 (dm_elemTIe t) fun e ei => dm_aSlice3 h ei v u z y
     ·exact DM2.none
   | none =>
    cases hi with
    | none => exact DM2.none
    | some b =>
     simp only
     rcases vs with _ | ⟨v, _ | ⟨u, _ | ⟨z, _ | ⟨y, r⟩⟩⟩⟩
     ·exact DM2.none
     ·exact DM2.none
     ·exact DM2.none
     ·exact DM2.bind2 (dm_elemTIe t) fun e ei => dm_aSlice0 h id e ei v u z
     ·exact DM2.none
  | none =>
   cases lo with
   | none =>
    cases hi with
    | none =>
     simp only
     rcases vs with _ | ⟨v, _ | ⟨u, r⟩⟩
     ·exact DM2.none
     ·exact DM.bind2 (dm_withT t) fun ti => dm_aSlice h id ti.kind v none none
     ·exact DM2.none
    | some b =>
     simp only
     rcases vs with _ | ⟨v, _ | ⟨u, _ | ⟨z, r⟩⟩⟩
     ·exact DM2.none
     ·exact DM2.none
     ·exact DM.bind2 (dm_withT t) fun ti => dm_aSlice h id ti.kind v none (some u)
     ·exact DM2.none
   | some l =>
    cases hi with
    | none =>
     simp only
     rcases vs with _ | ⟨v, _ | ⟨u, _ | ⟨z, r⟩⟩⟩
     ·exact DM2.none
     ·exact DM2.none
     ·exact DM.bind2 (dm_withT t) fun ti => dm_aSlice h id ti.kind v (some u) none
     ·exact DM2.none
    | some b =>
     simp only
     rcases vs with _ | ⟨v, _ | ⟨u, _ | ⟨z, _ | ⟨y, r⟩⟩⟩⟩
     ·exact DM2.none
     ·exact DM2.none
     ·exact DM2.none
     ·exact DM.bind2 (dm_withT t) fun ti => dm_aSlice h id ti.kind v (some u) (some z)
     ·exact DM2.none
 | _ => exact DM2.none
end
end Abs
end Go.Proofs.YtkefgcleaalnnaaGreat

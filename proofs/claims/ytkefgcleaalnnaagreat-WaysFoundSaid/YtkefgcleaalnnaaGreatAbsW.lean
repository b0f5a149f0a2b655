/- Contracts used at a nil slice where they speak of a list. -/
import Derived.Test.YtkefgcleaalnnaaGreatAbsT
namespace Go.Proofs.YtkefgcleaalnnaaGreat
set_option linter.unusedVariables false
set_option linter.unusedSimpArgs false
namespace Abs

inductive WkV : V → V → Prop
 | refl (v : V) : WkV v v
 | nils (sz : Nat) : WkV .nils (.lst sz [])
 | tt : WkV .tt (.bool true)
 | ff : WkV .ff (.bool false)
 | deep (sz : Nat) (rows : List (List V)) (v : V) (h : DW (.lst sz rows) v) : WkV (.lst sz rows) v
inductive WkS : S → S → Prop
 | refl (s : S) : WkS s s
 | c {u v : V} (h : WkV u v) : WkS (.c u) (.c v)
 | agg {us vs : List V} (h : P2 WkV us vs) : WkS (.agg us) (.agg vs)

section
variable {P : Program} {F : Nat → Prop} {φ : Nat → Option Value} {w : World}
theorem RV.wk {c : Value} {u v : V} (hw : WkV u v) (h : RV F φ w c u) : RV F φ w c v := by
 cases hw with
 | refl => exact h
 | nils sz => cases h with | tree h => cases h; exact .tree (.lst0 none 0 sz (Nat.zero_le _))
 | tt => cases h with | tree h => cases h; exact .tree (.bool true)
 | ff => cases h with | tree h => cases h; exact .tree (.bool false)
 | deep sz rows v hd => cases h with | tree h => exact .tree (RT.dw hd h)
theorem RS.wk {c : Value} {u v : S} (hw : WkS u v) (h : RS F φ w c u) : RS F φ w c v := by
 cases hw with
 | refl => exact h
 | c hv => cases h with | c h => exact .c (h.wk hv)
 | agg hv =>
  cases h with | agg cs _ h =>
  refine .agg cs _ ⟨h.1.trans hv.1, fun j x y h1 h2 => ?_⟩
  obtain ⟨u, hu1, hu2⟩ := hv.get h2
  exact (h.2 j x u h1 hu1).wk hu2
theorem PCx.wk {f : Nat} {gs gs' : List S} {os : List Ob} {Q : S → List Ob → Prop} (h : PCx P f gs' os Q) (hw : P2 WkS gs gs') : PCx P f gs os Q := by
 refine ⟨h.1, fun F φ w cargs hp hr hφ => h.2 F φ w cargs ⟨hp.1.trans hw.1, fun j x y h1 h2 => ?_⟩ hr hφ⟩
 obtain ⟨u, hu1, hu2⟩ := hw.get h2
 exact (hp.2 j x u h1 hu1).wk hu2

def IsL {α : Type} (sz : Nat) (enc : α → List V) (l : List α) (v : V) : Prop := WkV v (.lst sz (l.map enc))
theorem IsL.lst {α : Type} (sz : Nat) (enc : α → List V) (l : List α) : IsL sz enc l (.lst sz (l.map enc)) := .refl _
theorem IsL.nils {α : Type} (sz : Nat) (enc : α → List V) : IsL sz enc [] .nils := WkV.nils sz
end
end Abs
end Go.Proofs.YtkefgcleaalnnaaGreat

/- The table of types, made out of the program. -/
import Derived.Test.YtkefgcleaalnnaaGreatAbsQ
namespace Go.Proofs.YtkefgcleaalnnaaGreat
set_option linter.unusedVariables false
set_option linter.unusedSimpArgs false
namespace Abs

def kindD (P : Program) : TypeDesc → Option TK
 | .int k => some (.int k)
 | .bool => some .bool
 | .string => some .string
 | .struct fields => bif fields.toList.all (fun f => match P.info? f.type with | some i => !Nat.beq i.size 0 | none => false) then some (.struct (fields.toList.map fun f => (f.offset, f.type))) else none
 | .array n e => some (.array n e)
 | .slice e => some (.slice e)
 | .map k e => some (.map k e)
 | .pointer _ => some .ptr
 | .func _ _ _ => some .func
 | .interface _ => some .iface
 | _ => some .other
def eqD (P : Program) (t : Nat) : TypeDesc → Bool
 | .struct fields => fields.toList.all (fun f => !(f.name == "_")) && (!P.stoodInHeld t && !P.eqGuardType P.depth t)
 | _ => false
def mkTI (P : Program) (t : Nat) : Option TI :=
 match P.info? t with
 | some i => match P.underlying t with
  | some d => match i.zero with
   | some z => match constVs z.cells.toList with
    | some zs => bif Nat.beq z.cells.size i.size then (match kindD P d with | some k => bif aggV z == isAggK k then some ⟨k, i.size, i.bytes, zs, eqD P t d⟩ else none | none => none) else none
    | none => none
   | none => none
  | none => none
 | none => none

theorem mkTI_ok {P : Program} {T : List (Nat × TI)} {t : Nat} {ti : TI} (h : mkTI P t = some ti) : TIok P T t ti := by
 unfold mkTI at h
 split at h <;> try (cases h; done)
 rename_i i hi
 split at h <;> try (cases h; done)
 rename_i d hd
 split at h <;> try (cases h; done)
 rename_i z hz
 split at h <;> try (cases h; done)
 rename_i zs hzs
 cases hq : Nat.beq z.cells.size i.size with
 | false => simp [hq] at h
 | true =>
  simp only [hq, cond_true] at h
  split at h <;> try (cases h; done)
  rename_i k hk
  cases hag : aggV z == isAggK k with
  | false => simp [hag] at h
  | true =>
  simp only [hag, cond_true] at h
  cases h
  refine ⟨i, z, d, hi, rfl, rfl, hz, ⟨beq_eqn hq, by simpa using hag⟩, hzs, hd, ?_⟩
  cases d <;> simp only [kindD, Option.some.injEq] at hk
  case struct fields =>
   cases hf : fields.toList.all (fun f => match P.info? f.type with | some i => !Nat.beq i.size 0 | none => false) with
   | false => simp [hf] at hk
   | true =>
    simp only [hf, cond_true, Option.some.injEq] at hk
    subst hk
    refine ⟨fields, rfl, ⟨rfl, ?_, ?_⟩, ?_⟩
    ·intro fld hfl
     have h1 := List.all_eq_true.1 hf fld hfl
     cases hi' : P.info? fld.type with
     | none => simp [hi'] at h1
     | some i' => exact ⟨i', rfl⟩
    ·intro he
     simp only [eqD, Bool.and_eq_true, Bool.not_eq_true', List.all_eq_true] at he
     exact ⟨fun f hf => by simpa using he.1 f hf, he.2.1, he.2.2⟩
    intro f fo hfo
    rw [nth_eq, List.getElem?_map] at hfo
    cases hfl : fields.toList[f]? with
    | none => simp [hfl] at hfo
    | some fld =>
     simp only [hfl, Option.map_some, Option.some.injEq] at hfo
     subst hfo
     have h1 := List.all_eq_true.1 hf fld (List.mem_of_getElem? hfl)
     cases hi' : P.info? fld.type with
     | none => simp [hi'] at h1
     | some i' =>
      simp only [hi'] at h1
      refine ⟨fld, i', by rw [← Array.getElem?_toList]; exact hfl, rfl, rfl, hi', ?_⟩
      intro e
      rw [e] at h1; simp at h1
  all_goals (subst hk; first | rfl | exact ⟨_, rfl⟩ | exact ⟨_, _, _, rfl⟩)
theorem tab_ok {P : Program} {ts : List Nat} {T : List (Nat × TI)} (h1 : T = ts.map fun t => (t, (mkTI P t).getD ⟨.other, 0, 0, [], false⟩)) (h2 : ts.all (fun t => (mkTI P t).isSome) = true) : TabOK P T := by
 intro t ti ht
 have key : ∀ (us : List Nat), us.all (fun t => (mkTI P t).isSome) = true → getA (us.map fun t => (t, (mkTI P t).getD ⟨.other, 0, 0, [], false⟩)) t = some ti → mkTI P t = some ti := by
  intro us
  induction us with
  | nil => intro _ h; simp [getA] at h
  | cons u r ih =>
   intro ha h
   simp only [List.all_cons, Bool.and_eq_true] at ha
   simp only [List.map_cons, getA, beq_dec] at h
   by_cases e : u = t
   ·subst e
    simp only [decide_true, cond_true, Option.some.injEq] at h
    cases hm : mkTI P u with
    | none => rw [hm] at ha; simp at ha
    | some ti' => rw [hm] at h; simp at h; rw [h]
   ·simp only [e, decide_false, cond_false] at h
    exact ih ha.2 h
 exact mkTI_ok (key ts h2 (h1 ▸ ht))
end Abs
end Go.Proofs.YtkefgcleaalnnaaGreat

/-
  Entries of a wheel as cells: a name and a time.
-/
import Derived.Test.YtogfllhbgkeinaaAdw
set_option linter.unusedVariables false
set_option linter.unusedSimpArgs false
namespace Go.Proofs.Ytogfllhbgkeinaa.Wheel
open Go.RowKit Base Lev Wa Eng Wb Spc

def ecells (e : Ent) : List Value := [.string e.1, .int .i64 e.2]
def ents (M : List Ent) : List Value := M.flatMap ecells
theorem ents_len (M : List Ent) : (ents M).length = M.length * 2 := by
  induction M with
  | nil => rfl
  | cons e M ih => simp only [ents, List.flatMap_cons, List.length_append] at ih ⊢; simp [ecells, ih]; omega
theorem ents_one (M : List Ent) : ∀ v ∈ ents M, v.oneCell' = true := fun v hv => by
  obtain ⟨e, _, he⟩ := List.mem_flatMap.1 hv
  simp only [ecells, List.mem_cons, List.not_mem_nil, or_false] at he
  rcases he with rfl | rfl <;> rfl
theorem ents_append (M N : List Ent) : ents (M ++ N) = ents M ++ ents N := by simp [ents]
end Go.Proofs.Ytogfllhbgkeinaa.Wheel

/-
  == of arrays of numbers.
-/
import Derived.Test.YtogfllhbgkeinaaList
import Derived.Laws.StructEq
set_option linter.unusedVariables false
set_option linter.unusedSimpArgs false
namespace Go.Proofs.Ytogfllhbgkeinaa.Eng
open Go.RowKit Base
variable {P : Program} {l : Fr} {w : World} {T : TypeId} {x y : Operand}

def ivals (k : IntKind) (a : List Int) : Array Value := (a.map (Value.int k)).toArray
theorem run_part_int {e : TypeId} {k : IntKind} (he : P.underlying e = some (.int k)) (a : List Int) (i : Nat) (h : i < a.length) (w : World) : (part e (ivals k a) i).run P w = .ok (.int k a[i]) w := by
  have : (ivals k a)[i]? = some (.int k a[i]) := by simp [ivals, h]
  simp [part, isAgg, run_underlying he, this, Result.andThen]
theorem run_equalIn_ints (d D : Nat) (hD : D = d + 1) {len e : Nat} {k : IntKind} (ht : P.underlying T = some (.array len e)) (he : P.underlying e = some (.int k)) (hs : sizeOK P e 1 = true) (a b : List Int) (ha : a.length = len) (hb : b.length = len) (w : World) :
    (Op.equalIn (D + 1) T (.agg (ivals k a)) (.agg (ivals k b))).run P w = .ok (decide (a = b)) w := by
  have h1 := run_sizeOf (P := P) (w := w) hs
  simp only [Op.equalIn, Sem.run_bind, run_underlying ht, Result.andThen_ok, h1, Nat.mul_one]
  simp only [Std.Legacy.Range.forIn_eq_forIn_range', Std.Legacy.Range.size]
  have key : ∀ (n s : Nat), s + n = len → (∀ j (h1 : j < a.length) (h2 : j < b.length), j < s → a[j] = b[j]) →
      ((forIn (List.range' s n) ((none, ()) : Option Bool × Unit) fun i _ => do
        let u ← part e (ivals k a) i
        let v ← part e (ivals k b) i
        let r ← Op.equalIn D e u v
        if (!r) = true then pure (ForInStep.done (some false, ())) else pure (ForInStep.yield (none, ())) : Sem _).run P w) = .ok (if a = b then (none, ()) else (some false, ())) w := by
    intro n
    induction n with
    | zero =>
      intro s hs heq
      have : a = b := List.ext_getElem (by omega) fun j h1 h2 => heq j h1 h2 (by omega)
      simp [this]
    | succ n ih =>
      intro s hs heq
      have hsa : s < a.length := by omega
      have hsb : s < b.length := by omega
      simp only [List.range'_succ, List.forIn_cons, Sem.run_bind, run_part_int he a s hsa, run_part_int he b s hsb, Result.andThen_ok, hD, run_equalIn_int w d e k k _ _ he]
      by_cases h : a[s] = b[s]
      · simp only [h, beq_self_eq_true, Bool.not_true, Bool.false_eq_true, if_false, Sem.run_pure, Result.andThen_ok]
        rw [← hD]
        exact ih (s + 1) (by omega) fun j h1 h2 hj => by
          by_cases e : j = s
          · subst e; exact h
          · exact heq j h1 h2 (by omega)
      · have h2 : (a[s] == b[s]) = false := by simp [h]
        have h3 : a ≠ b := fun e => h (by simp only [e])
        simp [h2, h3, Result.andThen]
  have hk := key len 0 (by omega) fun j _ _ h => by omega
  have e0 : (len - 0 + 1 - 1) / 1 = len := by simp
  rw [e0]
  by_cases h : a = b
  · rw [if_pos h] at hk
    rw [hk, decide_eq_true h]
    simp only [Result.andThen_ok, Sem.run_pure]
  · rw [if_neg h] at hk
    rw [hk, decide_eq_false h]
    simp only [Result.andThen_ok, Sem.run_pure]

class TPlainEq (P : Program) (T : TypeId) : Prop where h : P.eqGuardType P.depth T = false
class TIntArr (P : Program) (T : TypeId) (len : outParam Nat) (k : outParam IntKind) : Prop where
  ex : ∃ e, P.underlying T = some (.array len e) ∧ P.underlying e = some (.int k) ∧ sizeOK P e 1 = true
theorem e_aeq {len : Nat} {k : IntKind} {a b : List Int} {T' : TypeId} [c : TIntArr P T len k] [g : TPlainEq P T] (hx : ev l x = some (.agg (ivals k a))) (hy : ev l y = some (.agg (ivals k b))) (ha : a.length = len) (hb : b.length = len) :
    Eg P l (.binOp .eql T x y T') w (.bool (decide (a = b))) := fun ρ h d t p af q k₀ => by
  obtain ⟨e, h1, h2, h3⟩ := c.ex
  have := run_equalIn_ints (P := P) (T := T) 9998 9999 rfl h1 h2 h3 a b ha hb (dn w k₀)
  simp [execOp, h x _ hx, h y _ hy, run_eqGuard_agg (P := P) (dn w k₀) .eql T x y _ _ g.h, run_eql_struct, this, Result.andThen]
end Go.Proofs.Ytogfllhbgkeinaa.Eng

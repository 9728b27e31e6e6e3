/-
  The rings' law without a program: the rings' sum is all; what lies in a ring or above it never grows as time goes on.
-/
import Derived.Test.YtogfllhbgkeinaaMoved
set_option linter.unusedVariables false
set_option linter.unusedSimpArgs false
namespace Go.Proofs.Ytogfllhbgkeinaa.Wheel
open Go.RowKit Base Lev Wa Eng Wb Spc

/-- how many names lie in ring k or above -/
def hi (now : Nat) (M : List Ent) (k : Nat) : Nat := (M.filter fun e => decide (k ≤ level e.2 now)).length
theorem hi_step (now : Nat) (M : List Ent) (k : Nat) : hi now M k = cnt now M k + hi now M (k + 1) := by
  unfold hi cnt
  induction M with
  | nil => rfl
  | cons e M ih =>
    simp only [List.filter_cons]
    by_cases h1 : level e.2 now = k
    · have h2 : k ≤ level e.2 now := by omega
      have h3 : ¬ k + 1 ≤ level e.2 now := by omega
      simp only [h1, h2, h3, decide_true, decide_false, if_true, List.length_cons, Bool.false_eq_true, if_false, Nat.le_refl] at ih ⊢
      have h4 : ¬ k + 1 ≤ k := by omega
      simp only [h4, decide_false, Bool.false_eq_true, if_false]
      omega
    · by_cases h2 : k ≤ level e.2 now
      · have h3 : k + 1 ≤ level e.2 now := by omega
        simp only [h1, h2, h3, decide_true, decide_false, if_true, List.length_cons, Bool.false_eq_true, if_false] at ih ⊢
        omega
      · have h3 : ¬ k + 1 ≤ level e.2 now := by omega
        simp only [h1, h2, h3, decide_true, decide_false, if_true, List.length_cons, Bool.false_eq_true, if_false] at ih ⊢
        omega
theorem hi_zero (now : Nat) (M : List Ent) : hi now M 0 = M.length := by
  unfold hi
  rw [List.filter_eq_self.2 fun e _ => by simp]
theorem lv6 {a b : Nat} (ha : a ≤ 1099511627776) (hb : b ≤ 1099511627776) : level a b ≤ 6 := by
  have h7 : (64 : Nat) ^ 7 = 4398046511104 := by decide
  exact level_small (by omega) (by omega)
theorem hi_top {now : Nat} {M : List Ent} (hn : now ≤ 1099511627776) (h : ∀ e ∈ M, e.2 ≤ 1099511627776) : hi now M 7 = 0 := by
  unfold hi
  rw [List.filter_eq_nil_iff.2 fun e he => by have := lv6 (h e he) hn; simp; omega]
  rfl
/-- the first rings' sum -/
def sumTo (now : Nat) (M : List Ent) : Nat → Nat
  | 0 => 0
  | k + 1 => sumTo now M k + cnt now M k
theorem sumTo_hi (now : Nat) (M : List Ent) : ∀ k, sumTo now M k + hi now M k = M.length
  | 0 => by rw [hi_zero]; simp [sumTo]
  | k + 1 => by
    have := sumTo_hi now M k
    rw [hi_step] at this
    unfold sumTo; omega
theorem sum_all {now : Nat} {M : List Ent} (hn : now ≤ 1099511627776) (h : ∀ e ∈ M, e.2 ≤ 1099511627776) : sumTo now M 7 = M.length := by
  have := sumTo_hi now M 7
  rw [hi_top hn h] at this
  exact this
theorem filter_mono {α : Type} {p q : α → Bool} : ∀ {L : List α}, (∀ x ∈ L, p x = true → q x = true) → (L.filter p).length ≤ (L.filter q).length
  | [], _ => by simp
  | x :: L, h => by
    have ih := filter_mono (L := L) fun y hy => h y (List.mem_cons_of_mem _ hy)
    have hx := h x List.mem_cons_self
    simp only [List.filter_cons]
    cases hp : p x with
    | true => rw [hx hp]; simpa using ih
    | false =>
      cases q x <;> simp <;> omega
theorem hi_falls {now to : Nat} {M : List Ent} (hs : Srt M) (h : now ≤ to) (k : Nat) : hi to (rest to M) k ≤ hi now M k := by
  rw [rest_filter hs]
  unfold hi
  rw [List.filter_filter]
  refine filter_mono fun e he hp => ?_
  simp only [Bool.and_eq_true, decide_eq_true_eq, Bool.not_eq_true', decide_eq_false_iff_not] at hp ⊢
  have := level_falls (t := e.2) h (by omega)
  omega
theorem lap_rest (to : Nat) (M : List Ent) : (lap to M).length + (rest to M).length = M.length := by
  unfold lap rest
  have := congrArg List.length (List.takeWhile_append_dropWhile (p := fun e : Ent => decide (e.2 ≤ to)) (l := M))
  rw [List.length_append] at this
  exact this
theorem spread_get (now : Nat) (M : List Ent) {k : Nat} (h : k < 7) : (ints (spreadL now M))[k]? = some (.int .i64 (cnt now M k)) := by
  unfold ints spreadL
  rw [List.getElem?_map, List.getElem?_map, List.getElem?_range h]; rfl
theorem spread_len (now : Nat) (M : List Ent) : (ints (spreadL now M)).length = 7 := by simp [ints, spreadL]
end Go.Proofs.Ytogfllhbgkeinaa.Wheel

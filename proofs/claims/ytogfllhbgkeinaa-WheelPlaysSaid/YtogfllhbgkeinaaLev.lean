/-
  Plain arithmetic of the wheel's rings: the highest digit of base 64 in which two times differ. No program in sight.
-/
import Derived.Below
namespace Go.Proofs.Ytogfllhbgkeinaa.Lev

/-- how often a number can be divided by 64 till it is 0 -/
def lv (x : Nat) : Nat := if h : x = 0 then 0 else lv (x / 64) + 1
termination_by x
decreasing_by omega

theorem lv_zero : lv 0 = 0 := by unfold lv; rfl
theorem lv_pos {x : Nat} (h : x ≠ 0) : lv x = lv (x / 64) + 1 := by
  conv => lhs; unfold lv
  rw [dif_neg h]

theorem lv_le : ∀ (n x : Nat), lv x ≤ n ↔ x < 64 ^ n
  | 0, x => by
    by_cases h : x = 0
    · subst h; simp [lv_zero]
    · rw [lv_pos h]; simp; omega
  | n + 1, x => by
    by_cases h : x = 0
    · subst h; simp [lv_zero]; exact Nat.pow_pos (by omega)
    · rw [lv_pos h]
      have := lv_le n (x / 64)
      rw [Nat.add_le_add_iff_right, this, Nat.div_lt_iff_lt_mul (by omega), Nat.pow_succ]

/-- two numbers agree from digit n + 1 on -/
def Agree (n a b : Nat) : Prop := a / 64 ^ (n + 1) = b / 64 ^ (n + 1)

theorem xor_lt (a b k : Nat) : a ^^^ b < 2 ^ k ↔ a / 2 ^ k = b / 2 ^ k := by
  have h : (a ^^^ b) / 2 ^ k = a / 2 ^ k ^^^ b / 2 ^ k := by
    rw [← Nat.shiftRight_eq_div_pow, ← Nat.shiftRight_eq_div_pow, ← Nat.shiftRight_eq_div_pow, Nat.shiftRight_xor_distrib]
  have hp : 0 < 2 ^ k := Nat.pow_pos (by omega)
  constructor
  · intro hlt
    have : (a ^^^ b) / 2 ^ k = 0 := Nat.div_eq_of_lt hlt
    rw [h] at this
    have e : (a / 2 ^ k ^^^ b / 2 ^ k) ^^^ b / 2 ^ k = 0 ^^^ b / 2 ^ k := by rw [this]
    rwa [Nat.xor_assoc, Nat.xor_self, Nat.xor_zero, Nat.zero_xor] at e
  · intro he
    have : (a ^^^ b) / 2 ^ k = 0 := by rw [h, he, Nat.xor_self]
    rcases Nat.lt_or_ge (a ^^^ b) (2 ^ k) with h1 | h1
    · exact h1
    · have := Nat.div_pos h1 hp; omega

theorem pow64 (n : Nat) : 64 ^ n = 2 ^ (6 * n) := by
  rw [Nat.pow_mul]

/-- the ring of a time as the present one has it -/
def level (a b : Nat) : Nat := lv ((a ^^^ b) / 64)

theorem level_le (n a b : Nat) : level a b ≤ n ↔ Agree n a b := by
  unfold level Agree
  rw [lv_le, Nat.div_lt_iff_lt_mul (by omega), ← Nat.pow_succ, pow64, xor_lt]

theorem level_self (a : Nat) : level a a = 0 := Nat.le_zero.1 ((level_le 0 a a).2 rfl)
theorem level_comm (a b : Nat) : level a b = level b a := by unfold level; rw [Nat.xor_comm]

theorem Agree.symm {n a b : Nat} (h : Agree n a b) : Agree n b a := Eq.symm h
theorem Agree.trans {n a b c : Nat} (h : Agree n a b) (k : Agree n b c) : Agree n a c := Eq.trans h k
theorem Agree.mono {n m a b : Nat} (h : Agree n a b) (hm : n ≤ m) : Agree m a b := (level_le m a b).1 (Nat.le_trans ((level_le n a b).2 h) hm)

theorem level_small {a b : Nat} (ha : a < 64 ^ 7) (hb : b < 64 ^ 7) : level a b ≤ 6 := by
  rw [level_le]; unfold Agree; rw [Nat.div_eq_of_lt ha, Nat.div_eq_of_lt hb]

theorem level_eq {n a b : Nat} (h : Agree n a b) (k : ∀ m, m + 1 = n → ¬ Agree m a b) : level a b = n := by
  have h1 := (level_le n a b).2 h
  rcases Nat.lt_or_ge (level a b) n with h2 | h2
  · exact absurd ((level_le (n - 1) a b).1 (by omega)) (k (n - 1) (by omega))
  · omega
theorem not_agree {n m a b : Nat} (h : level a b = n) (hm : m < n) : ¬ Agree m a b := fun k => by
  have := (level_le m a b).2 k; omega
theorem agree_level (a b : Nat) : Agree (level a b) a b := (level_le _ _ _).1 (Nat.le_refl _)

/-- digit r of a number -/
def digit (r a : Nat) : Nat := a / 64 ^ r % 64
theorem digit_lt (r a : Nat) : digit r a < 64 := Nat.mod_lt _ (by omega)
theorem div_split (r a : Nat) : a / 64 ^ r = 64 * (a / 64 ^ (r + 1)) + digit r a := by
  unfold digit
  rw [Nat.pow_succ, ← Nat.div_div_eq_div_mul]
  omega

theorem lt_of_div_lt {a b m : Nat} (h : a / m < b / m) : a < b := by
  rcases Nat.lt_or_ge a b with h1 | h1
  · exact h1
  · have := Nat.div_le_div_right (c := m) h1; omega

/-- a time that is farther off than the digit that turns stays where it is -/
theorem far_stays {now to t : Nat} (hnow : now < t) (h : level to now < level t now) : level t to = level t now ∧ to < t := by
  have hm := agree_level to now
  have hn : ¬ Agree (level to now) t now := not_agree rfl h
  refine ⟨level_eq ((agree_level t now).trans (hm.mono (by omega)).symm) fun m hm' ha => ?_, ?_⟩
  · exact not_agree (rfl : level t now = _) (by omega) (ha.trans (hm.mono (by omega)))
  · unfold Agree at hm hn
    have := Nat.div_le_div_right (c := 64 ^ (level to now + 1)) (Nat.le_of_lt hnow)
    exact lt_of_div_lt (m := 64 ^ (level to now + 1)) (by omega)

/-- in the ring of the digit that turns: a time with a higher digit stays -/
theorem high_stays {now to t : Nat} (h : level t now = level to now) (hd : digit (level to now) to < digit (level to now) t) : level t to = level t now ∧ to < t := by
  have hm := agree_level to now
  have ht : Agree (level to now) t now := h ▸ agree_level t now
  have hne : to / 64 ^ level to now < t / 64 ^ level to now := by
    rw [div_split, div_split (level to now) t]
    have : t / 64 ^ (level to now + 1) = to / 64 ^ (level to now + 1) := ht.trans hm.symm
    omega
  refine ⟨level_eq (h ▸ ht.trans hm.symm) fun m hm' ha => ?_, lt_of_div_lt hne⟩
  have e : m + 1 = level to now := by omega
  unfold Agree at ha
  rw [e] at ha
  omega

/-- what has lapsed lies in a ring up to the one whose digit turns, there in a slot up to the new digit -/
theorem lapsed_falls {now to t : Nat} (hnow : now < t) (hto : t ≤ to) :
    level t now ≤ level to now ∧ (level t now = level to now → digit (level to now) t ≤ digit (level to now) to) := by
  constructor
  · rcases Nat.lt_or_ge (level to now) (level t now) with h | h
    · have := (far_stays hnow h).2; omega
    · exact h
  · intro h
    rcases Nat.lt_or_ge (digit (level to now) to) (digit (level to now) t) with h1 | h1
    · have := (high_stays h h1).2; omega
    · exact h1

/-- a lower ring's times are ahead of a higher one's -/
theorem ring_lt {now a b : Nat} (hb : now < b) (h : level a now < level b now) : a < b := by
  have h1 : Agree (level a now) a now := agree_level a now
  have h2 : ¬ Agree (level a now) b now := not_agree rfl h
  unfold Agree at h1 h2
  have := Nat.div_le_div_right (c := 64 ^ (level a now + 1)) (Nat.le_of_lt hb)
  exact lt_of_div_lt (m := 64 ^ (level a now + 1)) (by omega)
/-- in one ring a lower slot's times are ahead of a higher one's -/
theorem slot_lt {now a b : Nat} (h : level a now = level b now) (hd : digit (level a now) a < digit (level a now) b) : a < b := by
  have h1 := agree_level a now
  have h2 := agree_level b now
  rw [← h] at h2
  have : a / 64 ^ level a now < b / 64 ^ level a now := by
    rw [div_split, div_split (level a now) b]
    have : a / 64 ^ (level a now + 1) = b / 64 ^ (level a now + 1) := h1.trans h2.symm
    omega
  exact lt_of_div_lt this
/-- as the present time goes on a name's ring never rises -/
theorem level_falls {now to t : Nat} (h1 : now ≤ to) (h2 : to ≤ t) : level t to ≤ level t now := by
  rw [level_le]
  have h := agree_level t now
  unfold Agree at h ⊢
  have := Nat.div_le_div_right (c := 64 ^ (level t now + 1)) h1
  have := Nat.div_le_div_right (c := 64 ^ (level t now + 1)) h2
  omega

end Go.Proofs.Ytogfllhbgkeinaa.Lev

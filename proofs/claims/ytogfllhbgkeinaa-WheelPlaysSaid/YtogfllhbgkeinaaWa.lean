/-
  The wheel's small functions, walked: isTime, isName, level, ahead, place.
-/
import Derived.Test.YtogfllhbgkeinaaRows
import Derived.Test.YtogfllhbgkeinaaBase
import Derived.Test.YtogfllhbgkeinaaLev
import Derived.WalkKit
import Derived.WalkSpells
import Derived.WalkLawsBesides
import Derived.BigQuiet
import Derived.Deep.QuietTactic
import Derived.StillTailTactics
set_option linter.unusedVariables false
set_option linter.unusedSimpArgs false
namespace Go.Proofs.Ytogfllhbgkeinaa.Wa
open Go.RowKit Base Lev

theorem ret_int {k : IntKind} {a b : Int} (h : a = b) : Ending.returned (.int k a) = .returned (.int k b) := by rw [h]
theorem ret_bool {a b : Bool} (h : a = b) : Ending.returned (.bool a) = .returned (.bool b) := by rw [h]
def isTime (n : Int) : Bool := decide (0 ≤ n) && decide (n ≤ 1099511627776)
def isName (s : ByteArray) : Bool := decide (1 ≤ s.size) && decide (s.size ≤ 64)
theorem isTime_nat {n : Int} (h : isTime n = true) : ∃ m : Nat, n = m ∧ m ≤ 1099511627776 := by
  unfold isTime at h
  simp only [Bool.and_eq_true, decide_eq_true_eq] at h
  exact ⟨n.toNat, by omega, by omega⟩
theorem isName_iff {s : ByteArray} : isName s = true ↔ 1 ≤ s.size ∧ s.size ≤ 64 := by simp [isName]

set_option maxHeartbeats 400000 in
theorem isTime_any (n : Int) (w : World) : Calls Try.prog 30 #[.int .i64 n] w fun e w' => e = .returned (.bool (isTime n)) ∧ w = w' := by
  go_enter Try.func30, Try.ntmps30
  go_wp2
  all_goals go_ret
  · have h : 0 ≤ n := by assumption
    exact ⟨ret_bool (by simp [isTime, h]), rfl⟩
  · have h : n < 0 := by assumption
    exact ⟨ret_bool (by have : ¬ 0 ≤ n := by omega
                        simp [isTime, this]), rfl⟩

set_option maxHeartbeats 400000 in
theorem isName_any (s : ByteArray) (w : World) : Calls Try.prog 34 #[.string s] w fun e w' => e = .returned (.bool (isName s)) ∧ w = w' := by
  go_enter Try.func34, Try.ntmps34
  go_wp2
  all_goals go_ret
  · have h : 1 ≤ (s.size : Int) := by assumption
    have h' : 1 ≤ s.size := by omega
    exact ⟨ret_bool (by simp [isName, h']; omega), rfl⟩
  · have h : (s.size : Int) < 1 := by assumption
    have h' : ¬ 1 ≤ s.size := by omega
    exact ⟨ret_bool (by simp [isName, h']), rfl⟩

theorem i64_in' (n : Int) (h₀ : 0 ≤ n) (h₁ : n < 2 ^ 62) : IntKind.i64.wrap n = n := IntWalk.i64_in n (by omega)
theorem xor_i64 (a b : Nat) (ha : a < 4611686018427387904) (hb : b < 4611686018427387904) : bits .xor .i64 (a : Int) (b : Int) = ((a ^^^ b : Nat) : Int) := by
  have hx : a ^^^ b < 2 ^ 62 := Nat.xor_lt_two_pow (by omega) (by omega)
  have h1 : (BitVec.ofInt 64 (a : Int)).toNat = a := by
    rw [BitVec.ofInt_natCast, BitVec.toNat_ofNat]; exact Nat.mod_eq_of_lt (by omega)
  have h2 : (BitVec.ofInt 64 (b : Int)).toNat = b := by
    rw [BitVec.ofInt_natCast, BitVec.toNat_ofNat]; exact Nat.mod_eq_of_lt (by omega)
  show IntKind.i64.wrap ((BitVec.ofInt 64 (a : Int) ^^^ BitVec.ofInt 64 (b : Int)).toNat : Int) = _
  rw [BitVec.toNat_xor, h1, h2]
  exact IntWalk.i64_in _ (by omega)
theorem digit_i64 (r t : Nat) (ht : t < 4611686018427387904) : bits .and .i64 ((t : Int) / 2 ^ (6 * (r : Int)).toNat) 63 = ((digit r t : Nat) : Int) := by
  have e : (6 * (r : Int)).toNat = 6 * r := by omega
  have e2 : (t : Int) / 2 ^ (6 * r) = ((t / 64 ^ r : Nat) : Int) := by
    rw [pow64]; simp
  rw [e, e2]
  have hle : t / 64 ^ r ≤ t := Nat.div_le_self _ _
  unfold digit
  generalize t / 64 ^ r = q at *
  have := bits_mask .i64 62 (by decide) i64_in' 6 (by decide) (q : Int) (by omega) (by omega)
  rw [show (63 : Int) = 2 ^ 6 - 1 from by decide, this]
  simp

set_option maxHeartbeats 400000 in
theorem level_any (a b : Nat) (w : World) (ha : a < 4611686018427387904) (hb : b < 4611686018427387904) : Calls Try.prog 31 #[.int .i64 a, .int .i64 b] w fun e w' => e = .returned (.int .i64 (level a b : Nat)) ∧ w = w' := by
  have hx := xor_i64 a b ha hb
  have hxl : a ^^^ b < 2 ^ 62 := Nat.xor_lt_two_pow (by omega) (by omega)
  have hll : (level a b : Nat) ≤ 62 := by
    unfold level; rw [lv_le]; refine Nat.lt_of_le_of_lt (Nat.div_le_self _ _) (Nat.lt_of_lt_of_le hxl ?_); decide
  go_enter Try.func31, Try.ntmps31
  go_wp2
  go_loop [5, 6] (fun n x => ∃ k v : Nat, k + lv v = level a b ∧ v < 2 ^ 62 ∧ n = .int .i64 k ∧ x = .int .i64 v) (fun _ x => (intOf x).toNat)
  case atStart => exact ⟨0, (a ^^^ b) / 64, by simp [level], by omega, rfl, by simp⟩
  case round =>
    obtain ⟨k, v, hk, hv, rfl, rfl⟩ := hrel
    by_cases h0 : v = 0
    · subst h0
      go_wp2
      go_ret
      rw [lv_zero] at hk
      exact ⟨ret_int (by first | omega | (simp; omega)), rfl⟩
    · have hne : ((v : Int) != 0) = true := by rw [bne_iff_ne]; omega
      have hlv := lv_pos h0
      have hkb : (k : Int) ≤ 62 := by omega
      have HK := Lib.hid hk
      have HL := Lib.hid hlv
      clear hk hlv
      go_wp2
      go_round
      case rel =>
        have := HK.out
        rw [HL.out] at this
        exact ⟨k + 1, v / 64, by omega, by omega, by go_num, by simp⟩
      case measure => simp [intOf]; omega

theorem level_still (a b : Nat) (w : World) (ha : a < 4611686018427387904) (hb : b < 4611686018427387904) : Calls Try.prog 31 #[.int .i64 a, .int .i64 b] w fun e w' => e = .returned (.int .i64 (level a b : Nat)) ∧ w' = w :=
  (level_any a b w ha hb).mono fun _ _ ⟨h, k⟩ => ⟨h, k.symm⟩

set_option maxHeartbeats 400000 in
set_option maxRecDepth 100000 in
theorem place_any (wb tb : Nat) (r t : Nat) (w : World) (hr : r < 7) (ht : t ≤ 1099511627776)
    (h1 : w.cell? ⟨tb, 1, none⟩ = some (.int .i64 t)) (h2 : w.cell? ⟨tb, 2, none⟩ = some (.int .i64 r)) :
    Calls Try.prog 51 #[.pointer (some ⟨wb, 0, none⟩), .pointer (some ⟨tb, 0, none⟩)] w fun e w' => e = .returned (.pointer (some ⟨wb, 1 + r * 64 + digit r t, none⟩)) ∧ w' = w.drew := by
  have hd := digit_i64 r t (by omega)
  have hdl := digit_lt r t
  have hm : IntKind.i64.wrap (6 * (r : Int)) = 6 * r := IntWalk.i64_in _ (by omega)
  have b1 : (0 : Int) ≤ (r : Int) := by omega
  have b2 : (r : Int) < 7 := by omega
  have b3 : (0 : Int) ≤ 6 * (r : Int) := by omega
  have b4 : 6 * (r : Int) ≤ 64 := by omega
  have b5 : (0 : Int) ≤ (digit r t : Nat) := by omega
  have b6 : ((digit r t : Nat) : Int) < 64 := by omega
  go_enter Try.func51, Try.ntmps51
  go_wp2
  go_still (by kernel_rfl)
  go_wp2
  go_ret
  exact ⟨by simp, rfl⟩
end Go.Proofs.Ytogfllhbgkeinaa.Wa

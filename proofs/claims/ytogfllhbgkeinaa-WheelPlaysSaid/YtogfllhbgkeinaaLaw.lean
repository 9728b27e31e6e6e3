/-
  The statements' own small functions: within, few, name, texts.
-/
import Derived.Test.YtogfllhbgkeinaaAdz
set_option linter.unusedVariables false
set_option linter.unusedSimpArgs false
namespace Go.Proofs.Ytogfllhbgkeinaa.Wheel
open Go.RowKit Base Lev Wa Eng Wb Spc
open Go.ChangeMaps (setBlock)

/-! ### within -/
def within (x lo hi : Int) : Int := lo + (if x < 0 then -(x + 1) else x) % (hi - lo + 1)
theorem within_in {x lo hi : Int} (h : lo ≤ hi) : lo ≤ within x lo hi ∧ within x lo hi ≤ hi := by
  unfold within
  have h1 := Int.emod_nonneg (if x < 0 then -(x + 1) else x) (show hi - lo + 1 ≠ 0 by omega)
  have h2 := Int.emod_lt_of_pos (if x < 0 then -(x + 1) else x) (show 0 < hi - lo + 1 by omega)
  omega
theorem within_ret (x lo hi : Int) (w : World) (hx : -9223372036854775808 ≤ x ∧ x ≤ 9223372036854775807) (h0 : 0 ≤ lo) (h1 : lo ≤ hi) (h2 : hi ≤ 4611686018427387904) :
    Ret Try.prog 7 #[.int .i64 x, .int .i64 lo, .int .i64 hi] w fun v w' => v = .int .i64 (within x lo hi) ∧ w' = w := by
  refine ret_of (vs := [_, _, _]) Try.func7 rfl Try.ntmps7 rfl fun _ => ?_
  obtain ⟨y, hy⟩ : ∃ y : Int, y = if x < 0 then -(x + 1) else x := ⟨_, rfl⟩
  have hy0 : 0 ≤ y ∧ y ≤ 9223372036854775807 := by rw [hy]; split <;> omega
  have hm1 := Int.emod_nonneg y (show hi - lo + 1 ≠ 0 by omega)
  have hm2 := Int.emod_lt_of_pos y (show 0 < hi - lo + 1 by omega)
  refine q_seq (q_reg (s_get rfl (e_assign rfl) (s_end (x_then ?_))))
  refine q_seq (q_seq (q_reg (s_get rfl (e_move rfl) (s_get rfl (e_lss rfl rfl) (s_end (x_then ?_))))))
  refine q_join [(0, .int .i64 y), (1, .int .i64 lo), (2, .int .i64 hi)] w ?_ ?_
  · refine q_dec rfl (fun h => ?_) fun h => ?_
    ·
      refine q_reg (s_get rfl (e_move rfl) (s_get rfl (e_add rfl rfl (by first | omega | (dsimp only; omega))) (s_get rfl (e_neg64 rfl (by first | omega | (dsimp only; omega))) (s_get rfl (e_assign rfl) (s_end (x_join ⟨by rw [hy, if_pos h]; rfl, rfl, rfl, trivial⟩))))))
    · exact q_skip (x_join ⟨by rw [hy, if_neg h]; rfl, rfl, rfl, trivial⟩)
  refine q_seq (q_reg (s_get rfl (e_move rfl) (s_get rfl (e_move rfl) (s_get rfl (e_move rfl) (s_get rfl (e_move rfl) (s_get rfl (e_sub rfl rfl (by first | omega | (dsimp only; omega))) (s_get rfl (e_add rfl rfl (by first | omega | (dsimp only; omega))) (s_get rfl (e_remP rfl rfl (by omega) (by omega)) (s_get rfl (e_add rfl rfl (by first | omega | (dsimp only; omega))) (s_get rfl (e_assign rfl) (s_end (x_then ?_))))))))))))
  exact q_ret (x_ret1 (.inl rfl) rfl rfl ⟨by unfold within; rw [← hy], rfl⟩)

/-! ### name -/
def letters : ByteArray := ⟨#[97, 98, 99, 100, 101, 102, 103, 104, 105, 106, 107, 108, 109, 110, 111, 112, 113, 114, 115, 116, 117, 118, 119, 120, 121, 122]⟩
def name (n : Nat) : ByteArray := letters.extract (n / 676 % 26) (n / 676 % 26 + 1) ++ letters.extract (n / 26 % 26) (n / 26 % 26 + 1) ++ letters.extract (n % 26) (n % 26 + 1)
theorem letter (d : Nat) (h : d < 26) : letters.extract d (d + 1) = ⟨#[UInt8.ofNat (97 + d)]⟩ := by
  have : ∀ d : Fin 26, letters.extract d.1 (d.1 + 1) = ⟨#[UInt8.ofNat (97 + d.1)]⟩ := by decide
  exact this ⟨d, h⟩
theorem name_eq (n : Nat) : (name n).data.toList = [UInt8.ofNat (97 + n / 676 % 26), UInt8.ofNat (97 + n / 26 % 26), UInt8.ofNat (97 + n % 26)] := by
  unfold name
  rw [letter _ (Nat.mod_lt _ (by omega)), letter _ (Nat.mod_lt _ (by omega)), letter _ (Nat.mod_lt _ (by omega))]
  rfl
theorem name_isName (n : Nat) : isName (name n) = true := by
  have h : (name n).size = 3 := by
    have := congrArg List.length (name_eq n)
    simpa using this
  rw [isName_iff, h]; omega
theorem ofNat_inj {a b : Nat} (ha : a < 26) (hb : b < 26) (h : UInt8.ofNat (97 + a) = UInt8.ofNat (97 + b)) : a = b := by
  have := congrArg UInt8.toNat h
  simp at this
  omega
theorem name_inj {i j : Nat} (hi : i < 17576) (hj : j < 17576) (h : name i = name j) : i = j := by
  have e := name_eq i
  rw [h, name_eq j] at e
  simp only [List.cons.injEq, and_true] at e
  have h1 := ofNat_inj (Nat.mod_lt _ (by omega)) (Nat.mod_lt _ (by omega)) e.1
  have h2 := ofNat_inj (Nat.mod_lt _ (by omega)) (Nat.mod_lt _ (by omega)) e.2.1
  have h3 := ofNat_inj (Nat.mod_lt _ (by omega)) (Nat.mod_lt _ (by omega)) e.2.2
  omega
theorem name_ret (n : Nat) (w : World) (hn : n ≤ 9223372036854775807) : Ret Try.prog 12 #[.int .i64 n] w fun v w' => v = .string (name n) ∧ w' = w := by
  refine ret_of (vs := [_]) Try.func12 rfl Try.ntmps12 rfl fun _ => ?_
  have hs : letters.size = 26 := rfl
  refine q_seq (q_reg (s_get rfl (e_assign rfl) (s_end (x_then ?_))))
  refine q_seq (d_begin (fun _ => True) [] (d_pure (i := 0) rfl rfl rfl (by kernel_rfl) (fun w' => (e_move rfl)) (d_pure (i := 1) rfl rfl rfl (by kernel_rfl) (fun w' => (e_quoP rfl rfl (by omega) (by omega) (by omega))) (d_pure (i := 2) rfl rfl rfl (by kernel_rfl) (fun w' => (e_remP rfl rfl (by omega) (by omega))) (d_pure (i := 3) rfl rfl rfl (by kernel_rfl) (fun w' => (e_move rfl)) (d_pure (i := 4) rfl rfl rfl (by kernel_rfl) (fun w' => (e_quoP rfl rfl (by omega) (by omega) (by omega))) (d_pure (i := 5) rfl rfl rfl (by kernel_rfl) (fun w' => (e_remP rfl rfl (by omega) (by omega))) (d_pure (i := 6) rfl rfl rfl (by kernel_rfl) (fun w' => (e_add rfl rfl (by first | omega | (dsimp only; omega)))) (d_pure (i := 7) rfl rfl rfl (by kernel_rfl) (fun w' => (e_strLH rfl rfl rfl (by first | omega | (dsimp only; omega)) (by first | omega | (dsimp only; omega)) (by show _ ≤ ((26 : Nat) : Int); omega))) (d_pure (i := 8) rfl rfl rfl (by kernel_rfl) (fun w' => (e_move rfl)) (d_pure (i := 9) rfl rfl rfl (by kernel_rfl) (fun w' => (e_quoP rfl rfl (by omega) (by omega) (by omega))) (d_pure (i := 10) rfl rfl rfl (by kernel_rfl) (fun w' => (e_remP rfl rfl (by omega) (by omega))) (d_pure (i := 11) rfl rfl rfl (by kernel_rfl) (fun w' => (e_move rfl)) (d_pure (i := 12) rfl rfl rfl (by kernel_rfl) (fun w' => (e_quoP rfl rfl (by omega) (by omega) (by omega))) (d_pure (i := 13) rfl rfl rfl (by kernel_rfl) (fun w' => (e_remP rfl rfl (by omega) (by omega))) (d_pure (i := 14) rfl rfl rfl (by kernel_rfl) (fun w' => (e_add rfl rfl (by first | omega | (dsimp only; omega)))) (d_pure (i := 15) rfl rfl rfl (by kernel_rfl) (fun w' => (e_strLH rfl rfl rfl (by first | omega | (dsimp only; omega)) (by first | omega | (dsimp only; omega)) (by show _ ≤ ((26 : Nat) : Int); omega))) (d_pure (i := 16) rfl rfl rfl (by kernel_rfl) (fun w' => (e_scat rfl rfl (by first | omega | (simp only [ByteArray.size_append, ByteArray.size_extract]; omega)))) (d_pure (i := 17) rfl rfl rfl (by kernel_rfl) (fun w' => (e_move rfl)) (d_pure (i := 18) rfl rfl rfl (by kernel_rfl) (fun w' => (e_remP rfl rfl (by omega) (by omega))) (d_pure (i := 19) rfl rfl rfl (by kernel_rfl) (fun w' => (e_move rfl)) (d_pure (i := 20) rfl rfl rfl (by kernel_rfl) (fun w' => (e_remP rfl rfl (by omega) (by omega))) (d_pure (i := 21) rfl rfl rfl (by kernel_rfl) (fun w' => (e_add rfl rfl (by first | omega | (dsimp only; omega)))) (d_pure (i := 22) rfl rfl rfl (by kernel_rfl) (fun w' => (e_strLH rfl rfl rfl (by first | omega | (dsimp only; omega)) (by first | omega | (dsimp only; omega)) (by show _ ≤ ((26 : Nat) : Int); omega))) (d_pure (i := 23) rfl rfl rfl (by kernel_rfl) (fun w' => (e_scat rfl rfl (by first | omega | (simp only [ByteArray.size_append, ByteArray.size_extract]; omega)))) (d_pure (i := 24) rfl rfl rfl (by kernel_rfl) (fun w' => (e_assign rfl)) (d_end (by kernel_rfl) (x_then ?_))))))))))))))))))))))))))))
  refine q_ret (x_ret1 (.inl rfl) rfl rfl ⟨?_, rfl⟩)
  have e1 : ((n : Int) / 676 % 26).toNat = n / 676 % 26 := by omega
  have e2 : ((n : Int) / 676 % 26 + 1).toNat = n / 676 % 26 + 1 := by omega
  have e3 : ((n : Int) / 26 % 26).toNat = n / 26 % 26 := by omega
  have e4 : ((n : Int) / 26 % 26 + 1).toNat = n / 26 % 26 + 1 := by omega
  have e5 : ((n : Int) % 26).toNat = n % 26 := by omega
  have e6 : ((n : Int) % 26 + 1).toNat = n % 26 + 1 := by omega
  show Value.string (letters.extract ((n : Int) / 676 % 26).toNat ((n : Int) / 676 % 26 + 1).toNat ++ letters.extract ((n : Int) / 26 % 26).toNat ((n : Int) / 26 % 26 + 1).toNat ++ letters.extract ((n : Int) % 26).toNat ((n : Int) % 26 + 1).toNat) = _
  rw [e1, e2, e3, e4, e5, e6]; rfl

/-! ### Lists that are read -/
inductive Rd (w : World) (sz : Nat) : Option Addr → Nat → Nat → List Value → Option Nat → Prop
  | empty {a : Option Addr} {cap : Nat} {b : Option Nat} : Rd w sz a 0 cap [] b
  | at {b off len cap : Nat} {cs : List Value} (hb : b < w.heap.size) (hc : len ≤ cap) (hl : cs.length = len * sz) (hv : Cells w b off cs) : Rd w sz (some ⟨b, off, none⟩) len cap cs (some b)
section
variable {w : World} {sz : Nat} {a : Option Addr} {len cap : Nat} {cs : List Value} {b : Option Nat}
theorem Rd.length (h : Rd w sz a len cap cs b) : cs.length = len * sz := by cases h <;> simp_all
theorem Rd.le (h : Rd w sz a len cap cs b) : len ≤ cap := by cases h <;> simp_all
theorem Rd.ext {w' : World} (h : Rd w sz a len cap cs b) (k : Ext w w') : Rd w' sz a len cap cs b := by
  cases h with
  | empty => exact .empty
  | «at» hb hc hl hv => exact .at (Nat.lt_of_lt_of_le hb k.size) hc hl (k.cells hv)
theorem Rd.pos (h : Rd w sz a len cap cs b) (hp : 0 < len) : ∃ k off, a = some ⟨k, off, none⟩ ∧ k < w.heap.size ∧ Cells w k off cs ∧ True := by
  cases h with
  | empty => omega
  | «at» hb hc hl hv => exact ⟨_, _, rfl, hb, hv, trivial⟩
theorem Rd.head (h : Rd w sz a len cap cs b) {u : Nat} (hu : u ≤ len) : Rd w sz a u cap (cs.take (u * sz)) b := by
  cases h with
  | empty =>
    obtain rfl : u = 0 := by omega
    simpa using Rd.empty (w := w) (sz := sz)
  | «at» hb hc hl hv =>
    refine .at hb (by omega) ?_ fun j v hj => hv j v ?_
    · rw [List.length_take, hl, Nat.min_eq_left (Nat.mul_le_mul_right _ hu)]
    · rw [List.getElem?_take] at hj
      split at hj
      · exact hj
      · cases hj
theorem Sl.rd {e : Nat} (h : Sl w e sz a len cap cs b) : Rd w sz a len cap cs b := by
  cases h with
  | nil => exact .empty
  | «at» hb hs hc hl hv h1 => exact .at (lt_of_at hb) hc hl fun j v hj => by rw [cell_of hb]; exact hv j v hj
end

/-! ### few, texts -/
theorem few_ret {a : Option Addr} {len cap : Nat} {cs : List Value} {b : Option Nat} {w : World} (hs : Rd w 1 a len cap cs b) :
    Ret Try.prog 8 #[.slice a len cap] w fun v w' => w' = w ∧ ∃ a', v = .slice a' (min len 400) cap ∧ Rd w 1 a' (min len 400) cap (cs.take 400) b := by
  have hle := hs.le
  refine ret_of (vs := [_]) Try.func8 rfl Try.ntmps8 rfl fun _ => ?_
  refine q_seq (q_reg (s_get rfl (e_assign rfl) (s_end (x_then ?_))))
  refine q_seq (q_seq (q_reg (s_get rfl (e_move rfl) (s_get rfl (e_len rfl) (s_get rfl (e_gtr rfl rfl) (s_end (x_then ?_)))))))
  refine q_dec rfl (fun h => ?_) fun h => ?_
  ·
    refine q_seq (q_reg (s_get rfl (e_move rfl) (s_get rfl (e_slH rfl rfl (by first | omega | (dsimp only; omega)) (by first | omega | (dsimp only; omega))) (s_get rfl (e_assign rfl) (s_end (x_then ?_))))))
    refine q_ret (x_then_ret (x_ret1 (.inl rfl) rfl rfl ⟨rfl, ?_⟩))
    have hm : min len 400 = 400 := by omega
    have hh := hs.head (u := 400) (by omega)
    rw [hm]
    refine ⟨_, rfl, ?_⟩
    rw [if_neg (show ¬ cap = 0 by omega)]
    have ha : a.map (·.add (0 * 1)) = a := by cases a <;> simp [Addr.add]
    rw [ha]
    exact hh
  · refine q_skip (x_then ?_)
    refine q_seq (q_reg (s_get rfl (e_move rfl) (s_get rfl (e_assign rfl) (s_end (x_then ?_)))))
    refine q_ret (x_ret1 (.inl rfl) rfl rfl ⟨rfl, ?_⟩)
    have hm : min len 400 = len := by omega
    have hl := hs.length
    rw [hm, List.take_of_length_le (by omega)]
    exact ⟨_, rfl, hs⟩
theorem strs_get {l : List ByteArray} {i : Nat} (h : i < l.length) : (strs l)[i]? = some (.string l[i]) := by
  unfold strs; rw [List.getElem?_map, List.getElem?_eq_getElem h]; rfl
theorem texts_ret {a a2 : Option Addr} {n n2 cap cap2 : Nat} {l l2 : List ByteArray} {b b2 : Option Nat} {w : World} (hs : Sl w 9 1 a n cap (strs l) b) (hs2 : Sl w 9 1 a2 n2 cap2 (strs l2) b2) (hn : n ≤ 1073741824) :
    Ret Try.prog 16 #[.slice a n cap, .slice a2 n2 cap2] w fun v w' => v = .bool (decide (l = l2)) ∧ w' = w := by
  have hl : l.length = n := by have := hs.length; simpa [strs] using this
  have hl2 : l2.length = n2 := by have := hs2.length; simpa [strs] using this
  refine ret_of (vs := [_, _]) Try.func16 rfl Try.ntmps16 rfl fun _ => ?_
  refine q_seq (q_reg (s_get rfl (e_assign rfl) (s_end (x_then ?_))))
  refine q_seq (q_seq (q_reg (s_get rfl (e_move rfl) (s_get rfl (e_len rfl) (s_get rfl (e_move rfl) (s_get rfl (e_len rfl) (s_get rfl (e_neq rfl rfl) (s_end (x_then ?_)))))))))
  refine q_dec rfl (fun h => ?_) fun h => ?_
  ·
    refine q_seq (q_reg (s_get rfl (e_assign rfl) (s_end (x_then ?_))))
    refine q_ret (x_then_ret (x_ret1 (.inl rfl) rfl rfl ⟨?_, rfl⟩))
    rw [decide_eq_false (fun e => h (by rw [← hl, ← hl2, e]))]
  · have hnn : n = n2 := by
      have : (n : Int) = n2 := Decidable.not_not.1 h
      omega
    refine q_skip (x_then ?_)
    refine q_seq (q_seq (q_reg (s_get rfl (e_assign rfl) (s_end (x_then ?_)))))
    refine q_block ?_
    refine q_loop (α := Nat) (fun i => [(0, .slice a n cap), (1, .slice a2 n2 cap2), (5, .int .i64 (i : Nat))]) (fun i w' => w' = w ∧ i ≤ n ∧ ∀ (j : Nat) (h1 : j < l.length) (h2 : j < l2.length), j < i → l[j] = l2[j]) (fun i => n - i) 0 ⟨rfl, rfl, rfl, trivial⟩ ⟨rfl, by omega, fun j _ _ h => by omega⟩ ?_
    rintro i w ⟨rfl, hi, heq⟩
    refine q_seq (q_seq (q_reg (s_get rfl (e_move rfl) (s_get rfl (e_move rfl) (s_get rfl (e_len rfl) (s_get rfl (e_lss rfl rfl) (s_end (x_then ?_))))))))
    refine q_dec rfl (fun h => ?_) fun h => ?_
    · have hi : i < n := by omega
      refine q_skip (x_then ?_)
      refine q_seq (q_block ?_)
      obtain ⟨k, off, rfl, -, hc, -⟩ := hs.pos (by omega)
      obtain ⟨k2, off2, rfl, -, hc2, -⟩ := hs2.pos (by omega)
      have c1 := hc i _ (strs_get (l := l) (i := i) (by omega))
      have c2 := hc2 i _ (strs_get (l := l2) (i := i) (by omega))
      refine q_seq (d_begin (Ext _) [3, 7] (d_pure (i := 0) rfl rfl rfl (by kernel_rfl) (fun w' => (e_move rfl)) (d_pure (i := 1) rfl rfl rfl (by kernel_rfl) (fun w' => (e_move rfl)) (d_pure (i := 2) rfl rfl rfl (by kernel_rfl) (fun w' => (e_idxAt (off+i) rfl rfl (by first | omega | (dsimp only; omega)) (by first | omega | (dsimp only; omega)) (by first | omega | (dsimp only; omega)))) (d_head (i := 3) rfl rfl rfl (by kernel_rfl) (by kernel_rfl) (Ext.refl _) (fun w' hS => (e_ld rfl (hS.cell c1))) (d_pure (i := 4) rfl rfl rfl (by kernel_rfl) (fun w' => (e_move rfl)) (d_pure (i := 5) rfl rfl rfl (by kernel_rfl) (fun w' => (e_move rfl)) (d_pure (i := 6) rfl rfl rfl (by kernel_rfl) (fun w' => (e_idxAt (off2+i) rfl rfl (by first | omega | (dsimp only; omega)) (by first | omega | (dsimp only; omega)) (by first | omega | (dsimp only; omega)))) (d_head (i := 7) rfl rfl rfl (by kernel_rfl) (by kernel_rfl) (Ext.refl _) (fun w' hS => (e_ld rfl (hS.cell c2))) (d_pure (i := 8) rfl rfl rfl (by kernel_rfl) (fun w' => (e_sne rfl rfl)) (d_end (by kernel_rfl) (x_then ?_))))))))))))
      refine q_dec rfl (fun h => ?_) fun h => ?_
      ·
        refine q_seq (q_reg (s_get rfl (e_assign rfl) (s_end (x_then ?_))))
        refine q_ret (x_block_ret (x_then_ret (x_then_ret (x_block_ret (x_then_ret (x_ret1 (.inl rfl) rfl rfl ⟨?_, rfl⟩))))))
        rw [decide_eq_false (fun e => h (by simp only [e]))]
      · refine q_skip (x_block_normal (x_then ?_))
        refine q_reg (s_get rfl (e_move rfl) (s_get rfl (e_add rfl rfl (by first | omega | (dsimp only; omega))) (s_get rfl (e_assign rfl) (s_end ?_))))
        refine x_again (i + 1) ⟨rfl, rfl, rfl, trivial⟩ ⟨rfl, by omega, fun j h1 h2 hj => ?_⟩ (by omega)
        by_cases e : j = i
        · subst e
          exact Decidable.not_not.1 h
        · exact heq j h1 h2 (by omega)
    · refine q_exit (x_then_exit (x_then_exit (x_block_exit (x_then ?_))))
      refine q_seq (q_reg (s_get rfl (e_assign rfl) (s_end (x_then ?_))))
      refine q_ret (x_ret1 (.inl rfl) rfl rfl ⟨?_, rfl⟩)
      rw [decide_eq_true (List.ext_getElem (by omega) fun j h1 h2 => heq j h1 h2 (by omega))]
end Go.Proofs.Ytogfllhbgkeinaa.Wheel

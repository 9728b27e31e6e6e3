/-
  The document's own wheel: Advance, Spread.
-/
import Derived.Test.YtogfllhbgkeinaaRef4
import Derived.Test.YtogfllhbgkeinaaMid
set_option linter.unusedVariables false
set_option linter.unusedSimpArgs false
namespace Go.Proofs.Ytogfllhbgkeinaa.Wheel
open Go.RowKit Base Lev Wa Eng Wb Spc
open Go.ChangeMaps (setBlock)
variable {w : World} {rb now : Nat} {M : List Ent} {B : Nat → Prop}

theorem radvance_bad (h : RW w rb now M B) (t : Int) (he : advE now t ≠ 0) : Ret Try.prog 40 #[.pointer (some ⟨rb, 0, none⟩), .int .i64 t] w fun v w' => v = .tuple #[.slice none 0 0, .int .i64 (advE now t)] ∧ w' = w := by
  obtain ⟨a, cap, db, c0, c1, hs, _⟩ := h.cells
  refine ret_of (vs := [_, _]) Try.func40 rfl Try.ntmps40 rfl fun _ => ?_
  refine q_seq (q_reg (s_get rfl (e_assign rfl) (s_get rfl (e_assign rfl) (s_end (x_then ?_)))))
  refine q_seq (q_reg (s_get rfl (e_assign rfl) (s_end (x_then ?_))))
  refine q_seq (q_seq (q_reg (s_get rfl (e_move rfl) (s_get rfl (e_pnil rfl rfl) (s_end (x_then ?_))))))
  refine q_no rfl (q_skip (x_then ?_))
  unfold advE isTime at *
  by_cases h0 : t < 0
  · refine q_seq (q_seq (q_reg (s_get rfl (e_move rfl) (s_get rfl (yes (e_lss rfl rfl) (by first | omega | (dsimp only; omega))) (s_get rfl (e_move rfl) (s_off rfl rfl rfl rfl (s_off rfl rfl rfl rfl (s_get rfl (e_pickT rfl rfl) (s_end (x_then ?_))))))))))
    refine q_yes rfl ?_
    refine q_seq (q_reg (s_get rfl (e_move rfl) (s_get rfl (e_assign rfl) (s_get rfl (e_assign rfl) (s_end (x_then ?_))))))
    refine q_ret ?_
    repeat (first | refine x_then_ret ?_ | refine x_block_ret ?_ | refine x_scope_ret ?_)
    exact (x_ret2 (.inl rfl) rfl rfl rfl ⟨by rw [if_neg (by simp; omega)]; rfl, rfl⟩)
  by_cases h1 : 1099511627776 < t
  · refine q_seq (q_seq (q_reg (s_get rfl (e_move rfl) (s_get rfl (nay (e_lss rfl rfl) (by first | omega | (dsimp only; omega))) (s_get rfl (e_move rfl) (s_on rfl rfl (s_get rfl (e_move rfl) (s_on rfl rfl (s_get rfl (yes (e_gtr rfl rfl) (by first | omega | (dsimp only; omega))) (s_get rfl (e_pickF rfl rfl) (s_end (x_then ?_))))))))))))
    refine q_yes rfl ?_
    refine q_seq (q_reg (s_get rfl (e_move rfl) (s_get rfl (e_assign rfl) (s_get rfl (e_assign rfl) (s_end (x_then ?_))))))
    refine q_ret ?_
    repeat (first | refine x_then_ret ?_ | refine x_block_ret ?_ | refine x_scope_ret ?_)
    exact (x_ret2 (.inl rfl) rfl rfl rfl ⟨by rw [if_neg (by simp; omega)]; rfl, rfl⟩)
  have hT : (decide (0 ≤ t) && decide (t ≤ 1099511627776)) = true := by simp; omega
  by_cases h2 : t < now
  · refine q_seq (q_seq (q_reg (s_get rfl (e_move rfl) (s_get rfl (nay (e_lss rfl rfl) (by first | omega | (dsimp only; omega))) (s_get rfl (e_move rfl) (s_on rfl rfl (s_get rfl (e_move rfl) (s_on rfl rfl (s_get rfl (nay (e_gtr rfl rfl) (by first | omega | (dsimp only; omega))) (s_get rfl (e_pickF rfl rfl) (s_end (x_then ?_))))))))))))
    refine q_no rfl (q_skip (x_then ?_))
    refine q_seq (q_seq (q_reg (s_get rfl (e_move rfl) (s_get rfl (e_move rfl) (s_get rfl (e_nil rfl) (s_get rfl (e_fld rfl) (s_get rfl (e_ld rfl c0) (s_get rfl (yes (e_lss rfl rfl) (by first | omega | (dsimp only; omega))) (s_end (x_then ?_))))))))))
    refine q_yes rfl ?_
    refine q_seq (q_reg (s_get rfl (e_move rfl) (s_get rfl (e_assign rfl) (s_get rfl (e_assign rfl) (s_end (x_then ?_))))))
    refine q_ret ?_
    repeat (first | refine x_then_ret ?_ | refine x_block_ret ?_ | refine x_scope_ret ?_)
    exact (x_ret2 (.inl rfl) rfl rfl rfl ⟨by rw [if_pos hT, if_pos h2]; rfl, rfl⟩)
  · exact (he (by rw [if_pos hT, if_neg h2])).elim
theorem radvance_ok (h : RW w rb now M B) (hl : M.length ≤ 4096) (to : Nat) (he : advE now to = 0) : Ret Try.prog 40 #[.pointer (some ⟨rb, 0, none⟩), .int .i64 to] w fun v w' =>
    ∃ a n cap b B', v = .tuple #[.slice a n cap, .int .i64 0] ∧ n = (M.takeWhile fun e => decide (e.2 ≤ to)).length ∧ Sl w' 9 1 a n cap (strs ((M.takeWhile fun e => decide (e.2 ≤ to)).map (·.1))) b ∧
      (∀ x ∈ b, w.heap.size ≤ x) ∧ RW w' rb to (M.dropWhile fun e => decide (e.2 ≤ to)) B' ∧ Kept B w w' ∧ ∀ x, B' x → B x := by
  obtain ⟨a, cap, db, c0, c1, hs, hb, hdb, hB⟩ := h.cells
  refine ret_of (vs := [_, _]) Try.func40 rfl Try.ntmps40 rfl fun _ => ?_
  have hto : (to : Int) ≤ 1099511627776 ∧ now ≤ to := by
    unfold advE isTime at he
    split at he
    · rename_i hT
      split at he
      · cases he
      · simp at hT; omega
    · cases he
  have hBrb := (hB rb).2 (.inl rfl)
  refine q_seq (q_reg (s_get rfl (e_assign rfl) (s_get rfl (e_assign rfl) (s_end (x_then ?_)))))
  refine q_seq (q_reg (s_get rfl (e_assign rfl) (s_end (x_then ?_))))
  refine q_seq (q_seq (q_reg (s_get rfl (e_move rfl) (s_get rfl (e_pnil rfl rfl) (s_end (x_then ?_))))))
  refine q_no rfl (q_skip (x_then ?_))
  refine q_seq (q_seq (q_reg (s_get rfl (e_move rfl) (s_get rfl (nay (e_lss rfl rfl) (by first | omega | (dsimp only; omega))) (s_get rfl (e_move rfl) (s_on rfl rfl (s_get rfl (e_move rfl) (s_on rfl rfl (s_get rfl (nay (e_gtr rfl rfl) (by first | omega | (dsimp only; omega))) (s_get rfl (e_pickF rfl rfl) (s_end (x_then ?_))))))))))))
  refine q_no rfl (q_skip (x_then ?_))
  refine q_seq (q_seq (q_reg (s_get rfl (e_move rfl) (s_get rfl (e_move rfl) (s_get rfl (e_nil rfl) (s_get rfl (e_fld rfl) (s_get rfl (e_ld rfl c0) (s_get rfl (nay (e_lss rfl rfl) (by first | omega | (dsimp only; omega))) (s_end (x_then ?_))))))))))
  refine q_no rfl (q_skip (x_then ?_))
  refine q_seq (q_reg (s_get rfl (e_move rfl) (s_get rfl (e_move rfl) (s_get rfl (e_nil rfl) (s_get rfl (e_fld rfl) (s_set (e_st rfl rfl rfl c0 (free_of hb _)) (s_end (x_then ?_))))))))
  obtain ⟨w1, hw1⟩ : ∃ w1, w1 = w.setCell ⟨rb, 0 + 0, none⟩ (.int .i64 to) := ⟨_, rfl⟩
  rw [← hw1]
  have K1 : Kept (fun i => i = rb) w w1 := hw1 ▸ Kept.setCell _ _ _ rfl
  have hb1 : w1.heap[rb]? = some (.cells #[.int .i64 to, .slice a M.length cap] 84 (0, 0)) := by rw [hw1]; exact Base.heap_setCell_same hb 0 _
  have hs1 := hs.kept K1 fun x hx e => hdb (by rw [hx, e])
  have d1 : w1.cell? ⟨rb, 0 + 1, none⟩ = some (.slice a M.length cap) := by rw [cell_of hb1]; rfl
  refine q_seq (q_reg (s_get rfl (e_assign rfl) (s_end (x_then ?_))))
  refine q_seq (q_midx (β := Nat × Option Addr × Nat) (fun x => [(7, .int .i64 x.1), (6, .slice x.2.1 x.1 x.2.2), (0, .pointer (some ⟨rb, 0, none⟩))])
    (fun x w' => M.takeWhile (fun e => decide (e.2 ≤ to)) = M.take x.1 ∧ M.dropWhile (fun e => decide (e.2 ≤ to)) = M.drop x.1 ∧ x.1 ≤ M.length ∧ Ext w1 w' ∧ ∃ b2, Sl w' 9 1 x.2.1 x.1 x.2.2 (strs ((M.take x.1).map (·.1))) b2 ∧ ∀ y ∈ b2, w1.heap.size ≤ y) ?_ ?_)
  case refine_2 =>
    rintro ⟨i, a2, cap2⟩ w2 ⟨e1, e2, hi, X2, b2, s2, hb2⟩
    dsimp only at e1 e2 hi s2
    rw [e1, e2]
    have d2 := X2.cell d1
    have hb2' := X2.at hb1
    have hs2 := hs1.ext X2
    have hcap := hs2.le
    have K2 : Kept B w w2 := (K1.mono fun k _ h => by rw [h]; exact hBrb).trans X2 fun _ _ h => h.elim
    refine q_seq (q_reg (s_get rfl (e_move rfl) (s_get rfl (e_move rfl) (s_get rfl (e_nil rfl) (s_get rfl (e_fld rfl) (s_get rfl (e_ld rfl d2) (s_get rfl (e_move rfl) (s_get rfl (e_slL rfl rfl (by first | omega | (dsimp only; omega)) (by first | omega | (dsimp only; omega))) (s_get rfl (e_nil rfl) (s_get rfl (e_fld rfl) (s_set (e_st rfl rfl rfl d2 (free_of hb2' _)) (s_end (x_then ?_)))))))))))))
    refine q_seq (q_reg (s_get rfl (e_move rfl) (s_get rfl (e_assign rfl) (s_get rfl (e_assign rfl) (s_end (x_then ?_))))))
    have K3 : ∀ v, Kept (fun i => i = rb) w2 (w2.setCell ⟨rb, 0 + 1, none⟩ v) := fun v => Kept.setCell _ _ _ rfl
    have hrb := h.lt hBrb
    have hs1z := K1.size
    have s9 := hs2.part hi (Nat.le_refl _)
    refine q_ret (x_ret2 (.inl rfl) rfl rfl rfl ⟨a2, i, cap2, b2, B, rfl, by rw [List.length_take]; omega, s2.kept (K3 _) (fun x hx => by have := hb2 x hx; omega), fun x hx => Nat.le_trans hs1z (hb2 x hx), ⟨if cap = i then a else a.map (·.add (i * 2)), cap - i, db, ?_, ?_, hdb, hB⟩, K2.trans ((K3 _).mono fun k _ h => by rw [h]; exact hBrb) fun _ _ h => h, fun _ h => h⟩)
    · rw [List.length_drop]
      exact Base.heap_setCell_same hb2' 1 (.slice (if cap = i then a else a.map (·.add (i * 2))) (M.length - i) (cap - i))
    · have := s9.kept (K3 (.slice (if cap = i then a else a.map (·.add (i * 2))) (M.length - i) (cap - i))) fun x hx e => hdb (by rw [hx, e])
      have e6 : (ents M).take (M.length * 2) = ents M := List.take_of_length_le (by rw [ents_len]; omega)
      rw [e6, ents_drop] at this
      rw [List.length_drop]
      exact this
  refine q_block ?_
  refine q_loop (α := Nat × Option Addr × Nat) (fun x => [(7, .int .i64 x.1), (6, .slice x.2.1 x.1 x.2.2), (1, .int .i64 to), (0, .pointer (some ⟨rb, 0, none⟩))])
    (fun x w' => x.1 ≤ M.length ∧ (∀ (j : Nat) (e : Ent), j < x.1 → M[j]? = some e → decide (e.2 ≤ to) = true) ∧ Ext w1 w' ∧ ∃ b2, Sl w' 9 1 x.2.1 x.1 x.2.2 (strs ((M.take x.1).map (·.1))) b2 ∧ ∀ y ∈ b2, w1.heap.size ≤ y)
    (fun x => M.length - x.1) (0, none, 0) ⟨rfl, rfl, rfl, rfl, trivial⟩ ⟨by simp, fun j e hj => by simp at hj, Ext.refl _, none, by simpa [strs] using Sl.nil, by simp⟩ ?_
  rintro ⟨i, a2, cap2⟩ w2 ⟨hi, hyes, X2, b2, s2, hb2⟩
  dsimp only at hi hyes s2
  have e2 := X2.cell d1
  have hb2' := X2.at hb1
  have hs2 := hs1.ext X2
  have K2 : Kept B w w2 := (K1.mono fun k _ h => by rw [h]; exact hBrb).trans X2 fun _ _ h => h.elim
  rcases Nat.lt_or_ge i M.length with hlt | hge
  · obtain ⟨e, he2⟩ : ∃ e, M[i]? = some e := ⟨M[i], List.getElem?_eq_getElem hlt⟩
    obtain ⟨kb, off, rfl, hc⟩ := elem_at hs2 he2
    by_cases hle : (e.2 : Int) ≤ to
    · refine q_seq (q_seq (q_reg (s_get rfl (e_move rfl) (s_get rfl (e_move rfl) (s_get rfl (e_nil rfl) (s_get rfl (e_fld rfl) (s_get rfl (e_ld rfl e2) (s_get rfl (e_len rfl) (s_get rfl (yes (e_lss rfl rfl) (by first | omega | (dsimp only; omega))) (s_get rfl (e_move rfl) (s_on rfl rfl (s_get rfl (e_move rfl) (s_on rfl rfl (s_get rfl (e_nil rfl) (s_on rfl rfl (s_get rfl (e_fld rfl) (s_on rfl rfl (s_get rfl (e_ld rfl e2) (s_on rfl rfl (s_get rfl (e_move rfl) (s_on rfl rfl (s_get rfl (e_idxAt (off+i*2) rfl rfl (by first | omega | (dsimp only; omega)) (by first | omega | (dsimp only; omega)) (by first | omega | (dsimp only; omega))) (s_on rfl rfl (s_get rfl (e_fld rfl) (s_on rfl rfl (s_get rfl (e_ld rfl (hc 1 _ rfl)) (s_on rfl rfl (s_get rfl (e_move rfl) (s_on rfl rfl (s_get rfl (yes (e_leq rfl rfl) (by first | omega | (dsimp only; omega))) (s_get rfl (e_pickT rfl rfl) (s_end (x_then ?_)))))))))))))))))))))))))))))))))
      refine q_yes rfl (q_skip (x_then ?_))
      refine q_block ?_
      have X3 : Ext w2 (w2.alloc (.cells [.string e.1].toArray 9)) := (Ext.refl w2).alloc _
      have s3 := Sl.made (w := w2) (e := 9) (sz := 1) (cs := strs [e.1]) (len := 1) rfl (strs_one _)
      refine q_seq (q_reg (s_get rfl (e_move rfl) (s_get rfl (e_move rfl) (s_get rfl (e_nil rfl) (s_get rfl (e_fld rfl) (s_get rfl (e_ld rfl e2) (s_get rfl (e_move rfl) (s_get rfl (e_idxAt (off+i*2) rfl rfl (by first | omega | (dsimp only; omega)) (by first | omega | (dsimp only; omega)) (by first | omega | (dsimp only; omega))) (s_get rfl (e_fld rfl) (s_get rfl (e_ld rfl (hc 0 _ rfl)) (s_val rfl (e_buildSlice [.string e.1] rfl rfl rfl rfl (fill_one rfl rfl)) (s_rel rfl (e_append rfl rfl (s2.ext X3) s3 (by omega)) ?_))))))))))))
      rintro _ w4 ⟨a4, cap4, b4, rfl, s4, k4, e4⟩
      have hsz := X2.size
      have hb4 : ∀ x ∈ b4, w1.heap.size ≤ x := fun x hx => by
        rcases e4 with g | ⟨g, _⟩
        · rw [g] at hx; exact hb2 x hx
        · rw [g] at hx; cases hx; exact Nat.le_trans hsz X3.size
      refine s_get rfl (e_assign rfl) (s_end (x_then ?_))
      refine q_reg (s_get rfl (e_move rfl) (s_get rfl (e_add rfl rfl (by first | omega | (dsimp only; omega))) (s_get rfl (e_assign rfl) (s_end (x_block_normal ?_)))))
      refine x_again (i + 1, a4, cap4) ⟨rfl, rfl, rfl, rfl, trivial⟩ ⟨hlt, fun j e' hj hj' => ?_, (X2.trans X3).then k4 fun x hx => .inr (hb2 x hx), b4, ?_, hb4⟩ (by simp only []; omega)
      · rcases Nat.lt_or_ge j i with g | g
        · exact hyes j e' g hj'
        · obtain rfl : j = i := by simp only [] at hj; omega
          rw [he2] at hj'
          injection hj' with hj'
          rw [← hj']; simp; omega
      · have : M.take (i + 1) = M.take i ++ [e] := by rw [List.take_add_one, he2]; rfl
        simp only [this, List.map_append, strs]
        exact s4
    · refine q_seq (q_seq (q_reg (s_get rfl (e_move rfl) (s_get rfl (e_move rfl) (s_get rfl (e_nil rfl) (s_get rfl (e_fld rfl) (s_get rfl (e_ld rfl e2) (s_get rfl (e_len rfl) (s_get rfl (yes (e_lss rfl rfl) (by first | omega | (dsimp only; omega))) (s_get rfl (e_move rfl) (s_on rfl rfl (s_get rfl (e_move rfl) (s_on rfl rfl (s_get rfl (e_nil rfl) (s_on rfl rfl (s_get rfl (e_fld rfl) (s_on rfl rfl (s_get rfl (e_ld rfl e2) (s_on rfl rfl (s_get rfl (e_move rfl) (s_on rfl rfl (s_get rfl (e_idxAt (off+i*2) rfl rfl (by first | omega | (dsimp only; omega)) (by first | omega | (dsimp only; omega)) (by first | omega | (dsimp only; omega))) (s_on rfl rfl (s_get rfl (e_fld rfl) (s_on rfl rfl (s_get rfl (e_ld rfl (hc 1 _ rfl)) (s_on rfl rfl (s_get rfl (e_move rfl) (s_on rfl rfl (s_get rfl (nay (e_leq rfl rfl) (by first | omega | (dsimp only; omega))) (s_get rfl (e_pickT rfl rfl) (s_end (x_then ?_)))))))))))))))))))))))))))))))))
      refine q_no rfl ?_
      obtain ⟨g1, g2⟩ := tw_of hi hyes fun e' he' => by
        rw [he2] at he'; injection he' with he'; rw [← he']; simp; omega
      refine q_exit (x_then_exit (x_then_exit (x_block_exit (x_midx (i, _, cap2) ⟨rfl, rfl, rfl, trivial⟩ ⟨g1, g2, hi, X2, b2, s2, hb2⟩))))
  · obtain rfl : i = M.length := by omega
    refine q_seq (q_seq (q_reg (s_get rfl (e_move rfl) (s_get rfl (e_move rfl) (s_get rfl (e_nil rfl) (s_get rfl (e_fld rfl) (s_get rfl (e_ld rfl e2) (s_get rfl (e_len rfl) (s_get rfl (nay (e_lss rfl rfl) (by first | omega | (dsimp only; omega))) (s_get rfl (e_move rfl) (s_off rfl rfl rfl rfl (s_off rfl rfl rfl rfl (s_off rfl rfl rfl rfl (s_off rfl rfl rfl rfl (s_off rfl rfl rfl rfl (s_off rfl rfl rfl rfl (s_off rfl rfl rfl rfl (s_off rfl rfl rfl rfl (s_off rfl rfl rfl rfl (s_off rfl rfl rfl rfl (s_get rfl (e_pickF rfl rfl) (s_end (x_then ?_)))))))))))))))))))))))
    refine q_no rfl ?_
    obtain ⟨g1, g2⟩ := tw_of (Nat.le_refl _) hyes fun e' he' => by
      rw [List.getElem?_eq_none (Nat.le_refl _)] at he'; cases he'
    refine q_exit (x_then_exit (x_then_exit (x_block_exit (x_midx (M.length, _, cap2) ⟨rfl, rfl, rfl, trivial⟩ ⟨g1, g2, hi, X2, b2, s2, hb2⟩))))

theorem spread_set (now : Nat) (L : List Ent) (e : Ent) (h : level now e.2 < 7) : (ints (spreadL now L)).toArray.setIfInBounds (0 + level now e.2) (.int .i64 (cnt now L (level now e.2) + 1 : Int)) = (ints (spreadL now (L ++ [e]))).toArray := by
  have hc : ∀ k, cnt now (L ++ [e]) k = cnt now L k + if level now e.2 = k then 1 else 0 := fun k => by
    unfold cnt
    rw [List.filter_append, List.length_append, level_comm]
    by_cases g : level e.2 now = k <;> simp [g]
  apply Array.ext_getElem?
  intro k
  rw [Nat.zero_add]
  rcases Nat.lt_or_ge k 7 with hk | hk
  · have r1 : (ints (spreadL now L)).toArray[k]? = some (.int .i64 (cnt now L k)) := by rw [List.getElem?_toArray]; exact spread_get _ _ hk
    have r2 : (ints (spreadL now (L ++ [e]))).toArray[k]? = some (.int .i64 (cnt now (L ++ [e]) k)) := by rw [List.getElem?_toArray]; exact spread_get _ _ hk
    rw [r2, hc]
    by_cases g : level now e.2 = k
    · subst g
      rw [Array.getElem?_setIfInBounds_self_of_lt (by rw [List.size_toArray, spread_len]; exact hk), if_pos rfl]; rfl
    · rw [Array.getElem?_setIfInBounds_ne g, r1, if_neg g]; rfl
  · rw [Array.getElem?_eq_none (by rw [Array.size_setIfInBounds, List.size_toArray, spread_len]; exact hk), Array.getElem?_eq_none (by rw [List.size_toArray, spread_len]; exact hk)]
theorem rspread_ret (h : RW w rb now M B) (hl : M.length ≤ 4096) (hnow : now ≤ 1099511627776) (hall : ∀ e ∈ M, e.2 ≤ 1099511627776) : Ret Try.prog 43 #[.pointer (some ⟨rb, 0, none⟩)] w fun v w' => v = .agg (ints (spreadL now M)).toArray ∧ Ext w w' := by
  obtain ⟨a, cap, db, c0, c1, hs, hb, hdb, hB⟩ := h.cells
  refine ret_of (vs := [_]) Try.func43 rfl Try.ntmps43 rfl fun _ => ?_
  refine q_seq (q_reg (s_val rfl e_alloc (s_end (x_then ?_))))
  obtain ⟨w1, hw1⟩ : ∃ w1, w1 = w.alloc (.cells (Value.agg #[.int .i64 0, .int .i64 0, .int .i64 0, .int .i64 0, .int .i64 0, .int .i64 0, .int .i64 0]).cells 38) := ⟨_, rfl⟩
  rw [← hw1]
  have X1 : Ext w w1 := hw1 ▸ (Ext.refl w).alloc _
  have b1 : w1.heap[w.heap.size]? = some (.cells zero7.toArray 38 (0, 0)) := by rw [hw1]; exact Base.heap_alloc_new' _ _
  refine q_seq (q_reg (s_val rfl e_alloc (s_end (x_then ?_))))
  obtain ⟨w2, hw2⟩ : ∃ w2, w2 = w1.alloc (.cells (Value.agg #[.int .i64 0, .int .i64 0, .int .i64 0, .int .i64 0, .int .i64 0, .int .i64 0, .int .i64 0]).cells 38) := ⟨_, rfl⟩
  rw [← hw2]
  have X2 : Ext w1 w2 := hw2 ▸ (Ext.refl w1).alloc _
  have b2 : w2.heap[w1.heap.size]? = some (.cells (ints (spreadL now (M.take 0))).toArray 38 (0, 0)) := by rw [hw2]; exact Base.heap_alloc_new' _ _
  have hz1 : w.heap.size < w1.heap.size := lt_of_at b1
  refine q_seq (q_seq (q_reg (s_get rfl (e_move rfl) (s_get rfl (e_pnil rfl rfl) (s_end (x_then ?_))))))
  refine q_no rfl (q_skip (x_then ?_))
  refine q_seq (q_seq (q_reg (s_get rfl (e_assign rfl) (s_end (x_then ?_)))))
  refine q_block ?_
  refine q_loop (α := Nat) (fun x => [(4, .int .i64 x), (3, .pointer (some ⟨w1.heap.size, 0, none⟩)), (2, .pointer (some ⟨w.heap.size, 0, none⟩)), (0, .pointer (some ⟨rb, 0, none⟩))])
    (fun x w' => x ≤ M.length ∧ w'.heap[w1.heap.size]? = some (.cells (ints (spreadL now (M.take x))).toArray 38 (0, 0)) ∧ Ext w1 w') (fun x => M.length - x) 0 ⟨rfl, rfl, rfl, rfl, trivial⟩ ⟨by simp, b2, X2⟩ ?_
  rintro i w3 ⟨hi, b3, X3⟩
  have d0 := (X1.trans X3).cell c0
  have d1 := (X1.trans X3).cell c1
  have hs3 := hs.ext (X1.trans X3)
  rcases Nat.lt_or_ge i M.length with hlt | hge
  · obtain ⟨e, he⟩ : ∃ e, M[i]? = some e := ⟨M[i], List.getElem?_eq_getElem hlt⟩
    obtain ⟨kb, off, rfl, hc⟩ := elem_at hs3 he
    have he2 := hall e (List.mem_of_getElem? he)
    have h7 : level now e.2 < 7 := by have := lv6 hnow he2; omega
    have htk : M.take (i + 1) = M.take i ++ [e] := by rw [List.take_add_one, he]; rfl
    refine q_seq (q_seq (q_reg (s_get rfl (e_move rfl) (s_get rfl (e_move rfl) (s_get rfl (e_nil rfl) (s_get rfl (e_fld rfl) (s_get rfl (e_ld rfl d1) (s_get rfl (e_len rfl) (s_get rfl (yes (e_lss rfl rfl) (by first | omega | (dsimp only; omega))) (s_end (x_then ?_)))))))))))
    refine q_yes rfl (q_skip (x_then ?_))
    refine q_seq (q_block ?_)
    refine q_seq (d_begin (Ext _) [3, 7, 11] (d_pure (i := 0) rfl rfl rfl (by kernel_rfl) (fun w' => (e_move rfl)) (d_pure (i := 1) rfl rfl rfl (by kernel_rfl) (fun w' => (e_nil rfl)) (d_pure (i := 2) rfl rfl rfl (by kernel_rfl) (fun w' => (e_fld rfl)) (d_head (i := 3) rfl rfl rfl (by kernel_rfl) (by kernel_rfl) (Ext.refl _) (fun w' hS => (e_ld rfl (hS.cell d0))) (d_pure (i := 4) rfl rfl rfl (by kernel_rfl) (fun w' => (e_move rfl)) (d_pure (i := 5) rfl rfl rfl (by kernel_rfl) (fun w' => (e_nil rfl)) (d_pure (i := 6) rfl rfl rfl (by kernel_rfl) (fun w' => (e_fld rfl)) (d_head (i := 7) rfl rfl rfl (by kernel_rfl) (by kernel_rfl) (Ext.refl _) (fun w' hS => (e_ld rfl (hS.cell d1))) (d_pure (i := 8) rfl rfl rfl (by kernel_rfl) (fun w' => (e_move rfl)) (d_pure (i := 9) rfl rfl rfl (by kernel_rfl) (fun w' => (e_idxAt (off+i*2) rfl rfl (by first | omega | (dsimp only; omega)) (by first | omega | (dsimp only; omega)) (by first | omega | (dsimp only; omega)))) (d_pure (i := 10) rfl rfl rfl (by kernel_rfl) (fun w' => (e_fld rfl)) (d_head (i := 11) rfl rfl rfl (by kernel_rfl) (by kernel_rfl) (Ext.refl _) (fun w' hS => (e_ld rfl (hS.cell (hc 1 _ rfl)))) (d_call (i := 12) rfl rfl rfl (by kernel_rfl) (e_fn rfl) (ring_ret now e.2 hnow he2 w3) (fun _ _ h => .inr (h.2 ▸ Ext.refl _)) ?_))))))))))))))
    rintro _ w3 ⟨rfl, rfl⟩
    refine d_pure (i := 13) rfl rfl rfl (by kernel_rfl) (fun w' => (e_assign rfl)) (d_end (by kernel_rfl) (x_then ?_))
    have g0 : w3.cell? ⟨w1.heap.size, 0 + level now e.2, none⟩ = some (.int .i64 (cnt now (M.take i) (level now e.2))) := by
      rw [cell_of b3, List.getElem?_toArray, Nat.zero_add]; exact spread_get _ _ h7
    have hcl : cnt now (M.take i) (level now e.2) ≤ 4096 := by
      have h1 := List.length_filter_le (fun x : Ent => decide (level x.2 now = level now e.2)) (M.take i)
      rw [List.length_take] at h1
      unfold cnt; omega
    generalize hL : level now e.2 = L at *
    refine q_reg (s_get rfl (e_move rfl) (s_get rfl (e_idxaAt (0+L) rfl rfl (by first | omega | (dsimp only; omega)) (by first | omega | (dsimp only; omega)) (by first | omega | (dsimp only; omega))) (s_get rfl (e_ld rfl g0) (s_get rfl (e_add rfl rfl (by first | omega | (dsimp only; omega))) (s_get rfl (e_idxaAt (0+L) rfl rfl (by first | omega | (dsimp only; omega)) (by first | omega | (dsimp only; omega)) (by first | omega | (dsimp only; omega))) (s_set (e_st rfl rfl rfl g0 (free_of b3 _)) (s_end (x_block_normal (x_then ?_)))))))))
    refine q_reg (s_get rfl (e_move rfl) (s_get rfl (e_add rfl rfl (by first | omega | (dsimp only; omega))) (s_get rfl (e_assign rfl) (s_end ?_))))
    have K : Kept (fun k => k = w1.heap.size) w3 (w3.setCell ⟨w1.heap.size, 0 + L, none⟩ (.int .i64 (cnt now (M.take i) L + 1 : Int))) := Kept.setCell _ _ _ rfl
    refine x_again (i + 1) ⟨rfl, rfl, rfl, rfl, trivial⟩ ⟨hlt, ?_, X3.then K fun k hk => .inr (by omega)⟩ (by omega)
    have h9 := spread_set now (M.take i) e (by rw [hL]; exact h7)
    rw [hL] at h9
    rw [htk, ← h9]
    exact Base.heap_setCell_same b3 _ _
  · obtain rfl : i = M.length := by omega
    rw [List.take_length] at b3
    refine q_seq (q_seq (q_reg (s_get rfl (e_move rfl) (s_get rfl (e_move rfl) (s_get rfl (e_nil rfl) (s_get rfl (e_fld rfl) (s_get rfl (e_ld rfl d1) (s_get rfl (e_len rfl) (s_get rfl (nay (e_lss rfl rfl) (by first | omega | (dsimp only; omega))) (s_end (x_then ?_)))))))))))
    refine q_no rfl ?_
    refine q_exit (x_then_exit (x_then_exit (x_block_exit (x_then ?_))))
    have g1 : Cells w3 w1.heap.size 0 (ints (spreadL now M)) := fun j v hj => by rw [cell_of b3, Nat.zero_add]; simpa using hj
    have b13 := X3.at b1
    have g2 : ∀ j, j < (ints (spreadL now M)).length → (w3.cell? ⟨w.heap.size, 0 + j, none⟩).isSome = true := fun j hj => by
      rw [spread_len] at hj
      rw [cell_of b13, Nat.zero_add, List.getElem?_toArray, zero7, List.getElem?_replicate_of_lt hj]; rfl
    have g3 : ∀ j, j < (ints (spreadL now M)).length → w3.frozen? ⟨w.heap.size, 0 + j, none⟩ = false := fun j _ => free_of b13 _
    refine q_seq (q_reg (s_get rfl (e_ldn rfl (spread_len now M) g1) (s_set (e_stn rfl rfl (spread_len now M) (ints_one _) g2 g3) (s_end (x_then ?_)))))
    obtain ⟨arr, u1, u2, u3, u4⟩ := setCells_at (ints (spreadL now M)) 0 w3 zero7.toArray b13 (by rw [spread_len]; decide)
    refine q_ret (x_retc (T := 38) (.inl rfl) rfl rfl (spread_len now M) (fun j v hj => by rw [cell_of u1]; exact u4 j v hj) ⟨rfl, ?_⟩)
    exact (X1.trans X3).then (kept_setCells (S := fun i => i = w.heap.size) rfl _ _ _) fun i hi => .inr (by omega)
end Go.Proofs.Ytogfllhbgkeinaa.Wheel

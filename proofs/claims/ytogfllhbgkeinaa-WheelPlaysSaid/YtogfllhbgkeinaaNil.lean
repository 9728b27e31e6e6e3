/-
  WheelNil: a nil wheel's answers; the statement's function returns true.
-/
import Derived.Test.YtogfllhbgkeinaaWalk
import Derived.Test.YtogfllhbgkeinaaMoved
set_option linter.unusedVariables false
set_option linter.unusedSimpArgs false
namespace Go.Proofs.Ytogfllhbgkeinaa.Wheel
open Go.RowKit Base Lev Wa Eng Wb Spc
open Go.ChangeMaps (setBlock)
variable {w : World}

theorem adv_nil (t : Int) (w : World) : Ret Try.prog 15 #[.pointer none, .int .i64 t] w fun v w' => v = .tuple #[.slice none 0 0, .int .i64 0] ∧ w' = w := by
  refine ret_of (vs := [_, _]) Try.func15 rfl Try.ntmps15 rfl fun _ => ?_
  refine q_seq (q_reg (s_get rfl (e_assign rfl) (s_get rfl (e_assign rfl) (s_end (x_then ?_)))))
  refine q_scope ?_
  refine q_seq (q_block ?_)
  refine q_seq (q_reg (s_get rfl (e_move rfl) (s_get rfl (e_pnil rfl rfl) (s_get rfl (e_assign rfl) (s_end (x_then ?_))))))
  refine q_yes rfl ?_
  refine q_seq (q_reg (s_get rfl (e_assign rfl) (s_get rfl (e_assign rfl) (s_end (x_then ?_)))))
  exact q_ret (x_block_ret (x_then_ret (x_scope_ret (x_ret2 (.inl rfl) rfl rfl rfl ⟨rfl, rfl⟩))))
theorem each_nil (w : World) : Ret Try.prog 25 #[.pointer none] w fun v w' => EachV w' v [] w.heap.size ∧ Ext w w' := by
  refine ret_of (vs := [_]) Try.func25 rfl Try.ntmps25 rfl fun _ => ?_
  refine q_seq (q_reg (s_get rfl (e_assign rfl) (s_end (x_then ?_))))
  refine q_seq (q_reg (s_val rfl e_alloc (s_end (x_then ?_))))
  obtain ⟨w1, hw1⟩ : ∃ w1, w1 = w.alloc (.cells (Value.slice none 0 0).cells 87) := ⟨_, rfl⟩
  rw [← hw1]
  have X1 : Ext w w1 := hw1 ▸ (Ext.refl w).alloc _
  have hv1 : w1.heap[w.heap.size]? = some (.cells #[.slice none 0 0] 87 (0, 0)) := by rw [hw1]; exact Base.heap_alloc_new' _ _
  refine q_seq (q_seq (q_reg (s_get rfl (e_move rfl) (s_get rfl (e_pnnil rfl rfl) (s_end (x_then ?_))))))
  refine q_no rfl (q_skip (x_then ?_))
  have cv : w1.cell? ⟨w.heap.size, 0, none⟩ = some (.slice none 0 0) := by rw [cell_of hv1]; rfl
  have hsort := sortP_ret (w := w1) (a := none) (cap := 0) (D := []) (db := none) .nil List.nodup_nil (by simp)
  refine q_seq (q_reg (s_get rfl (e_ld rfl cv) (s_call rfl (e_fn rfl) hsort ?_)))
  rintro _ w5 ⟨rfl, D', g1, g2, g3, K5⟩
  obtain rfl : D' = [] := g1.eq_nil
  have X5 : Ext w1 w5 := K5.mono fun _ _ h => by cases h
  refine s_end (x_then ?_)
  refine q_seq (q_reg (s_get rfl (e_makeFunc rfl rfl) (s_get rfl (e_assign rfl) (s_end (x_then ?_)))))
  exact q_ret (x_ret1 (.inl rfl) rfl rfl ⟨⟨w.heap.size, none, 0, none, rfl, X5.at hv1, g3, Nat.le_refl _, by simp⟩, X1.trans X5⟩)
set_option maxHeartbeats 1000000 in
theorem nil_ret (w : World) : Ret Try.prog 6 #[] w fun v w' => v = .bool true ∧ Ext w w' := by
  refine ret_of_in (vs := []) Try.func6 rfl Try.ntmps6 rfl fun z => ?_
  refine iq_seq (iq_reg (is_val rfl rfl e_alloc (is_end (ix_then ?_))))
  obtain ⟨w1, hw1⟩ : ∃ w1, w1 = w.alloc (.cells (Value.bool false).cells 4) := ⟨_, rfl⟩
  rw [← hw1]
  have X1 : Ext w w1 := hw1 ▸ (Ext.refl w).alloc _
  have b1 : w1.heap[w.heap.size]? = some (.cells #[.bool false] 4 (0, 0)) := by rw [hw1]; exact Base.heap_alloc_new' _ _
  have s2 := Wheel.Sl.rd (Sl.made (w := w1) (e := 3) (sz := 1) (cs := nums [4]) (len := 1) rfl fun v hv => by simp [nums] at hv; subst hv; rfl)
  have X2 : Ext w1 (w1.alloc (.cells (nums [4]).toArray 3)) := (Ext.refl w1).alloc _
  have hfill := filled_ret (now := 0) (fl := [4]) s2 (fun f hf => by simp at hf; subst hf; unfold I64; omega) (by simp) (by omega)
  refine iq_seq (iq_reg (is_val rfl rfl (e_buildSlice (nums [4]) rfl rfl rfl rfl (fill_one rfl rfl)) (is_call rfl rfl (e_fn rfl) hfill ?_)))
  rintro _ w2 ⟨p, B, rfl, WB, X3, nB⟩
  refine is_get rfl rfl (e_assign rfl) (is_end (ix_then ?_))
  refine iq_seq (iq_seq (iq_reg (is_get rfl rfl (e_move rfl) (is_get rfl rfl (e_pnil rfl rfl) (is_end (ix_then ?_))))))
  refine iq_no rfl (iq_skip (ix_then ?_))
  have hM : fillM 0 [4] [(4 : Int)].length = [((⟨#[97, 97, 97]⟩ : ByteArray), 5)] := by decide
  rw [hM] at WB
  have hadv : advE 0 ((5 : Nat) : Int) = 0 := by decide
  refine iq_seq (iq_reg (is_get rfl rfl (e_move rfl) (is_call rfl rfl (e_fn rfl) (advance_ok WB 5 hadv) ?_)))
  rintro _ w3 ⟨la, ln, lcap, lb, B3, rfl, hln, s3, nl, W3, K3, hB3⟩
  have hln' : ln = 1 := by rw [hln]; rfl
  subst hln'
  obtain ⟨kb, off, rfl, rfl, hc, _⟩ := s3.pos (by simp)
  have hc0 : w3.cell? ⟨kb, off + 0, none⟩ = some (.string ⟨#[97, 97, 97]⟩) := hc 0 _ rfl
  have X13 : Ext w1 w3 := (X2.trans X3).then K3 fun y hy => .inr (Nat.le_trans X2.size (nB y hy))
  refine is_get rfl rfl (e_move rfl) (is_get rfl rfl (e_ext rfl rfl) (is_get rfl rfl (e_ext rfl rfl) (is_get rfl rfl (e_assign rfl) (is_get rfl rfl (e_assign rfl) (is_end (ix_then ?_))))))
  refine iq_seq (iq_seq (iq_reg (is_get rfl rfl (e_move rfl) (is_get rfl rfl (nay (e_neq rfl rfl) (by simp)) (is_get rfl rfl (e_move rfl) (is_on rfl rfl (is_get rfl rfl (e_move rfl) (is_on rfl rfl (is_get rfl rfl (e_len rfl) (is_on rfl rfl (is_get rfl rfl (nay (e_neq rfl rfl) (by simp)) (is_get rfl rfl (e_pickF rfl rfl) (is_get rfl rfl (e_move rfl) (is_on rfl rfl (is_get rfl rfl (e_move rfl) (is_on rfl rfl (is_get rfl rfl (e_idxAt (off+0) rfl rfl (by first | omega | (dsimp only; omega)) (by first | omega | (dsimp only; omega)) (by first | omega | (dsimp only; omega))) (is_on rfl rfl (is_get rfl rfl (e_ld rfl hc0) (is_on rfl rfl (is_get rfl rfl (nay (e_sne rfl rfl) (by simp)) (is_get rfl rfl (e_pickF rfl rfl) (is_end (ix_then ?_))))))))))))))))))))))))
  refine iq_no rfl (iq_skip (ix_then ?_))
  refine iq_seq (iq_reg (is_get rfl rfl (e_assign rfl) (is_end (ix_then ?_))))
  refine iq_seq (iq_reg (is_get rfl rfl (e_move rfl) (is_call rfl rfl (e_fn rfl) (at_nil _ _) ?_)))
  rintro _ w3 ⟨rfl, rfl⟩
  refine is_get rfl rfl (e_move rfl) (is_get rfl rfl (e_ext rfl rfl) (is_get rfl rfl (e_ext rfl rfl) (is_get rfl rfl (e_assign rfl) (is_get rfl rfl (e_assign rfl) (is_end (ix_then ?_))))))
  refine iq_seq (iq_reg (is_get rfl rfl (e_move rfl) (is_call rfl rfl (e_fn rfl) (adv_nil _ _) ?_)))
  rintro _ w3 ⟨rfl, rfl⟩
  refine is_get rfl rfl (e_move rfl) (is_get rfl rfl (e_ext rfl rfl) (is_get rfl rfl (e_ext rfl rfl) (is_get rfl rfl (e_assign rfl) (is_get rfl rfl (e_assign rfl) (is_end (ix_then ?_))))))
  refine iq_seq (iq_reg (is_get rfl rfl (e_move rfl) (is_call rfl rfl (e_fn rfl) (next_nil _) ?_)))
  rintro _ w3 ⟨rfl, rfl⟩
  refine is_get rfl rfl (e_move rfl) (is_get rfl rfl (e_ext rfl rfl) (is_get rfl rfl (e_ext rfl rfl) (is_get rfl rfl (e_assign rfl) (is_get rfl rfl (e_assign rfl) (is_end (ix_then ?_))))))
  refine iq_seq (iq_seq (iq_reg (is_get rfl rfl (e_move rfl) (is_call rfl rfl (e_fn rfl) (add_nil _ _ _) ?_))))
  rintro _ w3 ⟨rfl, rfl⟩
  refine is_get rfl rfl (nay (e_neq rfl rfl) (by simp)) (is_get rfl rfl (e_move rfl) (is_on rfl rfl (is_get rfl rfl (e_move rfl) (is_on rfl rfl (is_call rfl rfl (e_fn rfl) (change_nil _ _ _) ?_)))))
  rintro _ w3 ⟨rfl, rfl⟩
  refine is_on rfl rfl (is_get rfl rfl (nay (e_neq rfl rfl) (by simp)) (is_get rfl rfl (e_pickF rfl rfl) (is_get rfl rfl (e_move rfl) (is_on rfl rfl (is_get rfl rfl (e_move rfl) (is_on rfl rfl (is_call rfl rfl (e_fn rfl) (remove_nil _ _) ?_)))))))
  rintro _ w3 ⟨rfl, rfl⟩
  refine is_on rfl rfl (is_get rfl rfl (nay (e_neq rfl rfl) (by simp)) (is_get rfl rfl (e_pickF rfl rfl) (is_get rfl rfl (e_move rfl) (is_on rfl rfl (is_get rfl rfl (e_move rfl) (is_on rfl rfl (is_get rfl rfl (nay (e_neq rfl rfl) (by simp)) (is_get rfl rfl (e_pickF rfl rfl) (is_get rfl rfl (e_move rfl) (is_on rfl rfl (is_get rfl rfl (e_move rfl) (is_on rfl rfl (is_get rfl rfl (nay (e_neq rfl rfl) (by simp)) (is_get rfl rfl (e_pickF rfl rfl) (is_get rfl rfl (e_move rfl) (is_on rfl rfl (is_get rfl rfl (e_move rfl) (is_on rfl rfl (is_get rfl rfl (e_len rfl) (is_on rfl rfl (is_get rfl rfl (nay (e_neq rfl rfl) (by simp)) (is_get rfl rfl (e_pickF rfl rfl) (is_get rfl rfl (e_move rfl) (is_on rfl rfl (is_get rfl rfl (e_move rfl) (is_on rfl rfl (is_get rfl rfl (nay (e_neq rfl rfl) (by simp)) (is_get rfl rfl (e_pickF rfl rfl) (is_get rfl rfl (e_move rfl) (is_on rfl rfl (is_get rfl rfl (e_move rfl) (is_on rfl rfl (is_get rfl rfl (nay (e_neq rfl rfl) (by simp)) (is_get rfl rfl (e_pickF rfl rfl) (is_get rfl rfl (e_move rfl) (is_on rfl rfl (is_get rfl rfl (e_move rfl) (is_get rfl rfl (e_pickF rfl rfl) (is_get rfl rfl (e_move rfl) (is_on rfl rfl (is_get rfl rfl (e_move rfl) (is_on rfl rfl (is_call rfl rfl (e_fn rfl) (now_nil _) ?_)))))))))))))))))))))))))))))))))))))))))))
  rintro _ w3 ⟨rfl, rfl⟩
  refine is_on rfl rfl (is_get rfl rfl (nay (e_neq rfl rfl) (by simp)) (is_get rfl rfl (e_pickF rfl rfl) (is_get rfl rfl (e_move rfl) (is_on rfl rfl (is_get rfl rfl (e_move rfl) (is_on rfl rfl (is_call rfl rfl (e_fn rfl) (len_nil _) ?_)))))))
  rintro _ w3 ⟨rfl, rfl⟩
  refine is_on rfl rfl (is_get rfl rfl (nay (e_neq rfl rfl) (by simp)) (is_get rfl rfl (e_pickF rfl rfl) (is_end (ix_then ?_))))
  refine iq_no rfl (iq_skip (ix_then ?_))
  refine iq_seq (iq_reg (is_val rfl rfl e_alloc (is_end (ix_then ?_))))
  obtain ⟨w4, hw4⟩ : ∃ w4, w4 = w3.alloc (.cells (Value.agg #[.int .i64 0, .int .i64 0, .int .i64 0, .int .i64 0, .int .i64 0, .int .i64 0, .int .i64 0]).cells 38) := ⟨_, rfl⟩
  rw [← hw4]
  have X4 : Ext w3 w4 := hw4 ▸ (Ext.refl w3).alloc _
  have b4 : w4.heap[w3.heap.size]? = some (.cells zero7.toArray 38 (0, 0)) := by rw [hw4]; exact Base.heap_alloc_new' _ _
  refine iq_seq (iq_reg (is_get rfl rfl (e_move rfl) (is_call rfl rfl (e_fn rfl) (each_nil w4) ?_)))
  rintro v w5 ⟨hE, X5⟩
  obtain ⟨vb, ea, ecap, edb, rfl, e2, e3, e4, e5⟩ := hE.ex
  refine is_get rfl rfl (e_assign rfl) (is_end (ix_then ?_))
  refine iq_seq (iq_seq (iq_reg (is_get rfl rfl (e_move rfl) (is_get rfl rfl (e_fnneq rfl rfl) (is_end (ix_then ?_))))))
  have X15 : Ext w1 w5 := (X13.trans X4).trans X5
  refine iq_mid [markD w5.heap.size] [(11, .pointer (some ⟨w3.heap.size, 0, none⟩)), (4, .pointer none), (0, .pointer (some ⟨w.heap.size, 0, none⟩))] (fun w' => w'.heap[w5.heap.size]? = some (.deferred (some [])) ∧ Ext w5 w') ?_ ?_
  · refine iq_yes rfl ?_
    refine iq_seq (iq_reg (is_get rfl rfl (e_move rfl) (is_end (ix_then ?_))))
    refine iq_block ?_
    refine iq_rangeFunc rfl (fun rok v w' => (∃ r, w'.heap[w5.heap.size + 1]? = some (.loop r) ∧ rok r) ∧ w'.heap[w5.heap.size]? = some (.deferred (some [])) ∧ Ext w5 w') ?_ ?_
    · intro rok hrok r hr
      have hrl : ((w5.alloc (.deferred (some []))).alloc (.loop r)).heap[w5.heap.size + 1]? = some (.loop r) := by
        have := Base.heap_alloc_new' (w5.alloc (.deferred (some []))) (.loop r)
        rwa [World.size_alloc] at this
      have hdl : ((w5.alloc (.deferred (some []))).alloc (.loop r)).heap[w5.heap.size]? = some (.deferred (some [])) := by
        rw [Base.heap_alloc_old _ (by simp)]; exact Base.heap_alloc_new' _ _
      refine Ret.mono (each2_ret (lp := w5.heap.size + 1) (M := []) (fun _ w' => (∃ r, w'.heap[w5.heap.size + 1]? = some (.loop r) ∧ rok r) ∧ w'.heap[w5.heap.size]? = some (.deferred (some [])) ∧ Ext w5 w') (fun _ => False) (a := ea) (cap := ecap) (db := edb) ?_ ?_ ?_ (by simp) ⟨⟨r, hrl, hr⟩, hdl, ((Ext.refl w5).alloc _).alloc _⟩) ?_
      · rintro i w' ⟨_, _, X⟩
        exact ⟨by rw [cell_of (X.at e2)]; rfl, e3.ext X⟩
      · rintro i w' w'' ⟨⟨r, h1, h2⟩, h3, X⟩ X'
        exact ⟨⟨r, X'.at h1, h2⟩, X'.at h3, X.trans X'⟩
      · intro i e w' h; simp at h
      · rintro v w' ⟨rfl, h | h⟩
        · exact h
        · exact h.elim
    · rintro rok hrok v w' ⟨⟨r', g1, g2⟩, hd, X⟩
      obtain ⟨g3, -⟩ := hrok r' g2
      have K : Kept (fun i => i = w5.heap.size + 1) w' (setBlock w' (w5.heap.size + 1) (.loop { r' with state := .exhausted })) := Kept.setBlock _ _ _ rfl
      exact ⟨r', g1, by rw [g3.state]; simp, .inl ⟨g3.pending, ix_block_normal (ix_mid ⟨rfl, rfl, rfl, trivial⟩ ⟨K.at hd (by omega), X.then K fun i hi => .inr (by omega)⟩)⟩⟩
  · rintro w6 ⟨hd, X6⟩
    have b6 := (X5.trans X6).at b4
    have hcz : Cells w6 w3.heap.size 0 zero7 := fun j v hj => by rw [cell_of b6, Nat.zero_add]; simpa using hj
    have b16 := (X15.trans X6).at b1
    refine iq_seq (iq_draw (Ext _) [2] (nd_t rfl (nd_c (nd_t rfl (nd_t rfl (nd_t rfl trivial))))) (d_pure (i := 0) rfl rfl rfl (by kernel_rfl) (fun w' => (e_move rfl)) (d_head (i := 2) rfl rfl rfl (by kernel_rfl) (by kernel_rfl) (Ext.refl _) (fun w' hS => (e_ldn rfl rfl (hS.cells hcz))) (d_call (i := 1) rfl rfl rfl (by kernel_rfl) (e_fn rfl) (spread_nil w6) (fun _ _ h => .inr h.2) ?_))))
    rintro _ w7 ⟨rfl, X7⟩
    have b7 := X7.at b16
    have c7 : w7.cell? ⟨w.heap.size, 0, none⟩ = some (.bool false) := by rw [cell_of b7]; rfl
    refine d_pure (i := 3) rfl rfl rfl (by kernel_rfl) (fun w' => (e_aeq (a:=List.replicate 7 0) (b:=List.replicate 7 0) rfl rfl rfl rfl)) (d_set (i := 4) rfl rfl (by kernel_rfl) (e_st rfl rfl rfl c7 (free_of b7 0)) (.inl (by kernel_rfl)) (d_end (by kernel_rfl) (x_bare (ix_then ?_))))
    have hz1 := lt_of_at b1
    have hz5 := X15.size
    have hd7 := X7.at hd
    have K8 : Kept (fun i => i = w.heap.size) w7 (w7.setCell ⟨w.heap.size, 0, none⟩ (.bool true)) := Kept.setCell _ _ _ rfl
    have hd8 : (w7.setCell ⟨w.heap.size, 0, none⟩ (.bool true)).heap[w5.heap.size]? = some (.deferred (some [])) := K8.at hd7 (by omega)
    have K9 : Kept (fun i => i = w5.heap.size) (w7.setCell ⟨w.heap.size, 0, none⟩ (.bool true)) (setBlock (w7.setCell ⟨w.heap.size, 0, none⟩ (.bool true)) w5.heap.size (.deferred none)) := Kept.setBlock _ _ _ rfl
    refine iq_ret (ixm_retmc1 (.inl rfl) rfl rfl hd8 (v := .bool true) (K9.cell (cs_eq c7) (by show ¬ w.heap.size = _; omega)) ⟨rfl, ?_⟩)
    exact (((X1.trans X15).trans X6).trans X7 |>.then K8 fun i hi => .inr (by omega)).then K9 fun i hi => .inr (by have := X1.size; omega)
end Go.Proofs.Ytogfllhbgkeinaa.Wheel

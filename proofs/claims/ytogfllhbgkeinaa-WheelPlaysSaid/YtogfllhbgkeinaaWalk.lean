/-
  walked: the first names that Each goes over.
-/
import Derived.Test.YtogfllhbgkeinaaEach
set_option linter.unusedVariables false
set_option linter.unusedSimpArgs false
namespace Go.Proofs.Ytogfllhbgkeinaa.Wheel
open Go.RowKit Base Lev Wa Eng Wb Spc
open Go.ChangeMaps (setBlock)
variable {w : World} {wb mb now : Nat} {H : List Tm} {sl : Nat → Nat → List Tm} {kv : KV} {M : List Ent} {B : Nat → Prop}

def walkN (most : Int) (M : List Ent) : List Ent := if most < 1 then [] else M.take most.toNat
/-- what stands between two rounds -/
structure WkJ (w3 : World) (cb : Nat) (rok : Loop → Prop) (N : List Ent) (w' : World) : Prop where
  rec_ : ∃ r, w'.heap[w3.heap.size + 1]? = some (.loop r) ∧ rok r
  def_ : w'.heap[w3.heap.size]? = some (.deferred (some []))
  kept : Kept (fun k => k = cb) w3 w'
  size : w3.heap.size + 2 ≤ w'.heap.size
  list : ∃ a cap db, w'.heap[cb]? = some (.cells #[.slice a N.length cap] 43 (0, 0)) ∧ Sl w' 46 2 a N.length cap (ents N) db ∧ ∀ b ∈ db, w3.heap.size + 2 ≤ b
theorem WkJ.ext {w3 w1 w2 : World} {cb : Nat} {rok : Loop → Prop} {N : List Ent} (h : WkJ w3 cb rok N w1) (x : Ext w1 w2) : WkJ w3 cb rok N w2 := by
  obtain ⟨r, h1, h2⟩ := h.rec_
  obtain ⟨a, cap, db, h3, h4, h5⟩ := h.list
  exact ⟨⟨r, x.at h1, h2⟩, x.at h.def_, h.kept.trans x fun _ _ h => h.elim, Nat.le_trans h.size x.size, a, cap, db, x.at h3, h4.ext x, h5⟩
theorem WkJ.loop {w3 w1 : World} {cb : Nat} {rok rok' : Loop → Prop} {N : List Ent} (h : WkJ w3 cb rok N w1) (hcb : cb < w3.heap.size) (r : Loop) (hr : rok' r) : WkJ w3 cb rok' N (setBlock w1 (w3.heap.size + 1) (.loop r)) := by
  obtain ⟨r0, h1, h2⟩ := h.rec_
  obtain ⟨a, cap, db, h3, h4, h5⟩ := h.list
  have K : Kept (fun k => k = w3.heap.size + 1) w1 (setBlock w1 (w3.heap.size + 1) (.loop r)) := Kept.setBlock _ _ _ rfl
  exact ⟨⟨r, Base.heap_setBlock_same h1, hr⟩, K.at h.def_ (by omega), h.kept.then K fun i hi => .inr (by omega), Nat.le_trans h.size K.size, a, cap, db, K.at h3 (by omega), h4.kept K (fun x hx => by have := h5 x hx; omega), h5⟩
theorem walked_ret (W : IsW w wb now M B) (most : Int) : Ret Try.prog 19 #[ptr (some wb), .int .i64 most] w fun v w' => ∃ a cap db, v = .slice a (walkN most M).length cap ∧
    Sl w' 46 2 a (walkN most M).length cap (ents (walkN most M)) db ∧ (∀ b ∈ db, w.heap.size ≤ b) ∧ Ext w w' := by
  refine ret_of_in (vs := [_, _]) Try.func19 rfl Try.ntmps19 rfl fun z => ?_
  refine iq_seq (iq_reg (is_val rfl rfl (e_box rfl) (is_get rfl rfl (e_assign rfl) (is_end (ix_then ?_)))))
  obtain ⟨w1, hw1⟩ : ∃ w1, w1 = w.alloc (.cells (Value.int .i64 most).cells 3) := ⟨_, rfl⟩
  rw [← hw1]
  have X1 : Ext w w1 := hw1 ▸ (Ext.refl w).alloc _
  have b1 : w1.heap[w.heap.size]? = some (.cells #[.int .i64 most] 3 (0, 0)) := by rw [hw1]; exact Base.heap_alloc_new' _ _
  refine iq_seq (iq_reg (is_val rfl rfl e_alloc (is_end (ix_then ?_))))
  obtain ⟨w2, hw2⟩ : ∃ w2, w2 = w1.alloc (.cells (Value.slice none 0 0).cells 43) := ⟨_, rfl⟩
  rw [← hw2]
  have X2 : Ext w1 w2 := hw2 ▸ (Ext.refl w1).alloc _
  have b2 : w2.heap[w1.heap.size]? = some (.cells #[.slice none 0 0] 43 (0, 0)) := by rw [hw2]; exact Base.heap_alloc_new' _ _
  have W2 := W.kept (X1.trans X2) fun _ _ h => h
  refine iq_seq (iq_reg (is_get rfl rfl (e_move rfl) (is_call rfl rfl (e_fn rfl) (each_ret W2) ?_)))
  rintro v w3 ⟨hE, X3⟩
  obtain ⟨vb, ea, ecap, edb, rfl, e2, e3, e4, e5⟩ := hE.ex
  refine is_get rfl rfl (e_assign rfl) (is_end (ix_then ?_))
  have c3 : ∀ w', Ext w1 w' → w'.cell? ⟨w.heap.size, 0, none⟩ = some (.int .i64 most) := fun w' X => by rw [cell_of (X.at b1)]; rfl
  have b3 := X3.at b2
  have c5 : w3.cell? ⟨w1.heap.size, 0, none⟩ = some (.slice none 0 0) := by rw [cell_of b3]; rfl
  refine iq_seq (iq_seq (iq_reg (is_get rfl rfl (e_move rfl) (is_get rfl rfl (e_fneql rfl rfl) (is_get rfl rfl (e_move rfl) (is_on rfl rfl (is_get rfl rfl (e_ld rfl (c3 w3 (X2.trans X3))) (is_on rfl rfl (is_get rfl rfl (e_lss rfl rfl) (is_get rfl rfl (e_pickF rfl rfl) (is_end (ix_then ?_))))))))))))
  have hcb : w1.heap.size < w3.heap.size := lt_of_at b3
  have hmb : w.heap.size < w1.heap.size := lt_of_at b1
  by_cases hmost : most < 1
  · refine iq_yes (by show some (Value.bool (decide (most < 1))) = _; rw [decide_eq_true hmost]) ?_
    refine iq_seq (iq_reg (is_get rfl rfl (e_ld rfl c5) (is_get rfl rfl (e_assign rfl) (is_end (ix_then ?_)))))
    have hN : walkN most M = [] := by unfold walkN; rw [if_pos hmost]
    rw [hN]
    exact iq_ret (ix_then_ret (ixm_ret1 (.inl rfl) rfl rfl ⟨none, 0, none, rfl, .nil, by simp, (X1.trans X2).trans X3⟩))
  refine iq_no (by show some (Value.bool (decide (most < 1))) = _; rw [decide_eq_false hmost]) (iq_skip (ix_then ?_))
  refine iq_seq (iq_seq (iq_reg (is_get rfl rfl (e_move rfl) (is_end (ix_then ?_)))))
  have hN : walkN most M = M.take most.toNat := by unfold walkN; rw [if_neg hmost]
  refine iq_mid [markD w3.heap.size] [(5, .pointer (some ⟨w1.heap.size, 0, none⟩))] (fun w' => WkJ w3 w1.heap.size (fun _ => True) (walkN most M) w') ?_ ?_
  case refine_2 =>
    intro w4 h4
    obtain ⟨a, cap, db, g1, g2, g3⟩ := h4.list
    have c5 : w4.cell? ⟨w1.heap.size, 0, none⟩ = some (.slice a (walkN most M).length cap) := by rw [cell_of g1]; rfl
    refine iq_seq (iq_reg (is_get rfl rfl (e_ld rfl c5) (is_get rfl rfl (e_assign rfl) (is_end (ix_then ?_)))))
    have K : Kept (fun k => k = w3.heap.size) w4 (setBlock w4 w3.heap.size (.deferred none)) := Kept.setBlock _ _ _ rfl
    refine iq_ret (ixm_retm1 (.inl rfl) rfl rfl h4.def_ ⟨a, cap, db, rfl, g2.kept K (fun x hx => by have := g3 x hx; omega), fun b hb => ?_, ?_⟩)
    · have := g3 b hb
      have := (X1.trans X2).trans X3
      have := this.size
      omega
    · have hX := (X1.trans X2).trans X3
      have hs := hX.size
      have h5 : Ext w w4 := hX.then h4.kept fun i hi => .inr (by omega)
      exact h5.then K fun i hi => .inr (by omega)
  refine iq_block ?_
  refine iq_rangeFunc rfl (fun rok v w' => v = .tuple #[] ∧ (WkJ w3 w1.heap.size rok (M.take M.length) w' ∧ (M.length : Int) < most ∨ WkJ w3 w1.heap.size (fun r => r.state = .done ∧ r.pending = some (.exit 0)) (walkN most M) w')) ?_ ?_
  · intro rok hrok r hr
    have hz3 : ((w3.alloc (.deferred (some []))).alloc (.loop r)).heap.size = w3.heap.size + 2 := by simp
    have X4 : Ext w3 ((w3.alloc (.deferred (some []))).alloc (.loop r)) := ((Ext.refl w3).alloc _).alloc _
    have hrl : ((w3.alloc (.deferred (some []))).alloc (.loop r)).heap[w3.heap.size + 1]? = some (.loop r) := by
      have := Base.heap_alloc_new' (w3.alloc (.deferred (some []))) (.loop r)
      rwa [World.size_alloc] at this
    have hdl : ((w3.alloc (.deferred (some []))).alloc (.loop r)).heap[w3.heap.size]? = some (.deferred (some [])) := by
      rw [Base.heap_alloc_old _ (by simp)]; exact Base.heap_alloc_new' _ _
    have h0 : WkJ w3 w1.heap.size rok (M.take 0) ((w3.alloc (.deferred (some []))).alloc (.loop r)) := by
      refine ⟨⟨r, hrl, hr⟩, hdl, X4.kept _, by rw [hz3]; omega, none, 0, none, X4.at b3, ?_, by simp⟩
      rw [List.take_zero]; exact .nil
    refine Ret.mono (each2_ret (lp := w3.heap.size + 1) (M := M) (fun i w' => WkJ w3 w1.heap.size rok (M.take i) w' ∧ (i : Int) < most) (WkJ w3 w1.heap.size (fun r => r.state = .done ∧ r.pending = some (.exit 0)) (walkN most M)) (a := ea) (cap := ecap) (db := edb) ?_ ?_ ?_ (by have := W.len; omega) ⟨h0, by omega⟩) ?_
    · rintro i w' ⟨hj, _⟩
      have hlt2 : w1.heap.size < w2.heap.size := lt_of_at b2
      have hvb : vb ≠ w1.heap.size := by omega
      refine ⟨?_, e3.kept hj.kept fun x hx => ?_⟩
      · rw [cell_of (hj.kept.at e2 hvb)]; rfl
      · have := (e5 x hx).1; omega
    · rintro i w' w'' ⟨hj, hlt⟩ X
      exact ⟨hj.ext X, hlt⟩
    · rintro i e w4 he ⟨hj, hlt⟩
      obtain ⟨r', g1, g0⟩ := hj.rec_
      obtain ⟨g2, g3⟩ := hrok r' g0
      refine yl_of (n := 32) (ps := [19, 20]) (vs := [.string e.1, .int .i64 e.2]) g1 g2.params rfl g2.fit rfl fun zz => ?_
      rw [g2.assign, g2.body]
      refine iq_seq (iq_reg (is_get rfl rfl (e_assign rfl) (is_end (ix_then ?_))))
      refine iq_reg (is_get rfl rfl (e_assign rfl) (is_end ?_))
      refine ix_begin g1 g2.state ?_
      obtain ⟨w5, hw5⟩ : ∃ w5, w5 = setBlock w4 (w3.heap.size + 1) (.loop { r' with state := .busy }) := ⟨_, rfl⟩
      rw [← hw5]
      have h5 : WkJ w3 w1.heap.size (fun r => r = { r' with state := .busy }) (M.take i) w5 := hw5 ▸ hj.loop hcb _ rfl
      have hi : i < M.length := (List.getElem?_eq_some_iff.1 he).1
      have hlen : (M.take i).length = i := by rw [List.length_take]; omega
      have hM := W.len
      have htk : M.take (i + 1) = M.take i ++ [e] := by rw [List.take_add_one, he]; rfl
      obtain ⟨a, cap, db, s1, s2, s3⟩ := h5.list
      have c5' : w5.cell? ⟨w1.heap.size, 0, none⟩ = some (.slice a (M.take i).length cap) := by rw [cell_of s1]; rfl
      refine iq_block ?_
      have X5 : Ext w5 (w5.alloc (.cells [.string e.1, .int .i64 e.2].toArray 46)) := (Ext.refl w5).alloc _
      have s7 := s2.ext X5
      have s8 := Sl.made (w := w5) (e := 46) (sz := 2) (cs := ents [e]) (len := 1) rfl (ents_one _)
      refine iq_seq (iq_reg (is_get rfl rfl (e_ld rfl c5') (is_get rfl rfl (e_move rfl) (is_get rfl rfl (e_move rfl) (is_get rfl rfl (e_build [.string e.1,.int .i64 e.2] rfl (by kernel_rfl)) (is_val rfl rfl (e_buildSlice [.string e.1,.int .i64 e.2] rfl rfl rfl rfl (fill_one rfl rfl)) (is_rel rfl rfl (e_append rfl rfl s7 s8 (by omega)) ?_)))))))
      rintro _ w6 ⟨a', cap', b', rfl, s9, k9, e9⟩
      have s6 := k9.at (X5.at s1) fun h => by have := s3 _ h; omega
      have c6 : w6.cell? ⟨w1.heap.size, 0, none⟩ = some (.slice a (M.take i).length cap) := by rw [cell_of s6]; rfl
      refine is_set rfl (e_st rfl rfl rfl c6 (free_of s6 0)) (is_end (ix_then ?_))
      obtain ⟨w7, hw7⟩ : ∃ w7, w7 = w6.setCell ⟨w1.heap.size, 0, none⟩ (.slice a' ((M.take i).length + 1) cap') := ⟨_, rfl⟩
      have h7 : WkJ w3 w1.heap.size (fun r => r = { r' with state := .busy }) (M.take (i + 1)) w7 := by
        have hz5 := X5.size
        have h59 : Kept (fun k => w3.heap.size + 2 ≤ k) w5 w6 := (X5.kept _).trans (k9.mono fun k _ h => s3 k h) fun _ _ h => h
        have h67 : Kept (fun k => k = w1.heap.size) w6 w7 := hw7 ▸ Kept.setCell w6 ⟨w1.heap.size, 0, none⟩ _ rfl
        obtain ⟨r5, q1, q2⟩ := h5.rec_
        have hb' : ∀ x ∈ b', w3.heap.size + 2 ≤ x := fun x hx => by
          rcases e9 with h | ⟨h, _⟩
          · rw [h] at hx; exact s3 x hx
          · rw [h] at hx; cases hx; exact Nat.le_trans h5.size hz5
        refine ⟨⟨r5, h67.at (h59.at q1 (by omega)) (by omega), q2⟩, h67.at (h59.at h5.def_ (by omega)) (by omega), ?_, ?_, a', cap', b', ?_, ?_, hb'⟩
        · exact (h5.kept.then h59 fun k hk => .inr (by omega)).trans h67 fun _ _ h => h
        · have := h5.size; have := h59.size; have := h67.size; omega
        · rw [hw7, Base.heap_setCell_same s6, htk, List.length_append]; rfl
        · rw [htk, List.length_append, ents_append]
          exact s9.kept h67 fun x hx => by have := hb' x hx; omega
      have c7 : w7.cell? ⟨w1.heap.size, 0, none⟩ = some (.slice a' ((M.take i).length + 1) cap') := by rw [hw7]; exact cs_eq c6
      have c8 : w7.cell? ⟨w.heap.size, 0, none⟩ = some (.int .i64 most) := by
        rw [cell_of (h7.kept.at ((X2.trans X3).at b1) (by omega))]; rfl
      rw [hw7] at c7 c8
      refine iq_seq (iq_reg (is_get rfl rfl (e_ld rfl c7) (is_get rfl rfl (e_len rfl) (is_get rfl rfl (e_ld rfl c8) (is_get rfl rfl (e_geq rfl rfl) (is_end (ix_then ?_)))))))
      rw [← hw7]
      obtain ⟨r7, q1, q2⟩ := h7.rec_
      subst q2
      refine iq_dec rfl (fun h => ?_) fun h => ?_
      · have h' : most ≤ ((M.take i).length + 1 : Nat) := h
        refine iq_exit (ix_block_past rfl (ix_round_exit q1 (Nat.le_refl _) (.inr ⟨rfl, ?_⟩)))
        have e1 : walkN most M = M.take (i + 1) := by rw [hN]; congr 1; omega
        rw [e1]
        exact h7.loop hcb _ ⟨rfl, rfl⟩
      · have h' : ¬ most ≤ ((M.take i).length + 1 : Nat) := h
        refine iq_skip (ix_block_normal (ix_round q1 (Nat.le_refl _) (.inl ⟨rfl, ?_, by omega⟩)))
        exact h7.loop hcb _ g3
    · rintro v w' ⟨rfl, ⟨h1, h2⟩ | h1⟩
      · exact ⟨rfl, .inl ⟨h1, h2⟩⟩
      · exact ⟨rfl, .inr h1⟩
  · rintro rok hrok v w4 ⟨rfl, ⟨h4, hlt⟩ | h4⟩
    · obtain ⟨r', g1, g2⟩ := h4.rec_
      have g2 := (hrok r' g2).1
      refine ⟨r', g1, by rw [g2.state]; simp, .inl ⟨g2.pending, ?_⟩⟩
      refine ix_block_normal (ix_mid ⟨rfl, trivial⟩ ?_)
      have := h4.loop hcb { r' with state := .exhausted } (rok' := fun _ => True) trivial
      rw [hN, List.take_of_length_le (by omega)]
      rw [List.take_length] at this
      exact this
    · obtain ⟨r', g1, g2, g3⟩ := h4.rec_
      refine ⟨r', g1, by rw [g2]; simp, .inr ⟨_, g3, ?_⟩⟩
      exact iq_exit (ix_block_exit (ix_mid ⟨rfl, trivial⟩ (h4.loop hcb { r' with state := .exhausted } (rok' := fun _ => True) trivial)))
end Go.Proofs.Ytogfllhbgkeinaa.Wheel

/-
  Each: the wheel's names in a list of their own, by time and name; and the function that goes over them.
-/
import Derived.Test.YtogfllhbgkeinaaPairs
import Derived.Test.YtogfllhbgkeinaaRf
set_option linter.unusedVariables false
set_option linter.unusedSimpArgs false
namespace Go.Proofs.Ytogfllhbgkeinaa.Wheel
open Go.RowKit Base Lev Wa Eng Wb Spc
open Go.ChangeMaps (setBlock)
variable {w : World} {wb mb now : Nat} {H : List Tm} {sl : Nat → Nat → List Tm} {kv : KV} {M : List Ent} {B : Nat → Prop}

/-- v goes over M; all its blocks are lo or behind it -/
structure EachV (w : World) (v : Value) (M : List Ent) (lo : Nat) : Prop where
  ex : ∃ vb a cap db, v = .func (.func 50) #[] #[.pointer (some ⟨vb, 0, none⟩)] ∧ w.heap[vb]? = some (.cells #[.slice a M.length cap] 87 (0, 0)) ∧
    Sl w 89 2 a M.length cap (ents M) db ∧ lo ≤ vb ∧ (∀ b ∈ db, lo ≤ b ∧ b ≠ vb)
theorem EachV.kept {S : Nat → Prop} {w' : World} {v : Value} {lo : Nat} (h : EachV w v M lo) (k : Kept S w w') (hn : ∀ b, lo ≤ b → b < w.heap.size → ¬ S b) : EachV w' v M lo := by
  obtain ⟨vb, a, cap, db, h1, h2, h3, h4, h5⟩ := h.ex
  exact ⟨vb, a, cap, db, h1, k.at h2 (hn _ h4 (lt_of_at h2)), h3.kept k (fun x hx => hn _ (h5 x hx).1 (h3.lt hx)), h4, h5⟩
theorem perm_map_ex {α β : Type} {f : α → β} : ∀ {l : List β} {H : List α}, l.Perm (H.map f) → ∃ H' : List α, H'.Perm H ∧ l = H'.map f
  | [], H, h => by
    have h1 := h.length_eq
    rw [List.length_map] at h1
    have : H = [] := List.eq_nil_of_length_eq_zero h1.symm
    subst this
    exact ⟨[], .refl _, rfl⟩
  | x :: l, H, h => by
    obtain ⟨t, ht, rfl⟩ := List.mem_map.1 (h.mem_iff.1 List.mem_cons_self)
    obtain ⟨A, C, rfl⟩ := List.append_of_mem ht
    rw [List.map_append, List.map_cons] at h
    have h2 := (h.trans List.perm_middle).cons_inv
    rw [← List.map_append] at h2
    obtain ⟨H', p, e⟩ := perm_map_ex h2
    exact ⟨t :: H', (p.cons t).trans List.perm_middle.symm, by rw [e]; rfl⟩
theorem ents_map (L : List Tm) (t : Tm) : ents ((L ++ [t]).map pr) = ents (L.map pr) ++ [.string t.id, .int .i64 t.at_] := by
  rw [List.map_append, ents_append]; rfl
theorem each_ret (W : IsW w wb now M B) : Ret Try.prog 25 #[ptr (some wb)] w fun v w' => EachV w' v M w.heap.size ∧ Ext w w' := by
  obtain ⟨mb, H, sl, kv, h1, h2, h3⟩ := W.ex
  refine ret_of (vs := [_]) Try.func25 rfl Try.ntmps25 rfl fun _ => ?_
  refine q_seq (q_reg (s_get rfl (e_assign rfl) (s_end (x_then ?_))))
  refine q_seq (q_reg (s_val rfl e_alloc (s_end (x_then ?_))))
  obtain ⟨w1, hw1⟩ : ∃ w1, w1 = w.alloc (.cells (Value.slice none 0 0).cells 87) := ⟨_, rfl⟩
  rw [← hw1]
  have X1 : Ext w w1 := hw1 ▸ (Ext.refl w).alloc _
  have hv1 : w1.heap[w.heap.size]? = some (.cells #[.slice none 0 0] 87 (0, 0)) := by rw [hw1]; exact Base.heap_alloc_new' _ _
  have hlt : w.heap.size < w1.heap.size := lt_of_at hv1
  have W1 := h1.kept X1 fun _ _ h => h
  refine q_seq (q_seq (q_reg (s_get rfl (e_move rfl) (s_get rfl (e_pnnil rfl rfl) (s_end (x_then ?_))))))
  refine q_yes rfl ?_
  obtain ⟨o, ho1, ho2⟩ := rng_ex (P := Try.prog) (T := 74) W1.m
  refine q_seq (q_reg (s_get rfl (e_move rfl) (s_get rfl (e_nil rfl) (s_get rfl (e_fld rfl) (s_get rfl (e_ld rfl W1.R.blk.cm) (s_val rfl (e_range rfl ho1) (s_end (x_then ?_))))))))
  obtain ⟨w2, hw2⟩ : ∃ w2, w2 = w1.alloc o := ⟨_, rfl⟩
  rw [← hw2] at ho2 ⊢
  have X2 : Ext w1 w2 := hw2 ▸ (Ext.refl w1).alloc _
  obtain ⟨H', hp', hkv⟩ := perm_map_ex W1.kp
  rw [hkv] at ho2
  refine q_block ?_
  refine q_loop (α := List Tm × List Tm × Option Addr × Nat) (fun x => [(12, .pointer (some ⟨w1.heap.size, 0, none⟩)), (3, .pointer (some ⟨w.heap.size, 0, none⟩))])
    (fun x w' => MIter w' w1.heap.size mb (H'.map kvOf) (x.1.map kvOf) (x.2.1.map kvOf) ∧ (x.1 ++ x.2.1).Perm H ∧ w'.heap[w.heap.size]? = some (.cells #[.slice x.2.2.1 x.1.length x.2.2.2] 87 (0, 0)) ∧
      ∃ db, Sl w' 89 2 x.2.2.1 x.1.length x.2.2.2 (ents (x.1.map pr)) db ∧ (∀ b ∈ db, w.heap.size ≤ b ∧ b ≠ w.heap.size ∧ b ≠ w1.heap.size) ∧ Ext w w' ∧ w1.heap.size < w'.heap.size)
    (fun x => x.2.1.length) ([], H', none, 0) ⟨rfl, rfl, trivial⟩ ⟨ho2, hp', X2.at hv1, none, .nil, by simp, X1.trans X2, by rw [hw2]; simp⟩ ?_
  rintro ⟨TV, TL, a, cap⟩ w3 ⟨hi, hp, hv, db, hs, hdb, X3, hlt3⟩
  dsimp only at hi hp hv hs
  refine q_seq (q_reg (s_rel rfl (e_next rfl hi) ?_))
  rintro _ w4 (⟨hL, rfl, rfl⟩ | ⟨p, L1, L2, hL, rfl, hi4, K4⟩)
  · have hTL : TL = [] := List.map_eq_nil_iff.1 hL
    subst hTL
    refine s_get rfl (e_ext rfl rfl) (s_end (x_then ?_))
    refine q_seq (q_no rfl ?_)
    refine q_exit (x_then_exit (x_then_exit (x_block_exit (x_then ?_))))
    have cv : w4.cell? ⟨w.heap.size, 0, none⟩ = some (.slice a TV.length cap) := by rw [cell_of hv]; rfl
    rw [List.append_nil] at hp
    have hpM : (TV.map pr).Perm M := (hp.map pr).trans h2
    have hlM : TV.length = M.length := by have := hpM.length_eq; rwa [List.length_map] at this
    have hs' : Sl w4 89 2 a (TV.map pr).length cap (ents (TV.map pr)) db := by rw [List.length_map]; exact hs
    have hnd : (TV.map pr).Nodup := hpM.nodup_iff.2 (map_nodup W.names)
    have hsort := sortP_ret hs' hnd (by have := W.len; rw [List.length_map]; omega)
    rw [List.length_map] at hsort
    refine q_seq (q_reg (s_get rfl (e_ld rfl cv) (s_call rfl (e_fn rfl) hsort ?_)))
    rintro _ w5 ⟨rfl, D', g1, g2, g3, K5⟩
    obtain rfl : D' = M := srt_eq g2 W.srt (g1.trans hpM)
    refine s_end (x_then ?_)
    refine q_seq (q_reg (s_get rfl (e_makeFunc rfl rfl) (s_get rfl (e_assign rfl) (s_end (x_then ?_)))))
    refine q_ret (x_ret1 (.inl rfl) rfl rfl ⟨⟨w.heap.size, a, cap, db, rfl, ?_, g3, Nat.le_refl _, fun b hb => ⟨(hdb b hb).1, (hdb b hb).2.1⟩⟩, ?_⟩)
    · rw [← hlM]
      exact K5.at hv fun e => (hdb _ e).2.1 rfl
    · exact X3.then K5 fun i hi => .inr (hdb i hi).1
  · obtain ⟨T1, T2', rfl, e1, e2⟩ := List.map_eq_append_iff.1 hL
    obtain ⟨t, T2, rfl, e3, e4⟩ := List.map_eq_cons_iff.1 e2
    subst e3
    have htH : t ∈ H := hp.mem_iff.1 (by simp)
    have X4 : Ext w w4 := X3.then K4 fun i hi => .inr (by rw [hi]; omega)
    have hv4 := K4.at hv (by omega)
    have hs4 := hs.kept K4 fun x hx => (hdb x hx).2.2
    obtain ⟨pq, qq, hT⟩ := h1.R.tblk htH
    have hT4 : TBlk w4 t pq qq := by unfold TBlk at *; exact X4.at hT
    have cv : w4.cell? ⟨w.heap.size, 0, none⟩ = some (.slice a TV.length cap) := by rw [cell_of hv4]; rfl
    have hlen : TV.length + 1 ≤ 4096 := by
      have h5 := hp.length_eq
      rw [List.length_append, List.length_append, List.length_cons] at h5
      have := h1.ln
      omega
    refine s_get rfl (e_ext rfl rfl) (s_end (x_then ?_))
    refine q_seq (q_yes rfl ?_)
    refine q_skip (x_then ?_)
    refine q_block ?_
    refine q_seq (q_reg (s_get rfl (e_entry rfl hi4) (s_get rfl (e_ext rfl rfl) (s_get rfl (e_ext rfl rfl) (s_get rfl (e_assign rfl) (s_get rfl (e_assign rfl) (s_end (x_then ?_))))))))
    have X5 : Ext w4 (w4.alloc (.cells [.string t.id, .int .i64 t.at_].toArray 89)) := (Ext.refl w4).alloc _
    have s7 := hs4.ext X5
    have s8 := Sl.made (w := w4) (e := 89) (sz := 2) (cs := ents [pr t]) (len := 1) rfl (ents_one _)
    refine d_begin (Ext _) [0, 5] (d_head (i := 0) rfl rfl rfl (by kernel_rfl) (by kernel_rfl) (Ext.refl _) (fun w' hS => (e_ld rfl (hS.cell cv))) (d_pure (i := 1) rfl rfl rfl (by kernel_rfl) (fun w' => (e_move rfl)) (d_pure (i := 2) rfl rfl rfl (by kernel_rfl) (fun w' => (e_move rfl)) (d_pure (i := 3) rfl rfl rfl (by kernel_rfl) (fun w' => (e_nil rfl)) (d_pure (i := 4) rfl rfl rfl (by kernel_rfl) (fun w' => (e_fld rfl)) (d_head (i := 5) rfl rfl rfl (by kernel_rfl) (by kernel_rfl) (Ext.refl _) (fun w' hS => (e_ld rfl (hS.cell hT4.c.2.1))) (d_pure (i := 6) rfl rfl rfl (by kernel_rfl) (fun w' => (e_build [.string t.id,.int .i64 t.at_] rfl (by kernel_rfl))) (d_val (i := 7) rfl rfl rfl (by kernel_rfl) (e_buildSlice [.string t.id,.int .i64 t.at_] rfl rfl rfl rfl (fill_one rfl rfl)) (.inr X5) (d_rel (i := 8) rfl rfl rfl (by kernel_rfl) (e_append rfl rfl s7 s8 (by first | omega | (dsimp only; omega))) (fun _ _ _ => .inl (by kernel_rfl)) ?_)))))))))
    rintro _ w6 ⟨a', cap', b', rfl, s9, k9, e9⟩
    have X6 : Ext w w6 := (X4.trans X5).then k9 fun i hi => .inr (hdb i hi).1
    have hv6 := k9.at (X5.at hv4) fun e => (hdb _ e).2.1 rfl
    have cv6 : w6.cell? ⟨w.heap.size, 0, none⟩ = some (.slice a TV.length cap) := by rw [cell_of hv6]; rfl
    have hmb : mb < w.heap.size := h1.m.lt
    have hi6 := (hi4.kept X5 (fun h => h) fun h => h).kept k9 (fun e => (hdb _ e).2.2 rfl) fun e => by have := (hdb _ e).1; omega
    have hz4 : w4.heap.size ≤ (w4.alloc (.cells [.string t.id, .int .i64 t.at_].toArray 89)).heap.size := X5.size
    have hlt4 : w1.heap.size < w4.heap.size := Nat.lt_of_lt_of_le hlt3 K4.size
    have hb' : ∀ x ∈ b', w.heap.size ≤ x ∧ x ≠ w.heap.size ∧ x ≠ w1.heap.size := fun x hx => by
      rcases e9 with e | ⟨e, _⟩
      · rw [e] at hx; exact hdb x hx
      · rw [e] at hx; cases hx; omega
    refine d_set (i := 9) rfl rfl (by kernel_rfl) (e_st rfl rfl rfl cv6 (free_of hv6 0)) (.inl (by kernel_rfl)) (d_end (by kernel_rfl) (x_block_normal ?_))
    refine x_again (TV ++ [t], T1 ++ T2, a', cap') ⟨rfl, rfl, trivial⟩ ⟨?_, ?_, ?_, b', ?_, hb', ?_, ?_⟩ (by simp)
    · have := hi6.kept (S := fun i => i = w.heap.size) (Kept.setCell w6 ⟨w.heap.size, 0, none⟩ (.slice a' (TV.length + 1) cap') rfl) (by omega) (by omega)
      show MIter _ _ _ _ ((TV ++ [t]).map kvOf) ((T1 ++ T2).map kvOf)
      rw [List.map_append, List.map_append, e1, e4]
      exact this
    · refine List.Perm.trans ?_ hp
      show (TV ++ [t] ++ (T1 ++ T2)).Perm (TV ++ (T1 ++ t :: T2))
      rw [List.append_assoc]
      exact List.Perm.append_left TV (List.perm_middle (a := t) (l₁ := T1) (l₂ := T2)).symm
    · have := Base.heap_setCell_same hv6 0 (.slice a' (TV.length + 1) cap')
      rw [this]
      show some (Obj.cells #[_] _ _) = some (Obj.cells #[.slice a' (TV ++ [t]).length cap'] _ _)
      rw [List.length_append]; rfl
    · have h5 := s9.kept (S := fun i => i = w.heap.size) (Kept.setCell w6 ⟨w.heap.size, 0, none⟩ (.slice a' (TV.length + 1) cap') rfl) fun x hx => (hb' x hx).2.1
      show Sl _ _ 2 a' (TV ++ [t]).length cap' (ents ((TV ++ [t]).map pr)) b'
      rw [List.length_append, ents_map]
      exact h5
    · exact X6.then (Kept.setCell w6 ⟨w.heap.size, 0, none⟩ (.slice a' (TV.length + 1) cap') (S := fun i => i = w.heap.size) rfl) fun i hi => .inr (by omega)
    · have h5 := k9.size
      simp only [World.size_setCell]
      omega

/-! ### Going over it -/
theorem ents_eq (M : List Ent) : ents M = M.flatMap ecells := rfl
theorem ecells_len (e : Ent) : (ecells e).length = 2 := rfl
theorem each2_ret {lp vb cap : Nat} {a : Option Addr} {db : Option Nat} {M : List Ent} (J : Nat → World → Prop) (Jx : World → Prop)
    (hv : ∀ i w, J i w → w.cell? ⟨vb, 0, none⟩ = some (.slice a M.length cap) ∧ Sl w 89 2 a M.length cap (ents M) db) (hK : ∀ i w w', J i w → Ext w w' → J i w')
    (hy : ∀ i e w, M[i]? = some e → J i w → Yl Try.prog lp #[.string e.1, .int .i64 e.2] w fun v w' => (v = .bool true ∧ J (i + 1) w') ∨ (v = .bool false ∧ Jx w')) (hl : M.length ≤ 4096) (h0 : J 0 w) :
    Ret Try.prog 50 #[.func (.yield lp) #[] #[], .pointer (some ⟨vb, 0, none⟩)] w fun v w' => v = .tuple #[] ∧ (J M.length w' ∨ Jx w') := by
  refine ret_of_in (vs := [_, _]) Try.func50 rfl Try.ntmps50 rfl fun _ => ?_
  refine iq_seq (iq_reg (is_get rfl rfl (e_ld rfl ((hv 0 w h0).1)) (is_get rfl rfl (e_len rfl) (is_get rfl rfl (e_move rfl) (is_end (ix_then ?_))))))
  refine iq_block ?_
  refine iq_loop (α := Nat) (fun i => [(7, .int .i64 i), (6, .int .i64 M.length), (5, .slice a M.length cap), (0, .func (.yield lp) #[] #[])]) (fun i w' => J i w' ∧ i ≤ M.length) (fun i => M.length - i) 0 ⟨rfl, rfl, rfl, rfl, trivial⟩ ⟨h0, Nat.zero_le _⟩ ?_
  rintro i w1 ⟨hj, hi⟩
  refine iq_seq (iq_reg (is_get rfl rfl (e_lss rfl rfl) (is_end (ix_then ?_))))
  rcases Nat.lt_or_ge i M.length with hlt | hge
  · have hlt' : (i : Int) < M.length := by omega
    refine iq_seq (iq_yes (by show some (Value.bool (decide ((i : Int) < M.length))) = _; rw [decide_eq_true hlt']) ?_)
    refine iq_skip (ix_then ?_)
    refine iq_seq (iq_block ?_)
    obtain ⟨hcv, hs⟩ := hv i w1 hj
    obtain ⟨e, he⟩ : ∃ e, M[i]? = some e := ⟨M[i], List.getElem?_eq_getElem hlt⟩
    obtain ⟨kb, off, rfl, rfl, _, _⟩ := hs.pos (by omega)
    have hce : Cells w1 kb (off + i * 2) (ecells e) := Sl.elem (enc := ecells) ecells_len hs (by omega) rfl he
    obtain ⟨w2, hw2⟩ : ∃ w2, w2 = w1.alloc (.cells (Value.agg #[.string ⟨#[]⟩, .int .i64 0]).cells 89) := ⟨_, rfl⟩
    have hb2 : w2.heap[w1.heap.size]? = some (.cells #[.string ⟨#[]⟩, .int .i64 0] 89 (0, 0)) := by rw [hw2]; exact Base.heap_alloc_new' _ _
    have X2 : Ext w1 w2 := hw2 ▸ (Ext.refl w1).alloc _
    have g2 : ∀ j, j < (ecells e).length → ((w1.alloc (.cells (Value.agg #[.string ⟨#[]⟩, .int .i64 0]).cells 89)).cell? ⟨w1.heap.size, 0 + j, none⟩).isSome = true := by
      rw [← hw2]; intro j hj; rw [cell_of hb2]; match j, hj with | 0, _ => rfl | 1, _ => rfl
    have g3 : ∀ j, j < (ecells e).length → (w1.alloc (.cells (Value.agg #[.string ⟨#[]⟩, .int .i64 0]).cells 89)).frozen? ⟨w1.heap.size, 0 + j, none⟩ = false := by
      rw [← hw2]; exact fun j _ => free_of hb2 _
    refine iq_seq (iq_reg (is_get rfl rfl (e_idxAt (off+i*2) rfl rfl (by first | omega | (dsimp only; omega)) (by first | omega | (dsimp only; omega)) (by first | omega | (dsimp only; omega))) (is_get rfl rfl (e_ldn rfl rfl hce) (is_val rfl rfl e_alloc (is_set rfl (e_stn (cs:=ecells e) rfl rfl rfl (fun v hv=>ents_one [e] v (by simpa [ents] using hv)) g2 g3) (is_end (ix_then ?_)))))))
    rw [← hw2]
    obtain ⟨w3, hw3⟩ : ∃ w3, w3 = w2.setCells w1.heap.size 0 (ecells e) := ⟨_, rfl⟩
    rw [← hw3]
    have hb3 : w3.heap[w1.heap.size]? = some (.cells #[.string e.1, .int .i64 e.2] 89 (0, 0)) := by
      rw [hw3]; exact Base.heap_setCell_same (Base.heap_setCell_same hb2 0 (.string e.1)) 1 (.int .i64 e.2)
    have X3 : Ext w1 w3 := hw3 ▸ X2.then (kept_setCells (S := fun i => i = w1.heap.size) rfl _ _ _) fun i hi => .inr (by omega)
    have c0 : w3.cell? ⟨w1.heap.size, 0 + 0, none⟩ = some (.string e.1) := by rw [cell_of hb3]; rfl
    have c1 : w3.cell? ⟨w1.heap.size, 0 + 1, none⟩ = some (.int .i64 e.2) := by rw [cell_of hb3]; rfl
    refine iq_seq (iq_reg (is_get rfl rfl (e_move rfl) (is_get rfl rfl (e_fld rfl) (is_get rfl rfl (e_ld rfl c0) (is_get rfl rfl (e_fld rfl) (is_get rfl rfl (e_ld rfl c1) (is_yield rfl rfl (e_yield rfl rfl) (hy i e w3 he (hK i w1 w3 hj X3)) ?_)))))))
    rintro _ w4 (⟨rfl, hj4⟩ | ⟨rfl, hx4⟩)
    · refine is_get rfl rfl (e_not rfl) (is_end (ix_then ?_))
      refine iq_no rfl (iq_skip (ix_block_normal (ix_then ?_)))
      refine iq_reg (is_get rfl rfl (e_add rfl rfl (by first | omega | (dsimp only; omega))) (is_get rfl rfl (e_move rfl) (is_end ?_)))
      exact ix_again (i + 1) ⟨by simp [Eng.look], rfl, rfl, rfl, trivial⟩ ⟨hj4, by omega⟩ (by omega)
    · refine is_get rfl rfl (e_not rfl) (is_end (ix_then ?_))
      refine iq_yes rfl ?_
      refine iq_ret (ix_block_ret (ix_then_ret (ix_then_ret (ix_block_ret (ixm_ret0 (.inl rfl) rfl ⟨rfl, .inr hx4⟩)))))
  · have hge' : ¬ (i : Int) < M.length := by omega
    refine iq_seq (iq_no (by show some (Value.bool (decide ((i : Int) < M.length))) = _; rw [decide_eq_false hge']) ?_)
    obtain rfl : i = M.length := by omega
    refine iq_exit (ix_then_exit (ix_then_exit (ix_block_exit (ixm_ret0 (.inr rfl) rfl ⟨rfl, .inl hj⟩))))
end Go.Proofs.Ytogfllhbgkeinaa.Wheel

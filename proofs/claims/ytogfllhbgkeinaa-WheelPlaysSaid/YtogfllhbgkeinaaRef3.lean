/-
  The document's own wheel: put, cut, Add, Change, Remove.
-/
import Derived.Test.YtogfllhbgkeinaaRef2
set_option linter.unusedVariables false
set_option linter.unusedSimpArgs false
namespace Go.Proofs.Ytogfllhbgkeinaa.Wheel
open Go.RowKit Base Lev Wa Eng Wb Spc
open Go.ChangeMaps (setBlock)
variable {w : World} {rb now : Nat} {M : List Ent} {B : Nat → Prop}

theorem slice_len {a : Option Addr} {n m cap : Nat} (h : n = m) : some (Value.slice a n cap) = some (Value.slice a m cap) := by rw [h]
theorem ents_take (M : List Ent) (k : Nat) : (ents M).take (k * 2) = ents (M.take k) := by
  induction M generalizing k with
  | nil => simp [ents]
  | cons e M ih =>
    cases k with
    | zero => simp [ents]
    | succ k =>
      have := ih k
      unfold ents ecells at *
      simp only [List.flatMap_cons, List.take_succ_cons, List.cons_append, List.nil_append, show (k + 1) * 2 = k * 2 + 1 + 1 by omega, this]
theorem ents_drop (M : List Ent) (k : Nat) : (ents M).drop (k * 2) = ents (M.drop k) := by
  induction M generalizing k with
  | nil => simp [ents]
  | cons e M ih =>
    cases k with
    | zero => simp [ents]
    | succ k =>
      have := ih k
      unfold ents ecells at *
      simp only [List.flatMap_cons, List.drop_succ_cons, List.cons_append, List.nil_append, show (k + 1) * 2 = k * 2 + 1 + 1 by omega, this]
theorem tw_of {p : Ent → Bool} : ∀ {M : List Ent} {i : Nat}, i ≤ M.length → (∀ (j : Nat) (e : Ent), j < i → M[j]? = some e → p e = true) → (∀ e, M[i]? = some e → p e = false) → M.takeWhile p = M.take i ∧ M.dropWhile p = M.drop i
  | [], i, hi, _, _ => by simp
  | x :: M, 0, hi, h1, h2 => by
    have := h2 x rfl
    simp [this]
  | x :: M, i + 1, hi, h1, h2 => by
    have hx := h1 0 x (by omega) rfl
    obtain ⟨g1, g2⟩ := tw_of (M := M) (i := i) (p := p) (by simpa using hi) (fun j e hj he => h1 (j + 1) e (by omega) (by simpa using he)) (fun e he => h2 e (by simpa using he))
    simp [hx, g1, g2]
theorem tw_split (p : Ent → Bool) : ∀ (M : List Ent), M.take (M.takeWhile p).length = M.takeWhile p ∧ M.drop (M.takeWhile p).length = M.dropWhile p
  | [] => by simp
  | x :: M => by
    have ih := tw_split p M
    by_cases h : p x = true
    · simp [h, ih.1, ih.2]
    · simp [h]
theorem ins_tw (t : Ent) : ∀ (M : List Ent), ins t M = M.takeWhile (fun e => elt e t) ++ t :: M.dropWhile fun e => elt e t
  | [] => rfl
  | x :: M => by
    unfold ins
    by_cases h : elt x t = true
    · simp [h, ins_tw t M]
    · simp [h]
theorem cut_eq {id : ByteArray} : ∀ {M : List Ent} {k : Nat} {e : Ent}, (M.map (·.1)).Nodup → M[k]? = some e → e.1 = id → M.take k ++ M.drop (k + 1) = cut id M
  | [], k, e, _, h, _ => by simp at h
  | x :: M, 0, e, hn, h, he => by
    simp only [List.getElem?_cons_zero, Option.some.injEq] at h
    subst h
    simp only [List.map_cons, List.nodup_cons] at hn
    have : cut id M = M := cut_none (atOf_none.2 fun y hy g => hn.1 (List.mem_map.2 ⟨y, hy, g.trans he.symm⟩))
    unfold cut at this ⊢
    simp [List.filter_cons, he, this]
  | x :: M, k + 1, e, hn, h, he => by
    simp only [List.map_cons, List.nodup_cons] at hn
    have h' : M[k]? = some e := by simpa using h
    have ih := cut_eq hn.2 h' he
    have hx : x.1 ≠ id := fun g => hn.1 (List.mem_map.2 ⟨e, List.mem_of_getElem? h', by rw [he, g]⟩)
    unfold cut at ih ⊢
    simp [List.filter_cons, hx, ih]
theorem elt_lt {e t : Ent} (h : (e.2 : Int) < t.2) : elt e t = true := elt_iff.2 (.inl (by omega))
theorem elt_eq {e t : Ent} (h : (e.2 : Int) = t.2) : elt e t = slt e.1 t.1 := by
  have : e.2 = t.2 := by omega
  unfold elt; simp [this]
theorem elt_gt {e t : Ent} (h1 : ¬ (e.2 : Int) < t.2) (h2 : ¬ (e.2 : Int) = t.2) : elt e t = false := by
  unfold elt
  have : ¬ e.2 < t.2 := by omega
  have : ¬ e.2 = t.2 := by omega
  simp [*]
set_option maxHeartbeats 1000000 in
theorem put_ret (h : RW w rb now M B) (hl : M.length ≤ 4096) (t : Ent) : Ret Try.prog 57 #[.pointer (some ⟨rb, 0, none⟩), .agg (ecells t).toArray] w fun v w' => v = .tuple #[] ∧
    ∃ B', RW w' rb now (ins t M) B' ∧ Kept B w w' ∧ Grew w B B' := by
  obtain ⟨a, cap, db, c0, c1, hs, hb, hdb, hB⟩ := h.cells
  refine ret_of (vs := [_, _]) Try.func57 rfl Try.ntmps57 rfl fun _ => ?_
  refine q_seq (q_reg (s_val rfl (e_box rfl) (s_end (x_then ?_))))
  obtain ⟨w1, hw1⟩ : ∃ w1, w1 = w.alloc (.cells (Value.agg (ecells t).toArray).cells 46) := ⟨_, rfl⟩
  rw [← hw1]
  have X1 : Ext w w1 := hw1 ▸ (Ext.refl w).alloc _
  have b1 : w1.heap[w.heap.size]? = some (.cells (ecells t).toArray 46 (0, 0)) := by rw [hw1]; exact Base.heap_alloc_new' _ _
  have t0 : w1.cell? ⟨w.heap.size, 0 + 0, none⟩ = some (.string t.1) := by rw [cell_of b1]; rfl
  have t1 : w1.cell? ⟨w.heap.size, 0 + 1, none⟩ = some (.int .i64 t.2) := by rw [cell_of b1]; rfl
  have c1 := X1.cell c1
  have hs := hs.ext X1
  have hb := X1.at hb
  refine q_seq (q_reg (s_get rfl (e_assign rfl) (s_end (x_then ?_))))
  refine q_seq (q_reg (s_get rfl (e_assign rfl) (s_end (x_then ?_))))
  refine q_seq (q_mid [(5, .int .i64 (M.takeWhile fun e => elt e t).length), (4, .slice none 0 0), (3, .pointer (some ⟨w.heap.size, 0, none⟩)), (0, .pointer (some ⟨rb, 0, none⟩))] (fun w' => w' = w1) ?_ ?_)
  · refine q_block ?_
    refine q_loop (α := Nat) (fun x => [(5, .int .i64 x), (4, .slice none 0 0), (3, .pointer (some ⟨w.heap.size, 0, none⟩)), (0, .pointer (some ⟨rb, 0, none⟩))]) (fun x w' => w' = w1 ∧ x ≤ M.length ∧ ∀ (j : Nat) (e : Ent), j < x → M[j]? = some e → elt e t = true) (fun x => M.length - x) 0 ⟨rfl, rfl, rfl, rfl, trivial⟩ ⟨rfl, by simp, fun j e hj => by omega⟩ ?_
    rintro i w' ⟨hw, hi, hyes⟩
    rw [hw]
    have fin : (∀ e, M[i]? = some e → elt e t = false) → (M.takeWhile fun e => elt e t).length = i := fun hno => by
      rw [(tw_of hi hyes hno).1, List.length_take]; omega
    rcases Nat.lt_or_ge i M.length with hlt | hge
    · obtain ⟨e, he⟩ : ∃ e, M[i]? = some e := ⟨M[i], List.getElem?_eq_getElem hlt⟩
      obtain ⟨kb, off, rfl, hc⟩ := elem_at hs he
      have d0 : w1.cell? ⟨kb, off + i * 2 + 0, none⟩ = some (.string e.1) := hc 0 _ rfl
      have d1 : w1.cell? ⟨kb, off + i * 2 + 1, none⟩ = some (.int .i64 e.2) := hc 1 _ rfl
      have more : elt e t = true → ∀ (j : Nat) (e' : Ent), j < i + 1 → M[j]? = some e' → elt e' t = true := fun he' j e' hj hj' => by
        rcases Nat.lt_or_ge j i with g | g
        · exact hyes j e' g hj'
        · obtain rfl : j = i := by omega
          rw [he] at hj'
          injection hj' with hj'
          rw [← hj']; exact he'
      have hnoF : elt e t = false → (M.takeWhile fun e => elt e t).length = i := fun hf => fin fun e' he' => by
        rw [he] at he'; injection he' with he'; rw [← he']; exact hf
      by_cases h1 : (e.2 : Int) < t.2
      · refine q_seq (q_seq (d_begin (Ext _) [4, 11, 15, 17, 23, 27, 29, 35, 39, 41] (d_pure (i := 0) rfl rfl rfl (by kernel_rfl) (fun w' => (e_move rfl)) (d_pure (i := 1) rfl rfl rfl (by kernel_rfl) (fun w' => (e_move rfl)) (d_pure (i := 2) rfl rfl rfl (by kernel_rfl) (fun w' => (e_nil rfl)) (d_pure (i := 3) rfl rfl rfl (by kernel_rfl) (fun w' => (e_fld rfl)) (d_head (i := 4) rfl rfl rfl (by kernel_rfl) (by kernel_rfl) (Ext.refl _) (fun w' hS => (e_ld rfl (hS.cell c1))) (d_pure (i := 5) rfl rfl rfl (by kernel_rfl) (fun w' => (e_len rfl)) (d_pure (i := 6) rfl rfl rfl (by kernel_rfl) (fun w' => (yes (e_lss rfl rfl) (by first | omega | (dsimp only; omega)))) (d_pure (i := 7) rfl rfl rfl (by kernel_rfl) (fun w' => (e_move rfl)) (d_pureG (i := 8) rfl rfl rfl (by kernel_rfl) rfl rfl (fun w' => (e_move rfl)) (d_pureG (i := 9) rfl rfl rfl (by kernel_rfl) rfl rfl (fun w' => (e_nil rfl)) (d_pureG (i := 10) rfl rfl rfl (by kernel_rfl) rfl rfl (fun w' => (e_fld rfl)) (d_headG (i := 11) rfl rfl rfl (by kernel_rfl) rfl rfl (by kernel_rfl) (Ext.refl _) (fun w' hS => (e_ld rfl (hS.cell c1))) (d_pureG (i := 12) rfl rfl rfl (by kernel_rfl) rfl rfl (fun w' => (e_move rfl)) (d_pureG (i := 13) rfl rfl rfl (by kernel_rfl) rfl rfl (fun w' => (e_idxAt (off+i*2) rfl rfl (by first | omega | (dsimp only; omega)) (by first | omega | (dsimp only; omega)) (by first | omega | (dsimp only; omega)))) (d_pureG (i := 14) rfl rfl rfl (by kernel_rfl) rfl rfl (fun w' => (e_fld rfl)) (d_headG (i := 15) rfl rfl rfl (by kernel_rfl) rfl rfl (by kernel_rfl) (Ext.refl _) (fun w' hS => (e_ld rfl (hS.cell d1))) (d_pureG (i := 16) rfl rfl rfl (by kernel_rfl) rfl rfl (fun w' => (e_fld rfl)) (d_headG (i := 17) rfl rfl rfl (by kernel_rfl) rfl rfl (by kernel_rfl) (Ext.refl _) (fun w' hS => (e_ld rfl (hS.cell t1))) (d_pureG (i := 18) rfl rfl rfl (by kernel_rfl) rfl rfl (fun w' => (yes (e_lss rfl rfl) (by first | omega | (dsimp only; omega)))) (d_pureG (i := 19) rfl rfl rfl (by kernel_rfl) rfl rfl (fun w' => (e_move rfl)) (d_off (i := 20) rfl rfl rfl (by kernel_rfl) rfl rfl rfl (d_off (i := 21) rfl rfl rfl (by kernel_rfl) rfl rfl rfl (d_off (i := 22) rfl rfl rfl (by kernel_rfl) rfl rfl rfl (d_off (i := 23) rfl rfl rfl (by kernel_rfl) rfl rfl rfl (d_off (i := 24) rfl rfl rfl (by kernel_rfl) rfl rfl rfl (d_off (i := 25) rfl rfl rfl (by kernel_rfl) rfl rfl rfl (d_off (i := 26) rfl rfl rfl (by kernel_rfl) rfl rfl rfl (d_off (i := 27) rfl rfl rfl (by kernel_rfl) rfl rfl rfl (d_off (i := 28) rfl rfl rfl (by kernel_rfl) rfl rfl rfl (d_off (i := 29) rfl rfl rfl (by kernel_rfl) rfl rfl rfl (d_off (i := 30) rfl rfl rfl (by kernel_rfl) rfl rfl rfl (d_off (i := 31) rfl rfl rfl (by kernel_rfl) rfl rfl rfl (d_offu (i := 32) rfl rfl rfl (by kernel_rfl) rfl rfl (d_offu (i := 33) rfl rfl rfl (by kernel_rfl) rfl rfl (d_offu (i := 34) rfl rfl rfl (by kernel_rfl) rfl rfl (d_offu (i := 35) rfl rfl rfl (by kernel_rfl) rfl rfl (d_offu (i := 36) rfl rfl rfl (by kernel_rfl) rfl rfl (d_offu (i := 37) rfl rfl rfl (by kernel_rfl) rfl rfl (d_offu (i := 38) rfl rfl rfl (by kernel_rfl) rfl rfl (d_offu (i := 39) rfl rfl rfl (by kernel_rfl) rfl rfl (d_offu (i := 40) rfl rfl rfl (by kernel_rfl) rfl rfl (d_offu (i := 41) rfl rfl rfl (by kernel_rfl) rfl rfl (d_offu (i := 42) rfl rfl rfl (by kernel_rfl) rfl rfl (d_off (i := 43) rfl rfl rfl (by kernel_rfl) rfl rfl rfl (d_pureG (i := 44) rfl rfl rfl (by kernel_rfl) rfl rfl (fun w' => (e_pickT rfl rfl)) (d_pure (i := 45) rfl rfl rfl (by kernel_rfl) (fun w' => (e_pickT rfl rfl)) (d_end (by kernel_rfl) (x_then ?_))))))))))))))))))))))))))))))))))))))))))))))))))
        refine q_yes rfl (q_skip (x_then ?_))
        refine q_block ?_
        refine q_reg (s_get rfl (e_move rfl) (s_get rfl (e_add rfl rfl (by first | omega | (dsimp only; omega))) (s_get rfl (e_assign rfl) (s_end (x_block_normal ?_)))))
        exact x_again (i + 1) ⟨rfl, rfl, rfl, rfl, trivial⟩ ⟨rfl, hlt, more (elt_lt h1)⟩ (by omega)
      by_cases h2 : (e.2 : Int) = t.2
      · refine q_seq (q_seq (d_begin (Ext _) [4, 11, 15, 17, 23, 27, 29, 35, 39, 41] (d_pure (i := 0) rfl rfl rfl (by kernel_rfl) (fun w' => (e_move rfl)) (d_pure (i := 1) rfl rfl rfl (by kernel_rfl) (fun w' => (e_move rfl)) (d_pure (i := 2) rfl rfl rfl (by kernel_rfl) (fun w' => (e_nil rfl)) (d_pure (i := 3) rfl rfl rfl (by kernel_rfl) (fun w' => (e_fld rfl)) (d_head (i := 4) rfl rfl rfl (by kernel_rfl) (by kernel_rfl) (Ext.refl _) (fun w' hS => (e_ld rfl (hS.cell c1))) (d_pure (i := 5) rfl rfl rfl (by kernel_rfl) (fun w' => (e_len rfl)) (d_pure (i := 6) rfl rfl rfl (by kernel_rfl) (fun w' => (yes (e_lss rfl rfl) (by first | omega | (dsimp only; omega)))) (d_pure (i := 7) rfl rfl rfl (by kernel_rfl) (fun w' => (e_move rfl)) (d_pureG (i := 8) rfl rfl rfl (by kernel_rfl) rfl rfl (fun w' => (e_move rfl)) (d_pureG (i := 9) rfl rfl rfl (by kernel_rfl) rfl rfl (fun w' => (e_nil rfl)) (d_pureG (i := 10) rfl rfl rfl (by kernel_rfl) rfl rfl (fun w' => (e_fld rfl)) (d_headG (i := 11) rfl rfl rfl (by kernel_rfl) rfl rfl (by kernel_rfl) (Ext.refl _) (fun w' hS => (e_ld rfl (hS.cell c1))) (d_pureG (i := 12) rfl rfl rfl (by kernel_rfl) rfl rfl (fun w' => (e_move rfl)) (d_pureG (i := 13) rfl rfl rfl (by kernel_rfl) rfl rfl (fun w' => (e_idxAt (off+i*2) rfl rfl (by first | omega | (dsimp only; omega)) (by first | omega | (dsimp only; omega)) (by first | omega | (dsimp only; omega)))) (d_pureG (i := 14) rfl rfl rfl (by kernel_rfl) rfl rfl (fun w' => (e_fld rfl)) (d_headG (i := 15) rfl rfl rfl (by kernel_rfl) rfl rfl (by kernel_rfl) (Ext.refl _) (fun w' hS => (e_ld rfl (hS.cell d1))) (d_pureG (i := 16) rfl rfl rfl (by kernel_rfl) rfl rfl (fun w' => (e_fld rfl)) (d_headG (i := 17) rfl rfl rfl (by kernel_rfl) rfl rfl (by kernel_rfl) (Ext.refl _) (fun w' hS => (e_ld rfl (hS.cell t1))) (d_pureG (i := 18) rfl rfl rfl (by kernel_rfl) rfl rfl (fun w' => (nay (e_lss rfl rfl) (by first | omega | (dsimp only; omega)))) (d_pureG (i := 19) rfl rfl rfl (by kernel_rfl) rfl rfl (fun w' => (e_move rfl)) (d_pureG (i := 20) rfl rfl rfl (by kernel_rfl) rfl rfl (fun w' => (e_move rfl)) (d_pureG (i := 21) rfl rfl rfl (by kernel_rfl) rfl rfl (fun w' => (e_nil rfl)) (d_pureG (i := 22) rfl rfl rfl (by kernel_rfl) rfl rfl (fun w' => (e_fld rfl)) (d_headG (i := 23) rfl rfl rfl (by kernel_rfl) rfl rfl (by kernel_rfl) (Ext.refl _) (fun w' hS => (e_ld rfl (hS.cell c1))) (d_pureG (i := 24) rfl rfl rfl (by kernel_rfl) rfl rfl (fun w' => (e_move rfl)) (d_pureG (i := 25) rfl rfl rfl (by kernel_rfl) rfl rfl (fun w' => (e_idxAt (off+i*2) rfl rfl (by first | omega | (dsimp only; omega)) (by first | omega | (dsimp only; omega)) (by first | omega | (dsimp only; omega)))) (d_pureG (i := 26) rfl rfl rfl (by kernel_rfl) rfl rfl (fun w' => (e_fld rfl)) (d_headG (i := 27) rfl rfl rfl (by kernel_rfl) rfl rfl (by kernel_rfl) (Ext.refl _) (fun w' hS => (e_ld rfl (hS.cell d1))) (d_pureG (i := 28) rfl rfl rfl (by kernel_rfl) rfl rfl (fun w' => (e_fld rfl)) (d_headG (i := 29) rfl rfl rfl (by kernel_rfl) rfl rfl (by kernel_rfl) (Ext.refl _) (fun w' hS => (e_ld rfl (hS.cell t1))) (d_pureG (i := 30) rfl rfl rfl (by kernel_rfl) rfl rfl (fun w' => (yes (e_eql rfl rfl) (by first | omega | (dsimp only; omega)))) (d_pureG (i := 31) rfl rfl rfl (by kernel_rfl) rfl rfl (fun w' => (e_move rfl)) (d_pureG (i := 32) rfl rfl rfl (by kernel_rfl) rfl rfl (fun w' => (e_move rfl)) (d_pureG (i := 33) rfl rfl rfl (by kernel_rfl) rfl rfl (fun w' => (e_nil rfl)) (d_pureG (i := 34) rfl rfl rfl (by kernel_rfl) rfl rfl (fun w' => (e_fld rfl)) (d_headG (i := 35) rfl rfl rfl (by kernel_rfl) rfl rfl (by kernel_rfl) (Ext.refl _) (fun w' hS => (e_ld rfl (hS.cell c1))) (d_pureG (i := 36) rfl rfl rfl (by kernel_rfl) rfl rfl (fun w' => (e_move rfl)) (d_pureG (i := 37) rfl rfl rfl (by kernel_rfl) rfl rfl (fun w' => (e_idxAt (off+i*2) rfl rfl (by first | omega | (dsimp only; omega)) (by first | omega | (dsimp only; omega)) (by first | omega | (dsimp only; omega)))) (d_pureG (i := 38) rfl rfl rfl (by kernel_rfl) rfl rfl (fun w' => (e_fld rfl)) (d_headG (i := 39) rfl rfl rfl (by kernel_rfl) rfl rfl (by kernel_rfl) (Ext.refl _) (fun w' hS => (e_ld rfl (hS.cell d0))) (d_pureG (i := 40) rfl rfl rfl (by kernel_rfl) rfl rfl (fun w' => (e_fld rfl)) (d_headG (i := 41) rfl rfl rfl (by kernel_rfl) rfl rfl (by kernel_rfl) (Ext.refl _) (fun w' hS => (e_ld rfl (hS.cell t0))) (d_pureG (i := 42) rfl rfl rfl (by kernel_rfl) rfl rfl (fun w' => (e_slt rfl rfl)) (d_pureG (i := 43) rfl rfl rfl (by kernel_rfl) rfl rfl (fun w' => (e_pickT rfl rfl)) (d_pureG (i := 44) rfl rfl rfl (by kernel_rfl) rfl rfl (fun w' => (e_pickF rfl rfl)) (d_pure (i := 45) rfl rfl rfl (by kernel_rfl) (fun w' => (e_pickT rfl rfl)) (d_end (by kernel_rfl) (x_then ?_))))))))))))))))))))))))))))))))))))))))))))))))))
        refine q_cond rfl (fun h => ?_) fun h => ?_
        · have h : slt e.1 t.1 = true := h
          refine q_skip (x_then ?_)
          refine q_block ?_
          refine q_reg (s_get rfl (e_move rfl) (s_get rfl (e_add rfl rfl (by first | omega | (dsimp only; omega))) (s_get rfl (e_assign rfl) (s_end (x_block_normal ?_)))))
          exact x_again (i + 1) ⟨rfl, rfl, rfl, rfl, trivial⟩ ⟨rfl, hlt, more (by rw [elt_eq h2]; exact h)⟩ (by omega)
        · have h : slt e.1 t.1 = false := h
          refine q_exit (x_then_exit (x_then_exit (x_block_exit (x_mid ⟨?_, rfl, rfl, rfl, trivial⟩ rfl))))
          rw [hnoF (by rw [elt_eq h2]; exact h)]
          rfl
      · refine q_seq (q_seq (d_begin (Ext _) [4, 11, 15, 17, 23, 27, 29, 35, 39, 41] (d_pure (i := 0) rfl rfl rfl (by kernel_rfl) (fun w' => (e_move rfl)) (d_pure (i := 1) rfl rfl rfl (by kernel_rfl) (fun w' => (e_move rfl)) (d_pure (i := 2) rfl rfl rfl (by kernel_rfl) (fun w' => (e_nil rfl)) (d_pure (i := 3) rfl rfl rfl (by kernel_rfl) (fun w' => (e_fld rfl)) (d_head (i := 4) rfl rfl rfl (by kernel_rfl) (by kernel_rfl) (Ext.refl _) (fun w' hS => (e_ld rfl (hS.cell c1))) (d_pure (i := 5) rfl rfl rfl (by kernel_rfl) (fun w' => (e_len rfl)) (d_pure (i := 6) rfl rfl rfl (by kernel_rfl) (fun w' => (yes (e_lss rfl rfl) (by first | omega | (dsimp only; omega)))) (d_pure (i := 7) rfl rfl rfl (by kernel_rfl) (fun w' => (e_move rfl)) (d_pureG (i := 8) rfl rfl rfl (by kernel_rfl) rfl rfl (fun w' => (e_move rfl)) (d_pureG (i := 9) rfl rfl rfl (by kernel_rfl) rfl rfl (fun w' => (e_nil rfl)) (d_pureG (i := 10) rfl rfl rfl (by kernel_rfl) rfl rfl (fun w' => (e_fld rfl)) (d_headG (i := 11) rfl rfl rfl (by kernel_rfl) rfl rfl (by kernel_rfl) (Ext.refl _) (fun w' hS => (e_ld rfl (hS.cell c1))) (d_pureG (i := 12) rfl rfl rfl (by kernel_rfl) rfl rfl (fun w' => (e_move rfl)) (d_pureG (i := 13) rfl rfl rfl (by kernel_rfl) rfl rfl (fun w' => (e_idxAt (off+i*2) rfl rfl (by first | omega | (dsimp only; omega)) (by first | omega | (dsimp only; omega)) (by first | omega | (dsimp only; omega)))) (d_pureG (i := 14) rfl rfl rfl (by kernel_rfl) rfl rfl (fun w' => (e_fld rfl)) (d_headG (i := 15) rfl rfl rfl (by kernel_rfl) rfl rfl (by kernel_rfl) (Ext.refl _) (fun w' hS => (e_ld rfl (hS.cell d1))) (d_pureG (i := 16) rfl rfl rfl (by kernel_rfl) rfl rfl (fun w' => (e_fld rfl)) (d_headG (i := 17) rfl rfl rfl (by kernel_rfl) rfl rfl (by kernel_rfl) (Ext.refl _) (fun w' hS => (e_ld rfl (hS.cell t1))) (d_pureG (i := 18) rfl rfl rfl (by kernel_rfl) rfl rfl (fun w' => (nay (e_lss rfl rfl) (by first | omega | (dsimp only; omega)))) (d_pureG (i := 19) rfl rfl rfl (by kernel_rfl) rfl rfl (fun w' => (e_move rfl)) (d_pureG (i := 20) rfl rfl rfl (by kernel_rfl) rfl rfl (fun w' => (e_move rfl)) (d_pureG (i := 21) rfl rfl rfl (by kernel_rfl) rfl rfl (fun w' => (e_nil rfl)) (d_pureG (i := 22) rfl rfl rfl (by kernel_rfl) rfl rfl (fun w' => (e_fld rfl)) (d_headG (i := 23) rfl rfl rfl (by kernel_rfl) rfl rfl (by kernel_rfl) (Ext.refl _) (fun w' hS => (e_ld rfl (hS.cell c1))) (d_pureG (i := 24) rfl rfl rfl (by kernel_rfl) rfl rfl (fun w' => (e_move rfl)) (d_pureG (i := 25) rfl rfl rfl (by kernel_rfl) rfl rfl (fun w' => (e_idxAt (off+i*2) rfl rfl (by first | omega | (dsimp only; omega)) (by first | omega | (dsimp only; omega)) (by first | omega | (dsimp only; omega)))) (d_pureG (i := 26) rfl rfl rfl (by kernel_rfl) rfl rfl (fun w' => (e_fld rfl)) (d_headG (i := 27) rfl rfl rfl (by kernel_rfl) rfl rfl (by kernel_rfl) (Ext.refl _) (fun w' hS => (e_ld rfl (hS.cell d1))) (d_pureG (i := 28) rfl rfl rfl (by kernel_rfl) rfl rfl (fun w' => (e_fld rfl)) (d_headG (i := 29) rfl rfl rfl (by kernel_rfl) rfl rfl (by kernel_rfl) (Ext.refl _) (fun w' hS => (e_ld rfl (hS.cell t1))) (d_pureG (i := 30) rfl rfl rfl (by kernel_rfl) rfl rfl (fun w' => (nay (e_eql rfl rfl) (by first | omega | (dsimp only; omega)))) (d_pureG (i := 31) rfl rfl rfl (by kernel_rfl) rfl rfl (fun w' => (e_move rfl)) (d_off (i := 32) rfl rfl rfl (by kernel_rfl) rfl rfl rfl (d_off (i := 33) rfl rfl rfl (by kernel_rfl) rfl rfl rfl (d_off (i := 34) rfl rfl rfl (by kernel_rfl) rfl rfl rfl (d_off (i := 35) rfl rfl rfl (by kernel_rfl) rfl rfl rfl (d_off (i := 36) rfl rfl rfl (by kernel_rfl) rfl rfl rfl (d_off (i := 37) rfl rfl rfl (by kernel_rfl) rfl rfl rfl (d_off (i := 38) rfl rfl rfl (by kernel_rfl) rfl rfl rfl (d_off (i := 39) rfl rfl rfl (by kernel_rfl) rfl rfl rfl (d_off (i := 40) rfl rfl rfl (by kernel_rfl) rfl rfl rfl (d_off (i := 41) rfl rfl rfl (by kernel_rfl) rfl rfl rfl (d_off (i := 42) rfl rfl rfl (by kernel_rfl) rfl rfl rfl (d_pureG (i := 43) rfl rfl rfl (by kernel_rfl) rfl rfl (fun w' => (e_pickF rfl rfl)) (d_pureG (i := 44) rfl rfl rfl (by kernel_rfl) rfl rfl (fun w' => (e_pickF rfl rfl)) (d_pure (i := 45) rfl rfl rfl (by kernel_rfl) (fun w' => (e_pickT rfl rfl)) (d_end (by kernel_rfl) (x_then ?_))))))))))))))))))))))))))))))))))))))))))))))))))
        refine q_no rfl ?_
        refine q_exit (x_then_exit (x_then_exit (x_block_exit (x_mid ⟨?_, rfl, rfl, rfl, trivial⟩ rfl))))
        rw [hnoF (elt_gt h1 h2)]
        rfl
    · obtain rfl : i = M.length := by omega
      refine q_seq (q_seq (d_begin (Ext _) [4, 11, 15, 17, 23, 27, 29, 35, 39, 41] (d_pure (i := 0) rfl rfl rfl (by kernel_rfl) (fun w' => (e_move rfl)) (d_pure (i := 1) rfl rfl rfl (by kernel_rfl) (fun w' => (e_move rfl)) (d_pure (i := 2) rfl rfl rfl (by kernel_rfl) (fun w' => (e_nil rfl)) (d_pure (i := 3) rfl rfl rfl (by kernel_rfl) (fun w' => (e_fld rfl)) (d_head (i := 4) rfl rfl rfl (by kernel_rfl) (by kernel_rfl) (Ext.refl _) (fun w' hS => (e_ld rfl (hS.cell c1))) (d_pure (i := 5) rfl rfl rfl (by kernel_rfl) (fun w' => (e_len rfl)) (d_pure (i := 6) rfl rfl rfl (by kernel_rfl) (fun w' => (nay (e_lss rfl rfl) (by first | omega | (dsimp only; omega)))) (d_pure (i := 7) rfl rfl rfl (by kernel_rfl) (fun w' => (e_move rfl)) (d_off (i := 8) rfl rfl rfl (by kernel_rfl) rfl rfl rfl (d_off (i := 9) rfl rfl rfl (by kernel_rfl) rfl rfl rfl (d_off (i := 10) rfl rfl rfl (by kernel_rfl) rfl rfl rfl (d_off (i := 11) rfl rfl rfl (by kernel_rfl) rfl rfl rfl (d_off (i := 12) rfl rfl rfl (by kernel_rfl) rfl rfl rfl (d_off (i := 13) rfl rfl rfl (by kernel_rfl) rfl rfl rfl (d_off (i := 14) rfl rfl rfl (by kernel_rfl) rfl rfl rfl (d_off (i := 15) rfl rfl rfl (by kernel_rfl) rfl rfl rfl (d_off (i := 16) rfl rfl rfl (by kernel_rfl) rfl rfl rfl (d_off (i := 17) rfl rfl rfl (by kernel_rfl) rfl rfl rfl (d_off (i := 18) rfl rfl rfl (by kernel_rfl) rfl rfl rfl (d_off (i := 19) rfl rfl rfl (by kernel_rfl) rfl rfl rfl (d_offu (i := 20) rfl rfl rfl (by kernel_rfl) rfl rfl (d_offu (i := 21) rfl rfl rfl (by kernel_rfl) rfl rfl (d_offu (i := 22) rfl rfl rfl (by kernel_rfl) rfl rfl (d_offu (i := 23) rfl rfl rfl (by kernel_rfl) rfl rfl (d_offu (i := 24) rfl rfl rfl (by kernel_rfl) rfl rfl (d_offu (i := 25) rfl rfl rfl (by kernel_rfl) rfl rfl (d_offu (i := 26) rfl rfl rfl (by kernel_rfl) rfl rfl (d_offu (i := 27) rfl rfl rfl (by kernel_rfl) rfl rfl (d_offu (i := 28) rfl rfl rfl (by kernel_rfl) rfl rfl (d_offu (i := 29) rfl rfl rfl (by kernel_rfl) rfl rfl (d_offu (i := 30) rfl rfl rfl (by kernel_rfl) rfl rfl (d_offu (i := 31) rfl rfl rfl (by kernel_rfl) rfl rfl (d_offu (i := 32) rfl rfl rfl (by kernel_rfl) rfl rfl (d_offu (i := 33) rfl rfl rfl (by kernel_rfl) rfl rfl (d_offu (i := 34) rfl rfl rfl (by kernel_rfl) rfl rfl (d_offu (i := 35) rfl rfl rfl (by kernel_rfl) rfl rfl (d_offu (i := 36) rfl rfl rfl (by kernel_rfl) rfl rfl (d_offu (i := 37) rfl rfl rfl (by kernel_rfl) rfl rfl (d_offu (i := 38) rfl rfl rfl (by kernel_rfl) rfl rfl (d_offu (i := 39) rfl rfl rfl (by kernel_rfl) rfl rfl (d_offu (i := 40) rfl rfl rfl (by kernel_rfl) rfl rfl (d_offu (i := 41) rfl rfl rfl (by kernel_rfl) rfl rfl (d_offu (i := 42) rfl rfl rfl (by kernel_rfl) rfl rfl (d_offu (i := 43) rfl rfl rfl (by kernel_rfl) rfl rfl (d_off (i := 44) rfl rfl rfl (by kernel_rfl) rfl rfl rfl (d_pure (i := 45) rfl rfl rfl (by kernel_rfl) (fun w' => (e_pickF rfl rfl)) (d_end (by kernel_rfl) (x_then ?_))))))))))))))))))))))))))))))))))))))))))))))))))
      refine q_no rfl ?_
      refine q_exit (x_then_exit (x_then_exit (x_block_exit (x_mid ⟨?_, rfl, rfl, rfl, trivial⟩ rfl))))
      rw [fin fun e he => by rw [List.getElem?_eq_none (Nat.le_refl _)] at he; cases he]
      rfl
  · intro w2 hw2
    rw [hw2]
    have hins := ins_tw t M
    obtain ⟨e1, e2⟩ := tw_split (fun e => elt e t) M
    have e3 : (M.takeWhile fun e => elt e t).length ≤ M.length := (List.takeWhile_sublist _).length_le
    rw [← e1, ← e2] at hins
    generalize (M.takeWhile fun e => elt e t).length = k at *
    have hcap := hs.le
    have s5 := hs.part (Nat.zero_le k) e3
    refine q_seq (q_reg (s_get rfl (e_move rfl) (s_get rfl (e_move rfl) (s_get rfl (e_nil rfl) (s_get rfl (e_fld rfl) (s_get rfl (e_ld rfl c1) (s_get rfl (e_move rfl) (s_get rfl (e_slH rfl rfl (by first | omega | (dsimp only; omega)) (by first | omega | (dsimp only; omega))) (s_rel rfl (e_append rfl rfl (Sl.nil (e := 46) (sz := 2)) s5 (by omega)) ?_)))))))))
    rintro _ w3 ⟨a3, cap3, b3, rfl, s6, k6, e6⟩
    have X3 : Ext w1 w3 := k6.mono fun _ _ h => by cases h
    have s6' : Sl w3 46 2 a3 k cap3 (ents (M.take k)) b3 := by
      simpa [ents_take] using s6
    refine s_get rfl (e_assign rfl) (s_end (x_then ?_))
    refine q_cov (r := [(5, .int .i64 k), (4, .slice a3 k cap3), (3, .pointer (some ⟨w.heap.size, 0, none⟩)), (0, .pointer (some ⟨rb, 0, none⟩))]) ⟨rfl, slice_len (by omega), rfl, rfl, trivial⟩ ?_
    have tc : Cells w3 w.heap.size 0 (ecells t) := fun j v hj => by rw [cell_of (X3.at b1), Nat.zero_add]; simpa using hj
    have X4 : Ext w3 (w3.alloc (.cells (ecells t).toArray 46)) := (Ext.refl w3).alloc _
    have s7 := Sl.made (w := w3) (e := 46) (sz := 2) (cs := ents [t]) (len := 1) rfl (ents_one _)
    refine q_seq (q_reg (s_get rfl (e_move rfl) (s_get rfl (e_ldn rfl rfl tc) (s_val rfl (e_buildSlice (ecells t) rfl rfl rfl rfl (fill_one rfl rfl)) (s_rel rfl (e_append rfl rfl (s6'.ext X4) s7 (by omega)) ?_)))))
    rintro _ w5 ⟨a5, cap5, b5, rfl, s8, k8, e8⟩
    have hb3 : ∀ x ∈ b3, w1.heap.size ≤ x := fun x hx => by
      rcases e6 with g | ⟨g, _⟩
      · rw [g] at hx; cases hx
      · rw [g] at hx; cases hx; exact Nat.le_refl _
    have X5 : Ext w1 w5 := (X3.trans X4).then k8 fun i hi => .inr (hb3 i hi)
    have hb5 : ∀ x ∈ b5, w1.heap.size ≤ x := fun x hx => by
      rcases e8 with g | ⟨g, _⟩
      · rw [g] at hx; exact hb3 x hx
      · rw [g] at hx; cases hx; exact Nat.le_trans X3.size X4.size
    refine s_get rfl (e_assign rfl) (s_end (x_then ?_))
    refine q_cov (r := [(5, .int .i64 k), (4, .slice a5 (k + 1) cap5), (0, .pointer (some ⟨rb, 0, none⟩))]) ⟨rfl, slice_len (by omega), rfl, trivial⟩ ?_
    have s9 := (hs.ext X5).part e3 (Nat.le_refl _)
    refine q_reg (s_get rfl (e_move rfl) (s_get rfl (e_move rfl) (s_get rfl (e_move rfl) (s_get rfl (e_nil rfl) (s_get rfl (e_fld rfl) (s_get rfl (e_ld rfl (X5.cell c1)) (s_get rfl (e_move rfl) (s_get rfl (e_slL rfl rfl (by first | omega | (dsimp only; omega)) (by first | omega | (dsimp only; omega))) (s_rel rfl (e_append rfl rfl s8 s9 (by omega)) ?_)))))))))
    rintro _ w6 ⟨a6, cap6, b6, rfl, s10, k10, e10⟩
    have X6 : Ext w1 w6 := X5.then k10 fun i hi => .inr (hb5 i hi)
    have hb6 : ∀ x ∈ b6, w1.heap.size ≤ x := fun x hx => by
      rcases e10 with g | ⟨g, _⟩
      · rw [g] at hx; exact hb5 x hx
      · rw [g] at hx; cases hx; exact X5.size
    have hbb := X6.at hb
    have cbb : w6.cell? ⟨rb, 0 + 1, none⟩ = some (.slice a M.length cap) := by rw [cell_of hbb]; rfl
    have hz := X1.size
    have hrb := h.lt ((hB rb).2 (.inl rfl))
    have hlen : k + 1 + (M.length - k) = (ins t M).length := by rw [ins_len]; omega
    refine s_get rfl (e_nil rfl) (s_get rfl (e_fld rfl) (s_set (e_st rfl rfl rfl cbb (free_of hbb _)) (s_end ?_)))
    refine x_ret0 (.inr rfl) rfl ⟨rfl, fun b => b = rb ∨ b6 = some b, ⟨a6, cap6, b6, ?_, ?_, fun e => by have := hb6 _ e; omega, fun b => Iff.rfl⟩, ?_, fun b hb' => ?_⟩
    · rw [← hlen]
      exact Base.heap_setCell_same hbb 1 _
    · have K : Kept (fun i => i = rb) w6 (w6.setCell ⟨rb, 0 + 1, none⟩ (.slice a6 (k + 1 + (M.length - k)) cap6)) := Kept.setCell _ _ _ rfl
      have := s10.kept K fun x hx => by have := hb6 x hx; omega
      rw [← hlen, hins]
      have e5 : ents (M.take k ++ t :: M.drop k) = ents (M.take k) ++ ecells t ++ ((ents M).take (M.length * 2)).drop (k * 2) := by
        have e6 : (ents M).take (M.length * 2) = ents M := List.take_of_length_le (by rw [ents_len]; omega)
        rw [e6, ents_drop, ents_append]
        simp [ents]
      rw [e5]
      exact this
    · exact ((X1.trans X6).kept B).trans (Kept.setCell (S := B) w6 ⟨rb, 0 + 1, none⟩ _ ((hB rb).2 (.inl rfl))) fun _ _ h => h
    · rcases hb' with rfl | g
      · exact .inl ((hB _).2 (.inl rfl))
      · exact .inr (Nat.le_trans hz (hb6 b g))
end Go.Proofs.Ytogfllhbgkeinaa.Wheel

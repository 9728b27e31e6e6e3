/-
  The document's own wheel: its list in memory; contracts of what reads it.
-/
import Derived.Test.YtogfllhbgkeinaaWalk
import Derived.Test.YtogfllhbgkeinaaNil
set_option linter.unusedVariables false
set_option linter.unusedSimpArgs false
namespace Go.Proofs.Ytogfllhbgkeinaa.Wheel
open Go.RowKit Base Lev Wa Eng Wb Spc
open Go.ChangeMaps (setBlock)
variable {w : World} {rb now : Nat} {M : List Ent} {B : Nat → Prop}

structure RW (w : World) (rb now : Nat) (M : List Ent) (B : Nat → Prop) : Prop where
  ex : ∃ a cap db, w.heap[rb]? = some (.cells #[.int .i64 now, .slice a M.length cap] 84 (0, 0)) ∧ Sl w 46 2 a M.length cap (ents M) db ∧ db ≠ some rb ∧ ∀ b, B b ↔ b = rb ∨ db = some b
theorem RW.lt (h : RW w rb now M B) {b : Nat} (hb : B b) : b < w.heap.size := by
  obtain ⟨a, cap, db, h1, h2, h3, h4⟩ := h.ex
  rcases (h4 b).1 hb with rfl | e
  · exact lt_of_at h1
  · exact h2.lt e
theorem RW.kept {S : Nat → Prop} {w' : World} (h : RW w rb now M B) (k : Kept S w w') (hn : ∀ b, B b → ¬ S b) : RW w' rb now M B := by
  obtain ⟨a, cap, db, h1, h2, h3, h4⟩ := h.ex
  exact ⟨a, cap, db, k.at h1 (hn _ ((h4 _).2 (.inl rfl))), h2.kept k (fun x hx => hn _ ((h4 _).2 (.inr hx))), h3, h4⟩
/-- what a step reads -/
theorem RW.cells (h : RW w rb now M B) : ∃ a cap db, w.cell? ⟨rb, 0 + 0, none⟩ = some (.int .i64 now) ∧ w.cell? ⟨rb, 0 + 1, none⟩ = some (.slice a M.length cap) ∧ Sl w 46 2 a M.length cap (ents M) db ∧
    w.heap[rb]? = some (.cells #[.int .i64 now, .slice a M.length cap] 84 (0, 0)) ∧ db ≠ some rb ∧ ∀ b, B b ↔ b = rb ∨ db = some b := by
  obtain ⟨a, cap, db, h1, h2, h3, h4⟩ := h.ex
  exact ⟨a, cap, db, by rw [cell_of h1]; rfl, by rw [cell_of h1]; rfl, h2, h1, h3, h4⟩
theorem elem_at {T : TypeId} {a : Option Addr} {cap : Nat} {db : Option Nat} (h : Sl w T 2 a M.length cap (ents M) db) {i : Nat} {e : Ent} (he : M[i]? = some e) : ∃ kb off, a = some ⟨kb, off, none⟩ ∧ Cells w kb (off + i * 2) (ecells e) := by
  have hi := (List.getElem?_eq_some_iff.1 he).1
  obtain ⟨kb, off, ha, _, _, _⟩ := h.pos (by omega)
  exact ⟨kb, off, ha, Sl.elem (enc := ecells) ecells_len h (by omega) ha he⟩

theorem rnew_bad (t : Int) (w : World) (h : isTime t = false) : Ret Try.prog 22 #[.int .i64 t] w fun v w' => v = .tuple #[.pointer none, .int .i64 2] ∧ w' = w := by
  refine ret_of (vs := [_]) Try.func22 rfl Try.ntmps22 rfl fun _ => ?_
  refine q_seq (q_reg (s_get rfl (e_assign rfl) (s_get rfl (e_assign rfl) (s_end (x_then ?_)))))
  by_cases h0 : t < 0
  · refine q_seq (q_seq (q_reg (s_get rfl (e_move rfl) (s_get rfl (yes (e_lss rfl rfl) (by first | omega | (dsimp only; omega))) (s_get rfl (e_move rfl) (s_off rfl rfl rfl rfl (s_off rfl rfl rfl rfl (s_get rfl (e_pickT rfl rfl) (s_end (x_then ?_))))))))))
    refine q_yes rfl ?_
    refine q_seq (q_reg (s_get rfl (e_assign rfl) (s_get rfl (e_assign rfl) (s_end (x_then ?_)))))
    exact q_ret (x_then_ret (x_ret2 (.inl rfl) rfl rfl rfl ⟨rfl, rfl⟩))
  · have h1 : 1099511627776 < t := by
      unfold isTime at h
      simp at h
      omega
    refine q_seq (q_seq (q_reg (s_get rfl (e_move rfl) (s_get rfl (nay (e_lss rfl rfl) (by first | omega | (dsimp only; omega))) (s_get rfl (e_move rfl) (s_on rfl rfl (s_get rfl (e_move rfl) (s_on rfl rfl (s_get rfl (yes (e_gtr rfl rfl) (by first | omega | (dsimp only; omega))) (s_get rfl (e_pickF rfl rfl) (s_end (x_then ?_))))))))))))
    refine q_yes rfl ?_
    refine q_seq (q_reg (s_get rfl (e_assign rfl) (s_get rfl (e_assign rfl) (s_end (x_then ?_)))))
    exact q_ret (x_then_ret (x_ret2 (.inl rfl) rfl rfl rfl ⟨rfl, rfl⟩))
theorem rnew_ret (now : Nat) (w : World) (h : isTime (now : Int) = true) : Ret Try.prog 22 #[.int .i64 now] w fun v w' =>
    ∃ rb B, v = .tuple #[.pointer (some ⟨rb, 0, none⟩), .int .i64 0] ∧ RW w' rb now [] B ∧ Ext w w' ∧ ∀ b, B b → w.heap.size ≤ b := by
  have h1 : (now : Int) ≤ 1099511627776 := by
    unfold isTime at h
    simp at h
    omega
  refine ret_of (vs := [_]) Try.func22 rfl Try.ntmps22 rfl fun _ => ?_
  refine q_seq (q_reg (s_get rfl (e_assign rfl) (s_get rfl (e_assign rfl) (s_end (x_then ?_)))))
  refine q_seq (q_seq (q_reg (s_get rfl (e_move rfl) (s_get rfl (nay (e_lss rfl rfl) (by first | omega | (dsimp only; omega))) (s_get rfl (e_move rfl) (s_on rfl rfl (s_get rfl (e_move rfl) (s_on rfl rfl (s_get rfl (nay (e_gtr rfl rfl) (by first | omega | (dsimp only; omega))) (s_get rfl (e_pickF rfl rfl) (s_end (x_then ?_))))))))))))
  refine q_no rfl (q_skip (x_then ?_))
  refine q_seq (q_reg (s_get rfl (e_move rfl) (s_get rfl (e_build [.int .i64 now,.slice none 0 0] rfl (by kernel_rfl)) (s_val rfl (e_box rfl) (s_get rfl (e_assign rfl) (s_get rfl (e_assign rfl) (s_end (x_then ?_))))))))
  refine q_ret (x_ret2 (.inl rfl) rfl rfl rfl ⟨w.heap.size, fun b => b = w.heap.size, rfl, ⟨none, 0, none, Base.heap_alloc_new' _ _, .nil, by simp, by simp⟩, (Ext.refl w).alloc _, fun b hb => by omega⟩)
theorem rname_ret (id : ByteArray) (w : World) : Ret Try.prog 54 #[.string id] w fun v w' => v = .bool (isName id) ∧ w' = w := by
  refine ret_of (vs := [_]) Try.func54 rfl Try.ntmps54 rfl fun _ => ?_
  refine q_seq (q_reg (s_get rfl (e_assign rfl) (s_end (x_then ?_))))
  by_cases h0 : 1 ≤ id.size
  · by_cases h1 : id.size ≤ 64
    · refine q_seq (q_reg (s_get rfl (e_move rfl) (s_get rfl (e_lens rfl) (s_get rfl (yes (e_geq rfl rfl) (by first | omega | (dsimp only; omega))) (s_get rfl (e_move rfl) (s_on rfl rfl (s_get rfl (e_move rfl) (s_on rfl rfl (s_get rfl (e_lens rfl) (s_on rfl rfl (s_get rfl (yes (e_leq rfl rfl) (by first | omega | (dsimp only; omega))) (s_get rfl (e_pickT rfl rfl) (s_get rfl (e_assign rfl) (s_end (x_then ?_)))))))))))))))
      exact q_ret (x_ret1 (.inl rfl) rfl rfl ⟨by simp [isName, h0, h1], rfl⟩)
    · refine q_seq (q_reg (s_get rfl (e_move rfl) (s_get rfl (e_lens rfl) (s_get rfl (yes (e_geq rfl rfl) (by first | omega | (dsimp only; omega))) (s_get rfl (e_move rfl) (s_on rfl rfl (s_get rfl (e_move rfl) (s_on rfl rfl (s_get rfl (e_lens rfl) (s_on rfl rfl (s_get rfl (nay (e_leq rfl rfl) (by first | omega | (dsimp only; omega))) (s_get rfl (e_pickT rfl rfl) (s_get rfl (e_assign rfl) (s_end (x_then ?_)))))))))))))))
      exact q_ret (x_ret1 (.inl rfl) rfl rfl ⟨by simp [isName, h0, h1], rfl⟩)
  · refine q_seq (q_reg (s_get rfl (e_move rfl) (s_get rfl (e_lens rfl) (s_get rfl (nay (e_geq rfl rfl) (by first | omega | (dsimp only; omega))) (s_get rfl (e_move rfl) (s_off rfl rfl rfl rfl (s_off rfl rfl rfl rfl (s_off rfl rfl rfl rfl (s_get rfl (e_pickF rfl rfl) (s_get rfl (e_assign rfl) (s_end (x_then ?_))))))))))))
    exact q_ret (x_ret1 (.inl rfl) rfl rfl ⟨by simp [isName, h0], rfl⟩)
theorem rtime_ret (h : RW w rb now M B) (t : Int) : Ret Try.prog 56 #[.pointer (some ⟨rb, 0, none⟩), .int .i64 t] w fun v w' => v = .int .i64 (aheadE now t) ∧ w' = w := by
  obtain ⟨a, cap, db, c0, c1, hs, _⟩ := h.cells
  refine ret_of (vs := [_, _]) Try.func56 rfl Try.ntmps56 rfl fun _ => ?_
  unfold aheadE isTime
  refine q_seq (q_reg (s_get rfl (e_assign rfl) (s_end (x_then ?_))))
  by_cases h0 : t < 0
  · refine q_seq (q_seq (q_reg (s_get rfl (e_move rfl) (s_get rfl (yes (e_lss rfl rfl) (by first | omega | (dsimp only; omega))) (s_get rfl (e_move rfl) (s_off rfl rfl rfl rfl (s_off rfl rfl rfl rfl (s_get rfl (e_pickT rfl rfl) (s_end (x_then ?_))))))))))
    refine q_yes rfl ?_
    refine q_seq (q_reg (s_get rfl (e_assign rfl) (s_end (x_then ?_))))
    exact q_ret (x_then_ret (x_ret1 (.inl rfl) rfl rfl ⟨by rw [if_neg (by simp; omega)]; rfl, rfl⟩))
  by_cases h1 : 1099511627776 < t
  · refine q_seq (q_seq (q_reg (s_get rfl (e_move rfl) (s_get rfl (nay (e_lss rfl rfl) (by first | omega | (dsimp only; omega))) (s_get rfl (e_move rfl) (s_on rfl rfl (s_get rfl (e_move rfl) (s_on rfl rfl (s_get rfl (yes (e_gtr rfl rfl) (by first | omega | (dsimp only; omega))) (s_get rfl (e_pickF rfl rfl) (s_end (x_then ?_))))))))))))
    refine q_yes rfl ?_
    refine q_seq (q_reg (s_get rfl (e_assign rfl) (s_end (x_then ?_))))
    exact q_ret (x_then_ret (x_ret1 (.inl rfl) rfl rfl ⟨by rw [if_neg (by simp; omega)]; rfl, rfl⟩))
  refine q_seq (q_seq (q_reg (s_get rfl (e_move rfl) (s_get rfl (nay (e_lss rfl rfl) (by first | omega | (dsimp only; omega))) (s_get rfl (e_move rfl) (s_on rfl rfl (s_get rfl (e_move rfl) (s_on rfl rfl (s_get rfl (nay (e_gtr rfl rfl) (by first | omega | (dsimp only; omega))) (s_get rfl (e_pickF rfl rfl) (s_end (x_then ?_))))))))))))
  refine q_no rfl (q_skip (x_then ?_))
  have hT : (decide (0 ≤ t) && decide (t ≤ 1099511627776)) = true := by simp; omega
  refine q_seq (q_seq (q_reg (s_get rfl (e_move rfl) (s_get rfl (e_move rfl) (s_get rfl (e_nil rfl) (s_get rfl (e_fld rfl) (s_get rfl (e_ld rfl c0) (s_get rfl (e_leq rfl rfl) (s_end (x_then ?_))))))))))
  refine q_dec rfl (fun h2 => ?_) fun h2 => ?_
  · refine q_seq (q_reg (s_get rfl (e_assign rfl) (s_end (x_then ?_))))
    exact q_ret (x_then_ret (x_ret1 (.inl rfl) rfl rfl ⟨by rw [if_pos hT, if_pos h2]; rfl, rfl⟩))
  · refine q_skip (x_then ?_)
    refine q_seq (q_reg (s_get rfl (e_assign rfl) (s_end (x_then ?_))))
    exact q_ret (x_ret1 (.inl rfl) rfl rfl ⟨by rw [if_pos hT, if_neg h2]; rfl, rfl⟩)
/-- where a name stands -/
theorem rfind_ret (h : RW w rb now M B) (hl : M.length ≤ 4096) (id : ByteArray) : Ret Try.prog 55 #[.pointer (some ⟨rb, 0, none⟩), .string id] w fun v w' => w' = w ∧
    ((v = .int .i64 (-1) ∧ atOf id M = none) ∨ ∃ (k : Nat) (e : Ent), v = .int .i64 k ∧ M[k]? = some e ∧ e.1 = id) := by
  obtain ⟨a, cap, db, c0, c1, hs, _⟩ := h.cells
  refine ret_of (vs := [_, _]) Try.func55 rfl Try.ntmps55 rfl fun _ => ?_
  refine q_seq (q_reg (s_get rfl (e_assign rfl) (s_end (x_then ?_))))
  refine q_seq (q_seq (q_reg (s_get rfl (e_assign rfl) (s_end (x_then ?_)))))
  refine q_block ?_
  refine q_loop (α := Nat) (fun x => [(5, .int .i64 x), (1, .string id), (0, .pointer (some ⟨rb, 0, none⟩))]) (fun x w' => w' = w ∧ x ≤ M.length ∧ ∀ (j : Nat) (e : Ent), j < x → M[j]? = some e → e.1 ≠ id) (fun x => M.length - x) 0 ⟨rfl, rfl, rfl, trivial⟩ ⟨rfl, by simp, fun j e hj => by omega⟩ ?_
  rintro i w' ⟨hw, hi, hno⟩
  rw [hw]
  rcases Nat.lt_or_ge i M.length with hlt | hge
  · obtain ⟨e, he⟩ : ∃ e, M[i]? = some e := ⟨M[i], List.getElem?_eq_getElem hlt⟩
    obtain ⟨kb, off, rfl, hc⟩ := elem_at hs he
    refine q_seq (q_seq (q_reg (s_get rfl (e_move rfl) (s_get rfl (e_move rfl) (s_get rfl (e_nil rfl) (s_get rfl (e_fld rfl) (s_get rfl (e_ld rfl c1) (s_get rfl (e_len rfl) (s_get rfl (yes (e_lss rfl rfl) (by first | omega | (dsimp only; omega))) (s_end (x_then ?_)))))))))))
    refine q_yes rfl (q_skip (x_then ?_))
    refine q_seq (q_block ?_)
    refine q_seq (q_reg (s_get rfl (e_move rfl) (s_get rfl (e_nil rfl) (s_get rfl (e_fld rfl) (s_get rfl (e_ld rfl c1) (s_get rfl (e_move rfl) (s_get rfl (e_idxAt (off+i*2) rfl rfl (by first | omega | (dsimp only; omega)) (by first | omega | (dsimp only; omega)) (by first | omega | (dsimp only; omega))) (s_get rfl (e_fld rfl) (s_get rfl (e_ld rfl (hc 0 _ rfl)) (s_get rfl (e_move rfl) (s_get rfl (e_seq rfl rfl) (s_end (x_then ?_)))))))))))))
    refine q_dec rfl (fun h => ?_) fun h => ?_
    · refine q_seq (q_reg (s_get rfl (e_move rfl) (s_get rfl (e_assign rfl) (s_end (x_then ?_)))))
      refine q_ret ?_
      repeat (first | refine x_then_ret ?_ | refine x_block_ret ?_ | refine x_scope_ret ?_)
      exact (x_ret1 (.inl rfl) rfl rfl ⟨rfl, .inr ⟨i, e, rfl, he, h⟩⟩)
    · refine q_skip (x_block_normal (x_then ?_))
      refine q_reg (s_get rfl (e_move rfl) (s_get rfl (e_add rfl rfl (by first | omega | (dsimp only; omega))) (s_get rfl (e_assign rfl) (s_end ?_))))
      refine x_again (i + 1) ⟨rfl, rfl, rfl, trivial⟩ ⟨rfl, hlt, fun j e' hj hj' => ?_⟩ (by omega)
      rcases Nat.lt_or_ge j i with g | g
      · exact hno j e' g hj'
      · obtain rfl : j = i := by omega
        rw [he] at hj'
        injection hj' with hj'
        rw [← hj']; exact h
  · obtain rfl : i = M.length := by omega
    refine q_seq (q_seq (q_reg (s_get rfl (e_move rfl) (s_get rfl (e_move rfl) (s_get rfl (e_nil rfl) (s_get rfl (e_fld rfl) (s_get rfl (e_ld rfl c1) (s_get rfl (e_len rfl) (s_get rfl (nay (e_lss rfl rfl) (by first | omega | (dsimp only; omega))) (s_end (x_then ?_)))))))))))
    refine q_no rfl ?_
    refine q_exit (x_then_exit (x_then_exit (x_block_exit (x_then ?_))))
    refine q_seq (q_reg (s_get rfl (e_assign rfl) (s_end (x_then ?_))))
    exact q_ret (x_ret1 (.inl rfl) rfl rfl ⟨rfl, .inl ⟨rfl, atOf_none.2 fun e he => by
      obtain ⟨j, hj, hje⟩ := List.getElem_of_mem he
      exact hno j e hj (by rw [List.getElem?_eq_getElem hj, hje])⟩⟩)
end Go.Proofs.Ytogfllhbgkeinaa.Wheel

/-
  The document's own wheel: cut, Add, Change, Remove, Advance, Spread.
-/
import Derived.Test.YtogfllhbgkeinaaRef3
set_option linter.unusedVariables false
set_option linter.unusedSimpArgs false
namespace Go.Proofs.Ytogfllhbgkeinaa.Wheel
open Go.RowKit Base Lev Wa Eng Wb Spc
open Go.ChangeMaps (setBlock)
variable {w : World} {rb now : Nat} {M : List Ent} {B : Nat → Prop}

theorem cutk_ret (h : RW w rb now M B) (hl : M.length ≤ 4096) (k : Nat) (hk : k < M.length) : Ret Try.prog 58 #[.pointer (some ⟨rb, 0, none⟩), .int .i64 k] w fun v w' => v = .tuple #[] ∧
    ∃ B', RW w' rb now (M.take k ++ M.drop (k + 1)) B' ∧ Kept B w w' ∧ Grew w B B' := by
  obtain ⟨a, cap, db, c0, c1, hs, hb, hdb, hB⟩ := h.cells
  refine ret_of (vs := [_, _]) Try.func58 rfl Try.ntmps58 rfl fun _ => ?_
  refine q_seq (q_reg (s_get rfl (e_assign rfl) (s_end (x_then ?_))))
  have hcap := hs.le
  have s5 := hs.part (Nat.zero_le k) (Nat.le_of_lt hk)
  refine q_seq (q_reg (s_get rfl (e_move rfl) (s_get rfl (e_move rfl) (s_get rfl (e_nil rfl) (s_get rfl (e_fld rfl) (s_get rfl (e_ld rfl c1) (s_get rfl (e_move rfl) (s_get rfl (e_slH rfl rfl (by first | omega | (dsimp only; omega)) (by first | omega | (dsimp only; omega))) (s_rel rfl (e_append rfl rfl (Sl.nil (e := 46) (sz := 2)) s5 (by omega)) ?_)))))))))
  rintro _ w3 ⟨a3, cap3, b3, rfl, s6, k6, e6⟩
  have X3 : Ext w w3 := k6.mono fun _ _ h => by cases h
  have s6' : Sl w3 46 2 a3 k cap3 (ents (M.take k)) b3 := by
    simpa [ents_take] using s6
  refine s_get rfl (e_assign rfl) (s_end (x_then ?_))
  refine q_cov (r := [(4, .slice a3 k cap3), (1, .int .i64 k), (0, .pointer (some ⟨rb, 0, none⟩))]) ⟨slice_len (by omega), rfl, rfl, trivial⟩ ?_
  have hb3 : ∀ x ∈ b3, w.heap.size ≤ x := fun x hx => by
    rcases e6 with g | ⟨g, _⟩
    · rw [g] at hx; cases hx
    · rw [g] at hx; cases hx; exact Nat.le_refl _
  have s9 := (hs.ext X3).part (l := k + 1) (by omega) (Nat.le_refl _)
  refine q_reg (s_get rfl (e_move rfl) (s_get rfl (e_move rfl) (s_get rfl (e_move rfl) (s_get rfl (e_nil rfl) (s_get rfl (e_fld rfl) (s_get rfl (e_ld rfl (X3.cell c1)) (s_get rfl (e_move rfl) (s_get rfl (e_add rfl rfl (by first | omega | (dsimp only; omega))) (s_get rfl (e_slL rfl rfl (by first | omega | (dsimp only; omega)) (by first | omega | (dsimp only; omega))) (s_rel rfl (e_append rfl rfl s6' s9 (by omega)) ?_))))))))))
  rintro _ w6 ⟨a6, cap6, b6, rfl, s10, k10, e10⟩
  have X6 : Ext w w6 := X3.then k10 fun i hi => .inr (hb3 i hi)
  have hb6 : ∀ x ∈ b6, w.heap.size ≤ x := fun x hx => by
    rcases e10 with g | ⟨g, _⟩
    · rw [g] at hx; exact hb3 x hx
    · rw [g] at hx; cases hx; exact X3.size
  have hbb := X6.at hb
  have cbb : w6.cell? ⟨rb, 0 + 1, none⟩ = some (.slice a M.length cap) := by rw [cell_of hbb]; rfl
  have hrb := h.lt ((hB rb).2 (.inl rfl))
  have hlen : k + (M.length - (k + 1)) = (M.take k ++ M.drop (k + 1)).length := by simp; omega
  refine s_get rfl (e_nil rfl) (s_get rfl (e_fld rfl) (s_set (e_st rfl rfl rfl cbb (free_of hbb _)) (s_end ?_)))
  refine x_ret0 (.inr rfl) rfl ⟨rfl, fun b => b = rb ∨ b6 = some b, ⟨a6, cap6, b6, ?_, ?_, fun e => by have := hb6 _ e; omega, fun b => Iff.rfl⟩, ?_, fun b hb' => ?_⟩
  · rw [← hlen]
    exact Base.heap_setCell_same hbb 1 _
  · have K : Kept (fun i => i = rb) w6 (w6.setCell ⟨rb, 0 + 1, none⟩ (.slice a6 (k + (M.length - (k + 1))) cap6)) := Kept.setCell _ _ _ rfl
    have := s10.kept K fun x hx => by have := hb6 x hx; omega
    have e6 : (ents M).take (M.length * 2) = ents M := List.take_of_length_le (by rw [ents_len]; omega)
    rw [← hlen, ents_append, ← ents_drop]
    rw [e6] at this
    exact this
  · exact (X6.kept B).trans (Kept.setCell (S := B) w6 ⟨rb, 0 + 1, none⟩ _ ((hB rb).2 (.inl rfl))) fun _ _ h => h
  · rcases hb' with rfl | g
    · exact .inl ((hB _).2 (.inl rfl))
    · exact .inr (hb6 b g)
theorem radd_ret (h : RW w rb now M B) (hl : M.length ≤ 4096) (hn : (M.map (·.1)).Nodup) (id : ByteArray) (t : Int) :
    Ret Try.prog 36 #[.pointer (some ⟨rb, 0, none⟩), .string id, .int .i64 t] w fun v w' => v = .int .i64 (addE now M id t) ∧
      ∃ B', RW w' rb now (addM now M id t) B' ∧ Kept B w w' ∧ Grew w B B' := by
  have same : ∀ {e : Nat}, e ≠ 0 → addE now M id t = e → (Value.int .i64 e = .int .i64 (addE now M id t) ∧ ∃ B', RW w rb now (addM now M id t) B' ∧ Kept B w w ∧ Grew w B B') := fun h0 he => by
    have : addM now M id t = M := by unfold addM; rw [he, if_neg h0]
    rw [this, he]
    exact ⟨rfl, B, h, Kept.refl _ _, fun b hb => .inl hb⟩
  obtain ⟨a, cap, db, c0, c1, hs, hb, hdb, hB⟩ := h.cells
  refine ret_of (vs := [_, _, _]) Try.func36 rfl Try.ntmps36 rfl fun _ => ?_
  refine q_seq (q_reg (s_get rfl (e_assign rfl) (s_end (x_then ?_))))
  refine q_seq (q_seq (q_reg (s_get rfl (e_move rfl) (s_get rfl (e_pnil rfl rfl) (s_end (x_then ?_))))))
  refine q_no rfl (q_skip (x_then ?_))
  refine q_seq (q_reg (s_get rfl (e_move rfl) (s_call rfl (e_fn rfl) (rname_ret id w) ?_)))
  rintro _ w ⟨rfl, rfl⟩
  refine s_get rfl (e_assign rfl) (s_end (x_then ?_))
  cases hid : isName id with
  | false =>
    refine q_seq (q_seq (q_reg (s_get rfl (e_move rfl) (s_get rfl (e_not rfl) (s_end (x_then ?_))))))
    refine q_yes rfl ?_
    refine q_seq (q_reg (s_get rfl (e_assign rfl) (s_end (x_then ?_))))
    refine q_ret ?_
    repeat (first | refine x_then_ret ?_ | refine x_block_ret ?_ | refine x_scope_ret ?_)
    exact (x_ret1 (.inl rfl) rfl rfl (same (e := 111) (by omega) (by simp [addE, hid])))
  | true =>
    refine q_seq (q_seq (q_reg (s_get rfl (e_move rfl) (s_get rfl (e_not rfl) (s_end (x_then ?_))))))
    refine q_no rfl (q_skip (x_then ?_))
    refine q_seq (q_seq (q_reg (s_get rfl (e_move rfl) (s_get rfl (e_move rfl) (s_call rfl (e_fn rfl) (rfind_ret h hl id) ?_)))))
    rintro _ w ⟨rfl, ⟨rfl, hno⟩ | ⟨k, e, rfl, he, hk⟩⟩
    · refine s_get rfl (nay (e_geq rfl rfl) (by first | omega | (dsimp only; omega))) (s_end (x_then ?_))
      refine q_no rfl (q_skip (x_then ?_))
      refine q_seq (q_reg (s_get rfl (e_move rfl) (s_get rfl (e_move rfl) (s_call rfl (e_fn rfl) (rtime_ret h t) ?_))))
      rintro _ w ⟨rfl, rfl⟩
      refine s_get rfl (e_assign rfl) (s_end (x_then ?_))
      by_cases hah : aheadE now t = 0
      · have hah' : (aheadE now t : Int) = 0 := by omega
        obtain ⟨m, rfl, hm1, hm2⟩ := aheadE_zero hah
        refine q_seq (q_seq (q_reg (s_get rfl (e_move rfl) (s_get rfl (nay (e_neq rfl rfl) (by first | omega | (dsimp only; omega))) (s_end (x_then ?_))))))
        refine q_no rfl (q_skip (x_then ?_))
        by_cases hfull : 4096 ≤ M.length
        · refine q_seq (q_seq (q_reg (s_get rfl (e_move rfl) (s_get rfl (e_nil rfl) (s_get rfl (e_fld rfl) (s_get rfl (e_ld rfl c1) (s_get rfl (e_len rfl) (s_get rfl (yes (e_geq rfl rfl) (by first | omega | (dsimp only; omega))) (s_end (x_then ?_))))))))))
          refine q_yes rfl ?_
          refine q_seq (q_reg (s_get rfl (e_assign rfl) (s_end (x_then ?_))))
          refine q_ret ?_
          repeat (first | refine x_then_ret ?_ | refine x_block_ret ?_ | refine x_scope_ret ?_)
          exact (x_ret1 (.inl rfl) rfl rfl (same (e := 5) (by omega) (by simp [addE, hid, hno, hah, hfull])))
        · refine q_seq (q_seq (q_reg (s_get rfl (e_move rfl) (s_get rfl (e_nil rfl) (s_get rfl (e_fld rfl) (s_get rfl (e_ld rfl c1) (s_get rfl (e_len rfl) (s_get rfl (nay (e_geq rfl rfl) (by first | omega | (dsimp only; omega))) (s_end (x_then ?_))))))))))
          refine q_no rfl (q_skip (x_then ?_))
          have hE : addE now M id m = 0 := by simp [addE, hid, hno, hah, hfull]
          have hM : addM now M id m = ins (id, m) M := by unfold addM; rw [if_pos hE]; rfl
          refine q_seq (q_reg (s_get rfl (e_move rfl) (s_get rfl (e_move rfl) (s_get rfl (e_move rfl) (s_get rfl (e_build (ecells (id, m)) rfl (by kernel_rfl)) (s_call rfl (e_fn rfl) (put_ret h hl (id, m)) ?_))))))
          rintro _ w' ⟨rfl, B', R', K', G'⟩
          refine s_end (x_then ?_)
          refine q_seq (q_reg (s_get rfl (e_assign rfl) (s_end (x_then ?_))))
          refine q_ret ?_
          repeat (first | refine x_then_ret ?_ | refine x_block_ret ?_ | refine x_scope_ret ?_)
          exact (x_ret1 (.inl rfl) rfl rfl ⟨by rw [hE]; rfl, B', by rw [hM]; exact R', K', G'⟩)
      · refine q_seq (q_seq (q_reg (s_get rfl (e_move rfl) (s_get rfl (yes (e_neq rfl rfl) (by first | omega | (dsimp only; omega))) (s_end (x_then ?_))))))
        refine q_yes rfl ?_
        refine q_seq (q_reg (s_get rfl (e_move rfl) (s_get rfl (e_assign rfl) (s_end (x_then ?_)))))
        refine q_ret ?_
        repeat (first | refine x_then_ret ?_ | refine x_block_ret ?_ | refine x_scope_ret ?_)
        exact (x_ret1 (.inl rfl) rfl rfl (same hah (by simp [addE, hid, hno, hah])))
    · have hat := atOf_get hn he hk
      refine s_get rfl (yes (e_geq rfl rfl) (by first | omega | (dsimp only; omega))) (s_end (x_then ?_))
      refine q_yes rfl ?_
      refine q_seq (q_reg (s_get rfl (e_assign rfl) (s_end (x_then ?_))))
      refine q_ret ?_
      repeat (first | refine x_then_ret ?_ | refine x_block_ret ?_ | refine x_scope_ret ?_)
      exact (x_ret1 (.inl rfl) rfl rfl (same (e := 8) (by omega) (by simp [addE, hid, hat])))
theorem rremove_ret (h : RW w rb now M B) (hl : M.length ≤ 4096) (hn : (M.map (·.1)).Nodup) (id : ByteArray) :
    Ret Try.prog 38 #[.pointer (some ⟨rb, 0, none⟩), .string id] w fun v w' => v = .int .i64 (remE M id) ∧ ∃ B', RW w' rb now (remM M id) B' ∧ Kept B w w' ∧ Grew w B B' := by
  have same : ∀ {e : Nat}, e ≠ 0 → remE M id = e → (Value.int .i64 e = .int .i64 (remE M id) ∧ ∃ B', RW w rb now (remM M id) B' ∧ Kept B w w ∧ Grew w B B') := fun h0 he => by
    have : remM M id = M := by unfold remM; rw [he, if_neg h0]
    rw [this, he]
    exact ⟨rfl, B, h, Kept.refl _ _, fun b hb => .inl hb⟩
  refine ret_of (vs := [_, _]) Try.func38 rfl Try.ntmps38 rfl fun _ => ?_
  refine q_seq (q_reg (s_get rfl (e_assign rfl) (s_end (x_then ?_))))
  refine q_seq (q_seq (q_reg (s_get rfl (e_move rfl) (s_get rfl (e_pnil rfl rfl) (s_end (x_then ?_))))))
  refine q_no rfl (q_skip (x_then ?_))
  refine q_seq (q_reg (s_get rfl (e_move rfl) (s_call rfl (e_fn rfl) (rname_ret id w) ?_)))
  rintro _ w ⟨rfl, rfl⟩
  refine s_get rfl (e_assign rfl) (s_end (x_then ?_))
  cases hid : isName id with
  | false =>
    refine q_seq (q_seq (q_reg (s_get rfl (e_move rfl) (s_get rfl (e_not rfl) (s_end (x_then ?_))))))
    refine q_yes rfl ?_
    refine q_seq (q_reg (s_get rfl (e_assign rfl) (s_end (x_then ?_))))
    refine q_ret ?_
    repeat (first | refine x_then_ret ?_ | refine x_block_ret ?_ | refine x_scope_ret ?_)
    exact (x_ret1 (.inl rfl) rfl rfl (same (e := 111) (by omega) (by simp [remE, hid])))
  | true =>
    refine q_seq (q_seq (q_reg (s_get rfl (e_move rfl) (s_get rfl (e_not rfl) (s_end (x_then ?_))))))
    refine q_no rfl (q_skip (x_then ?_))
    refine q_seq (q_reg (s_get rfl (e_move rfl) (s_get rfl (e_move rfl) (s_call rfl (e_fn rfl) (rfind_ret h hl id) ?_))))
    rintro _ w ⟨rfl, ⟨rfl, hno⟩ | ⟨k, e, rfl, he, hk⟩⟩
    · refine s_get rfl (e_assign rfl) (s_end (x_then ?_))
      refine q_seq (q_seq (q_reg (s_get rfl (e_move rfl) (s_get rfl (yes (e_lss rfl rfl) (by first | omega | (dsimp only; omega))) (s_end (x_then ?_))))))
      refine q_yes rfl ?_
      refine q_seq (q_reg (s_get rfl (e_assign rfl) (s_end (x_then ?_))))
      refine q_ret ?_
      repeat (first | refine x_then_ret ?_ | refine x_block_ret ?_ | refine x_scope_ret ?_)
      exact (x_ret1 (.inl rfl) rfl rfl (same (e := 7) (by omega) (by simp [remE, hid, hno])))
    · have hat := atOf_get hn he hk
      have hkl := (List.getElem?_eq_some_iff.1 he).1
      have hE : remE M id = 0 := by simp [remE, hid, hat]
      have hM : remM M id = M.take k ++ M.drop (k + 1) := by unfold remM; rw [if_pos hE, cut_eq hn he hk]
      refine s_get rfl (e_assign rfl) (s_end (x_then ?_))
      refine q_seq (q_seq (q_reg (s_get rfl (e_move rfl) (s_get rfl (nay (e_lss rfl rfl) (by first | omega | (dsimp only; omega))) (s_end (x_then ?_))))))
      refine q_no rfl (q_skip (x_then ?_))
      refine q_seq (q_reg (s_get rfl (e_move rfl) (s_get rfl (e_move rfl) (s_call rfl (e_fn rfl) (cutk_ret h hl k hkl) ?_))))
      rintro _ w' ⟨rfl, B', R', K', G'⟩
      refine s_end (x_then ?_)
      refine q_seq (q_reg (s_get rfl (e_assign rfl) (s_end (x_then ?_))))
      refine q_ret ?_
      repeat (first | refine x_then_ret ?_ | refine x_block_ret ?_ | refine x_scope_ret ?_)
      exact (x_ret1 (.inl rfl) rfl rfl ⟨by rw [hE]; rfl, B', by rw [hM]; exact R', K', G'⟩)
theorem rchange_ret (h : RW w rb now M B) (hl : M.length ≤ 4096) (hn : (M.map (·.1)).Nodup) (id : ByteArray) (t : Int) :
    Ret Try.prog 37 #[.pointer (some ⟨rb, 0, none⟩), .string id, .int .i64 t] w fun v w' => v = .int .i64 (chgE now M id t) ∧
      ∃ B', RW w' rb now (chgM now M id t) B' ∧ Kept B w w' ∧ Grew w B B' := by
  have same : ∀ {e : Nat}, e ≠ 0 → chgE now M id t = e → (Value.int .i64 e = .int .i64 (chgE now M id t) ∧ ∃ B', RW w rb now (chgM now M id t) B' ∧ Kept B w w ∧ Grew w B B') := fun h0 he => by
    have : chgM now M id t = M := by unfold chgM; rw [he, if_neg h0]
    rw [this, he]
    exact ⟨rfl, B, h, Kept.refl _ _, fun b hb => .inl hb⟩
  refine ret_of (vs := [_, _, _]) Try.func37 rfl Try.ntmps37 rfl fun _ => ?_
  refine q_seq (q_reg (s_get rfl (e_assign rfl) (s_end (x_then ?_))))
  refine q_seq (q_seq (q_reg (s_get rfl (e_move rfl) (s_get rfl (e_pnil rfl rfl) (s_end (x_then ?_))))))
  refine q_no rfl (q_skip (x_then ?_))
  refine q_seq (q_reg (s_get rfl (e_move rfl) (s_call rfl (e_fn rfl) (rname_ret id w) ?_)))
  rintro _ w ⟨rfl, rfl⟩
  refine s_get rfl (e_assign rfl) (s_end (x_then ?_))
  cases hid : isName id with
  | false =>
    refine q_seq (q_seq (q_reg (s_get rfl (e_move rfl) (s_get rfl (e_not rfl) (s_end (x_then ?_))))))
    refine q_yes rfl ?_
    refine q_seq (q_reg (s_get rfl (e_assign rfl) (s_end (x_then ?_))))
    refine q_ret ?_
    repeat (first | refine x_then_ret ?_ | refine x_block_ret ?_ | refine x_scope_ret ?_)
    exact (x_ret1 (.inl rfl) rfl rfl (same (e := 111) (by omega) (by simp [chgE, hid])))
  | true =>
    refine q_seq (q_seq (q_reg (s_get rfl (e_move rfl) (s_get rfl (e_not rfl) (s_end (x_then ?_))))))
    refine q_no rfl (q_skip (x_then ?_))
    refine q_seq (q_reg (s_get rfl (e_move rfl) (s_get rfl (e_move rfl) (s_call rfl (e_fn rfl) (rfind_ret h hl id) ?_))))
    rintro _ w ⟨rfl, ⟨rfl, hno⟩ | ⟨k, e, rfl, he, hk⟩⟩
    · refine s_get rfl (e_assign rfl) (s_end (x_then ?_))
      refine q_seq (q_seq (q_reg (s_get rfl (e_move rfl) (s_get rfl (e_lss rfl rfl) (s_end (x_then ?_))))))
      refine q_yes rfl ?_
      refine q_seq (q_reg (s_get rfl (e_assign rfl) (s_end (x_then ?_))))
      refine q_ret ?_
      repeat (first | refine x_then_ret ?_ | refine x_block_ret ?_ | refine x_scope_ret ?_)
      exact (x_ret1 (.inl rfl) rfl rfl (same (e := 7) (by omega) (by simp [chgE, hid, hno])))
    · have hat := atOf_get hn he hk
      have hkl := (List.getElem?_eq_some_iff.1 he).1
      refine s_get rfl (e_assign rfl) (s_end (x_then ?_))
      refine q_seq (q_seq (q_reg (s_get rfl (e_move rfl) (s_get rfl (e_lss rfl rfl) (s_end (x_then ?_))))))
      refine q_no rfl (q_skip (x_then ?_))
      refine q_seq (q_reg (s_get rfl (e_move rfl) (s_get rfl (e_move rfl) (s_call rfl (e_fn rfl) (rtime_ret h t) ?_))))
      rintro _ w ⟨rfl, rfl⟩
      refine s_get rfl (e_assign rfl) (s_end (x_then ?_))
      by_cases hah : aheadE now t = 0
      · obtain ⟨m, rfl, hm1, hm2⟩ := aheadE_zero hah
        have hE : chgE now M id m = 0 := by simp [chgE, hid, hat, hah]
        have hce := cut_eq hn he hk
        have hM : chgM now M id m = ins (id, m) (M.take k ++ M.drop (k + 1)) := by unfold chgM; rw [if_pos hE, hce]; rfl
        have hlc : (M.take k ++ M.drop (k + 1)).length ≤ 4096 := by simp; omega
        refine q_seq (q_seq (q_reg (s_get rfl (e_move rfl) (s_get rfl (nay (e_neq rfl rfl) (by first | omega | (dsimp only; omega))) (s_end (x_then ?_))))))
        refine q_no rfl (q_skip (x_then ?_))
        refine q_seq (q_reg (s_get rfl (e_move rfl) (s_get rfl (e_move rfl) (s_call rfl (e_fn rfl) (cutk_ret h hl k hkl) ?_))))
        rintro _ w1 ⟨rfl, B1, R1, K1, G1⟩
        refine s_end (x_then ?_)
        refine q_seq (q_reg (s_get rfl (e_move rfl) (s_get rfl (e_move rfl) (s_get rfl (e_move rfl) (s_get rfl (e_build (ecells (id, m)) rfl (by kernel_rfl)) (s_call rfl (e_fn rfl) (put_ret R1 hlc (id, m)) ?_))))))
        rintro _ w2 ⟨rfl, B2, R2, K2, G2⟩
        refine s_end (x_then ?_)
        refine q_seq (q_reg (s_get rfl (e_assign rfl) (s_end (x_then ?_))))
        refine q_ret (x_ret1 (.inl rfl) rfl rfl ⟨by rw [hE]; rfl, B2, by rw [hM]; exact R2, K1.then K2 G1, fun b hb => ?_⟩)
        rcases G2 b hb with g | g
        · exact G1 b g
        · exact .inr (Nat.le_trans K1.size g)
      · refine q_seq (q_seq (q_reg (s_get rfl (e_move rfl) (s_get rfl (yes (e_neq rfl rfl) (by first | omega | (dsimp only; omega))) (s_end (x_then ?_))))))
        refine q_yes rfl ?_
        refine q_seq (q_reg (s_get rfl (e_move rfl) (s_get rfl (e_assign rfl) (s_end (x_then ?_)))))
        refine q_ret ?_
        repeat (first | refine x_then_ret ?_ | refine x_block_ret ?_ | refine x_scope_ret ?_)
        exact (x_ret1 (.inl rfl) rfl rfl (same hah (by simp [chgE, hid, hat])))
end Go.Proofs.Ytogfllhbgkeinaa.Wheel

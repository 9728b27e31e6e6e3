/-
  The document's own wheel: At, Now, Len, Next, List, Ring, Spread.
-/
import Derived.Test.YtogfllhbgkeinaaRef
import Derived.Test.YtogfllhbgkeinaaRingsLaw
set_option linter.unusedVariables false
set_option linter.unusedSimpArgs false
namespace Go.Proofs.Ytogfllhbgkeinaa.Wheel
open Go.RowKit Base Lev Wa Eng Wb Spc
open Go.ChangeMaps (setBlock)
variable {w : World} {rb now : Nat} {M : List Ent} {B : Nat → Prop}

theorem atOf_get {id : ByteArray} (hn : (M.map (·.1)).Nodup) {k : Nat} {e : Ent} (he : M[k]? = some e) (h : e.1 = id) : atOf id M = some e.2 :=
  atOf_mem hn (by rw [← h]; exact List.mem_of_getElem? he)
theorem rat_ret (h : RW w rb now M B) (hl : M.length ≤ 4096) (hn : (M.map (·.1)).Nodup) (id : ByteArray) :
    Ret Try.prog 39 #[.pointer (some ⟨rb, 0, none⟩), .string id] w fun v w' => v = .tuple #[.int .i64 (atR M id).1, .int .i64 (atR M id).2] ∧ w' = w := by
  obtain ⟨a, cap, db, c0, c1, hs, _⟩ := h.cells
  refine ret_of (vs := [_, _]) Try.func39 rfl Try.ntmps39 rfl fun _ => ?_
  unfold atR
  refine q_seq (q_reg (s_get rfl (e_assign rfl) (s_get rfl (e_assign rfl) (s_end (x_then ?_)))))
  refine q_seq (q_seq (q_reg (s_get rfl (e_move rfl) (s_get rfl (e_pnil rfl rfl) (s_end (x_then ?_))))))
  refine q_no rfl (q_skip (x_then ?_))
  refine q_seq (q_reg (s_get rfl (e_move rfl) (s_call rfl (e_fn rfl) (rname_ret id w) ?_)))
  rintro _ w ⟨rfl, rfl⟩
  refine s_get rfl (e_assign rfl) (s_end (x_then ?_))
  cases hid : isName id with
  | false =>
    refine q_seq (q_seq (q_reg (s_get rfl (e_move rfl) (s_get rfl (e_not rfl) (s_end (x_then ?_))))))
    refine q_yes rfl ?_
    refine q_seq (q_reg (s_get rfl (e_assign rfl) (s_get rfl (e_assign rfl) (s_end (x_then ?_)))))
    refine q_ret ?_
    repeat (first | refine x_then_ret ?_ | refine x_block_ret ?_ | refine x_scope_ret ?_)
    exact (x_ret2 (.inl rfl) rfl rfl rfl ⟨by simp, rfl⟩)
  | true =>
    refine q_seq (q_seq (q_reg (s_get rfl (e_move rfl) (s_get rfl (e_not rfl) (s_end (x_then ?_))))))
    refine q_no rfl (q_skip (x_then ?_))
    refine q_seq (q_reg (s_get rfl (e_move rfl) (s_get rfl (e_move rfl) (s_call rfl (e_fn rfl) (rfind_ret h hl id) ?_))))
    rintro _ w ⟨rfl, ⟨rfl, hno⟩ | ⟨k, e, rfl, he, hk⟩⟩
    · refine s_get rfl (e_assign rfl) (s_end (x_then ?_))
      refine q_seq (q_seq (q_reg (s_get rfl (e_move rfl) (s_get rfl (yes (e_lss rfl rfl) (by first | omega | (dsimp only; omega))) (s_end (x_then ?_))))))
      refine q_yes rfl ?_
      refine q_seq (q_reg (s_get rfl (e_assign rfl) (s_get rfl (e_assign rfl) (s_end (x_then ?_)))))
      refine q_ret ?_
      repeat (first | refine x_then_ret ?_ | refine x_block_ret ?_ | refine x_scope_ret ?_)
      exact (x_ret2 (.inl rfl) rfl rfl rfl ⟨by simp [hno], rfl⟩)
    · have hat := atOf_get hn he hk
      have hkl := (List.getElem?_eq_some_iff.1 he).1
      obtain ⟨kb, off, rfl, hc⟩ := elem_at hs he
      refine s_get rfl (e_assign rfl) (s_end (x_then ?_))
      refine q_seq (q_seq (q_reg (s_get rfl (e_move rfl) (s_get rfl (nay (e_lss rfl rfl) (by first | omega | (dsimp only; omega))) (s_end (x_then ?_))))))
      refine q_no rfl (q_skip (x_then ?_))
      refine q_seq (q_reg (s_get rfl (e_move rfl) (s_get rfl (e_nil rfl) (s_get rfl (e_fld rfl) (s_get rfl (e_ld rfl c1) (s_get rfl (e_move rfl) (s_get rfl (e_idxAt (off+k*2) rfl rfl (by first | omega | (dsimp only; omega)) (by first | omega | (dsimp only; omega)) (by first | omega | (dsimp only; omega))) (s_get rfl (e_fld rfl) (s_get rfl (e_ld rfl (hc 1 _ rfl)) (s_get rfl (e_assign rfl) (s_get rfl (e_assign rfl) (s_end (x_then ?_)))))))))))))
      refine q_ret ?_
      repeat (first | refine x_then_ret ?_ | refine x_block_ret ?_ | refine x_scope_ret ?_)
      exact (x_ret2 (.inl rfl) rfl rfl rfl ⟨by simp [hat], rfl⟩)
theorem rnow_ret (h : RW w rb now M B) : Ret Try.prog 35 #[.pointer (some ⟨rb, 0, none⟩)] w fun v w' => v = .int .i64 now ∧ w' = w := by
  obtain ⟨a, cap, db, c0, c1, hs, _⟩ := h.cells
  refine ret_of (vs := [_]) Try.func35 rfl Try.ntmps35 rfl fun _ => ?_
  refine q_seq (q_reg (s_get rfl (e_assign rfl) (s_end (x_then ?_))))
  refine q_seq (q_seq (q_reg (s_get rfl (e_move rfl) (s_get rfl (e_pnil rfl rfl) (s_end (x_then ?_))))))
  refine q_no rfl (q_skip (x_then ?_))
  refine q_seq (q_reg (s_get rfl (e_move rfl) (s_get rfl (e_nil rfl) (s_get rfl (e_fld rfl) (s_get rfl (e_ld rfl c0) (s_get rfl (e_assign rfl) (s_end (x_then ?_))))))))
  refine q_ret ?_
  repeat (first | refine x_then_ret ?_ | refine x_block_ret ?_ | refine x_scope_ret ?_)
  exact (x_ret1 (.inl rfl) rfl rfl ⟨rfl, rfl⟩)
theorem rlen_ret (h : RW w rb now M B) : Ret Try.prog 42 #[.pointer (some ⟨rb, 0, none⟩)] w fun v w' => v = .int .i64 M.length ∧ w' = w := by
  obtain ⟨a, cap, db, c0, c1, hs, _⟩ := h.cells
  refine ret_of (vs := [_]) Try.func42 rfl Try.ntmps42 rfl fun _ => ?_
  refine q_seq (q_reg (s_get rfl (e_assign rfl) (s_end (x_then ?_))))
  refine q_seq (q_seq (q_reg (s_get rfl (e_move rfl) (s_get rfl (e_pnil rfl rfl) (s_end (x_then ?_))))))
  refine q_no rfl (q_skip (x_then ?_))
  refine q_seq (q_reg (s_get rfl (e_move rfl) (s_get rfl (e_nil rfl) (s_get rfl (e_fld rfl) (s_get rfl (e_ld rfl c1) (s_get rfl (e_len rfl) (s_get rfl (e_assign rfl) (s_end (x_then ?_)))))))))
  refine q_ret ?_
  repeat (first | refine x_then_ret ?_ | refine x_block_ret ?_ | refine x_scope_ret ?_)
  exact (x_ret1 (.inl rfl) rfl rfl ⟨rfl, rfl⟩)
theorem rnext_ret (h : RW w rb now M B) : Ret Try.prog 41 #[.pointer (some ⟨rb, 0, none⟩)] w fun v w' => v = .tuple #[.int .i64 (nextR M).1, .bool (nextR M).2] ∧ w' = w := by
  obtain ⟨a, cap, db, c0, c1, hs, _⟩ := h.cells
  refine ret_of (vs := [_]) Try.func41 rfl Try.ntmps41 rfl fun _ => ?_
  refine q_seq (q_reg (s_get rfl (e_assign rfl) (s_get rfl (e_assign rfl) (s_end (x_then ?_)))))
  cases M with
  | nil =>
    refine q_seq (q_seq (q_reg (s_get rfl (e_move rfl) (s_get rfl (e_pnil rfl rfl) (s_get rfl (e_move rfl) (s_on rfl rfl (s_get rfl (e_move rfl) (s_on rfl rfl (s_get rfl (e_nil rfl) (s_on rfl rfl (s_get rfl (e_fld rfl) (s_on rfl rfl (s_get rfl (e_ld rfl c1) (s_on rfl rfl (s_get rfl (e_len rfl) (s_on rfl rfl (s_get rfl (yes (e_eql rfl rfl) (by simp)) (s_get rfl (e_pickF rfl rfl) (s_end (x_then ?_))))))))))))))))))))
    refine q_yes rfl ?_
    refine q_seq (q_reg (s_get rfl (e_assign rfl) (s_get rfl (e_assign rfl) (s_end (x_then ?_)))))
    refine q_ret ?_
    repeat (first | refine x_then_ret ?_ | refine x_block_ret ?_ | refine x_scope_ret ?_)
    exact (x_ret2 (.inl rfl) rfl rfl rfl ⟨rfl, rfl⟩)
  | cons e M =>
    obtain ⟨kb, off, rfl, hc⟩ := elem_at (i := 0) hs rfl
    have hpos : 0 < (e :: M).length := by simp
    refine q_seq (q_seq (q_reg (s_get rfl (e_move rfl) (s_get rfl (e_pnil rfl rfl) (s_get rfl (e_move rfl) (s_on rfl rfl (s_get rfl (e_move rfl) (s_on rfl rfl (s_get rfl (e_nil rfl) (s_on rfl rfl (s_get rfl (e_fld rfl) (s_on rfl rfl (s_get rfl (e_ld rfl c1) (s_on rfl rfl (s_get rfl (e_len rfl) (s_on rfl rfl (s_get rfl (nay (e_eql rfl rfl) (by simp; omega)) (s_get rfl (e_pickF rfl rfl) (s_end (x_then ?_))))))))))))))))))))
    refine q_no rfl (q_skip (x_then ?_))
    refine q_seq (q_reg (s_get rfl (e_move rfl) (s_get rfl (e_nil rfl) (s_get rfl (e_fld rfl) (s_get rfl (e_ld rfl c1) (s_get rfl (e_idxAt (off+0*2) rfl rfl (by first | omega | (dsimp only; omega)) (by first | omega | (dsimp only; omega)) (by first | omega | (dsimp only; omega))) (s_get rfl (e_fld rfl) (s_get rfl (e_ld rfl (hc 1 _ rfl)) (s_get rfl (e_assign rfl) (s_get rfl (e_assign rfl) (s_end (x_then ?_))))))))))))
    refine q_ret ?_
    repeat (first | refine x_then_ret ?_ | refine x_block_ret ?_ | refine x_scope_ret ?_)
    exact (x_ret2 (.inl rfl) rfl rfl rfl ⟨rfl, rfl⟩)
theorem rlist_ret (h : RW w rb now M B) (hl : M.length ≤ 4096) : Ret Try.prog 44 #[.pointer (some ⟨rb, 0, none⟩)] w fun v w' => ∃ a cap db, v = .slice a M.length cap ∧
    Sl w' 46 2 a M.length cap (ents M) db ∧ (∀ b ∈ db, w.heap.size ≤ b) ∧ Ext w w' := by
  obtain ⟨a, cap, db, c0, c1, hs, _⟩ := h.cells
  refine ret_of (vs := [_]) Try.func44 rfl Try.ntmps44 rfl fun _ => ?_
  refine q_seq (q_reg (s_get rfl (e_assign rfl) (s_end (x_then ?_))))
  refine q_seq (q_reg (s_get rfl (e_assign rfl) (s_end (x_then ?_))))
  refine q_seq (q_seq (q_reg (s_get rfl (e_move rfl) (s_get rfl (e_pnil rfl rfl) (s_end (x_then ?_))))))
  refine q_no rfl (q_skip (x_then ?_))
  have hnil : Sl w 46 2 none 0 0 [] none := .nil
  refine q_seq (q_reg (s_get rfl (e_move rfl) (s_get rfl (e_move rfl) (s_get rfl (e_nil rfl) (s_get rfl (e_fld rfl) (s_get rfl (e_ld rfl c1) (s_rel rfl (e_append rfl rfl hnil hs (by omega)) ?_)))))))
  rintro _ w1 ⟨a', cap', b', rfl, s9, k9, e9⟩
  refine s_get rfl (e_assign rfl) (s_end (x_then ?_))
  rw [Nat.zero_add] at *
  refine q_ret (x_ret1 (.inl rfl) rfl rfl ⟨a', cap', b', rfl, by simpa using s9, fun b hb => ?_, k9.mono fun _ _ h => by cases h⟩)
  rcases e9 with g | ⟨g, _⟩
  · rw [g] at hb; cases hb
  · rw [g] at hb; cases hb; exact Nat.le_refl _
def dv (a k : Nat) : Nat := a / 64 ^ k
theorem dv0 (a : Nat) : dv a 0 = a := by simp [dv]
theorem dv1 (a k : Nat) : ((dv a k : Nat) : Int) / 64 = (dv a (k + 1) : Nat) := by
  unfold dv
  rw [Nat.pow_succ, ← Nat.div_div_eq_div_mul]; omega
theorem ring_ret (a b : Nat) (ha : a ≤ 1099511627776) (hb : b ≤ 1099511627776) (w : World) : Ret Try.prog 59 #[.int .i64 a, .int .i64 b] w fun v w' => v = .int .i64 (level a b) ∧ w' = w := by
  refine ret_of (vs := [_, _]) Try.func59 rfl Try.ntmps59 rfl fun _ => ?_
  refine q_seq (q_reg (s_get rfl (e_assign rfl) (s_end (x_then ?_))))
  refine q_seq (q_reg (s_get rfl (e_assign rfl) (s_end (x_then ?_))))
  refine q_seq (q_block ?_)
  have h6 := lv6 ha hb
  refine q_loop (α := Nat) (fun x => [(5, .int .i64 x), (1, .int .i64 (dv b x : Nat)), (0, .int .i64 (dv a x : Nat))]) (fun x w' => w' = w ∧ x ≤ level a b) (fun x => 7 - x) 0 ⟨rfl, by rw [dv0]; rfl, by rw [dv0]; rfl, trivial⟩ ⟨rfl, by simp⟩ ?_
  rintro k w' ⟨hw, hk⟩
  rw [hw]
  have ea := dv1 a k
  have eb := dv1 b k
  have la : dv a k ≤ a := Nat.div_le_self _ _
  have lb : dv b k ≤ b := Nat.div_le_self _ _
  refine q_seq (q_seq (q_reg (s_get rfl (e_move rfl) (s_get rfl (e_quoP rfl rfl (by omega) (by omega) (by omega)) (s_get rfl (e_move rfl) (s_get rfl (e_quoP rfl rfl (by omega) (by omega) (by omega)) (s_get rfl (e_neq rfl rfl) (s_end (x_then ?_)))))))))
  rw [ea, eb]
  refine q_dec rfl (fun h => ?_) fun h => ?_
  · have hlt : k < level a b := by
      rcases Nat.lt_or_ge k (level a b) with g | g
      · exact g
      · exfalso
        have := (level_le k a b).1 g
        unfold Agree at this
        exact h (by unfold dv; rw [this])
    refine q_skip (x_then ?_)
    refine q_block ?_
    refine q_seq (q_reg (s_get rfl (e_move rfl) (s_get rfl (e_quoP rfl rfl (by omega) (by omega) (by omega)) (s_get rfl (e_assign rfl) (s_end (x_then ?_))))))
    refine q_seq (q_reg (s_get rfl (e_move rfl) (s_get rfl (e_quoP rfl rfl (by omega) (by omega) (by omega)) (s_get rfl (e_assign rfl) (s_end (x_then ?_))))))
    rw [ea, eb]
    refine q_reg (s_get rfl (e_move rfl) (s_get rfl (e_add rfl rfl (by first | omega | (dsimp only; omega))) (s_get rfl (e_assign rfl) (s_end (x_block_normal ?_)))))
    exact x_again (k + 1) ⟨rfl, rfl, rfl, trivial⟩ ⟨rfl, hlt⟩ (by omega)
  · have hag : level a b ≤ k := (level_le k a b).2 (by
      unfold Agree
      have h1 : ((dv a (k + 1) : Nat) : Int) = (dv b (k + 1) : Nat) := Decidable.not_not.1 h
      have h2 : dv a (k + 1) = dv b (k + 1) := by omega
      exact h2)
    have hke : k = level a b := by omega
    refine q_exit (x_then_exit (x_then_exit (x_block_exit (x_then ?_))))
    refine q_seq (q_reg (s_get rfl (e_move rfl) (s_get rfl (e_assign rfl) (s_end (x_then ?_)))))
    exact q_ret (x_ret1 (.inl rfl) rfl rfl ⟨by rw [hke], rfl⟩)
end Go.Proofs.Ytogfllhbgkeinaa.Wheel

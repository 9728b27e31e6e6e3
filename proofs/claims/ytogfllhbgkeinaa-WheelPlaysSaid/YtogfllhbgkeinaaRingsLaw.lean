/-
  WheelRings: the statement's function returns true.
-/
import Derived.Test.YtogfllhbgkeinaaRingsPure
import Derived.Test.YtogfllhbgkeinaaWalk
set_option linter.unusedVariables false
set_option linter.unusedSimpArgs false
namespace Go.Proofs.Ytogfllhbgkeinaa.Wheel
open Go.RowKit Base Lev Wa Eng Wb Spc
open Go.ChangeMaps (setBlock)

/-- the seven numbers of Spread, laid into a new block -/
theorem stored7 {w : World} (cs : List Value) (hl : cs.length = 7) (h1 : ∀ v ∈ cs, v.oneCell' = true) (z : Array Value) (hz : z.size = 7) :
    let wa := w.alloc (.cells z 38)
    (∀ j, j < cs.length → (wa.cell? ⟨w.heap.size, 0 + j, none⟩).isSome = true) ∧ (∀ j, j < cs.length → wa.frozen? ⟨w.heap.size, 0 + j, none⟩ = false) ∧
      Ext w (wa.setCells w.heap.size 0 cs) ∧ ∃ arr, (wa.setCells w.heap.size 0 cs).heap[w.heap.size]? = some (.cells arr 38 (0, 0)) ∧ ∀ j v, cs[j]? = some v → arr[0 + j]? = some v := by
  intro wa
  have hb : wa.heap[w.heap.size]? = some (.cells z 38 (0, 0)) := Base.heap_alloc_new' _ _
  obtain ⟨arr, g1, g2, g3, g4⟩ := setCells_at cs 0 wa z hb (by omega)
  refine ⟨fun j hj => ?_, fun j _ => free_of hb _, ((Ext.refl w).alloc _).then (kept_setCells (S := fun i => i = w.heap.size) rfl _ _ _) fun i hi => .inr (by omega), arr, g1, g4⟩
  rw [cell_of hb, Nat.zero_add, Array.getElem?_eq_getElem (by omega)]; rfl
set_option maxHeartbeats 1000000 in
theorem rings_ret {a a2 : Option Addr} {len cap len2 cap2 : Nat} {fl sl : List Int} {b b2 : Option Nat} {w : World} (x0 : Int) (hx : I64 x0) (hs : Rd w 1 a len cap (nums fl) b) (hI : ∀ f ∈ fl, I64 f) (hs2 : Rd w 1 a2 len2 cap2 (nums sl) b2) (hI2 : ∀ f ∈ sl, I64 f) :
    Ret Try.prog 4 #[.int .i64 x0, .slice a len cap, .slice a2 len2 cap2] w fun v w' => v = .bool true ∧ Ext w w' := by
  refine ret_of (vs := [_, _, _]) Try.func4 rfl Try.ntmps4 rfl fun _ => ?_
  have hw1 := within_in (x := x0) (lo := 0) (hi := 549755813887) (by omega)
  obtain ⟨now, hnow⟩ : ∃ now : Nat, within x0 0 549755813887 = now := ⟨(within x0 0 549755813887).toNat, by omega⟩
  refine q_seq (q_reg (s_get rfl (e_assign rfl) (s_end (x_then ?_))))
  refine q_seq (q_reg (s_get rfl (e_move rfl) (s_call rfl (e_fn rfl) (within_ret x0 0 549755813887 w hx (by omega) (by omega) (by omega)) ?_)))
  rintro _ w ⟨rfl, rfl⟩
  rw [hnow]
  refine s_get rfl (e_assign rfl) (s_end (x_then ?_))
  refine q_seq (q_reg (s_get rfl (e_move rfl) (s_call rfl (e_fn rfl) (few_ret hs) ?_)))
  rintro _ w ⟨rfl, a', rfl, hs'⟩
  refine s_get rfl (e_assign rfl) (s_end (x_then ?_))
  have hfl : len = fl.length := by have := hs.length; simpa [nums] using this.symm
  have hsl : len2 = sl.length := by have := hs2.length; simpa [nums] using this.symm
  have htk : (nums fl).take 400 = nums (fl.take 400) := by unfold nums; rw [List.map_take]
  rw [htk, show min len 400 = (fl.take 400).length from by rw [List.length_take, hfl]; omega] at hs'
  rw [show min len 400 = (fl.take 400).length from by rw [List.length_take, hfl]; omega]
  have hI' : ∀ f ∈ fl.take 400, I64 f := fun f hf => hI f (List.mem_of_mem_take hf)
  have hl' : (fl.take 400).length ≤ 400 := by rw [List.length_take]; omega
  generalize fl.take 400 = gl at *
  have c1 := filled_ret hs' hI' hl' (now := now) (by omega)
  refine q_seq (q_reg (s_get rfl (e_move rfl) (s_get rfl (e_move rfl) (s_call rfl (e_fn rfl) c1 ?_))))
  rintro _ w1 ⟨p, A, rfl, WA, X1, nA⟩
  refine s_get rfl (e_assign rfl) (s_end (x_then ?_))
  refine q_seq (q_seq (q_reg (s_get rfl (e_move rfl) (s_get rfl (e_pnil rfl rfl) (s_end (x_then ?_))))))
  refine q_no rfl (q_skip (x_then ?_))
  refine q_seq (q_reg (s_get rfl (e_move rfl) (s_get rfl (e_assign rfl) (s_end (x_then ?_)))))
  refine q_seq (q_seq (q_reg (s_get rfl (e_assign rfl) (s_end (x_then ?_)))))
  refine q_mid [(2, .slice a2 len2 cap2), (1, .slice a' gl.length cap), (0, .int .i64 now)] (fun w' => Ext w w') ?_ ?_
  · refine q_block ?_
    refine q_loop (α := Nat × Nat × List Ent) (fun x => [(9, .int .i64 x.1), (8, .int .i64 x.2.1), (7, .pointer (some ⟨p, 0, none⟩)), (2, .slice a2 len2 cap2), (1, .slice a' gl.length cap), (0, .int .i64 now)])
      (fun x w' => x.1 ≤ 100 ∧ x.1 ≤ len2 ∧ Ext w w' ∧ ∃ B, IsW w' p x.2.1 x.2.2 B ∧ ∀ y, B y → w.heap.size ≤ y) (fun x => 100 - x.1) (0, now, fillM now gl gl.length) ⟨rfl, rfl, rfl, rfl, rfl, rfl, trivial⟩ ⟨by simp, by simp, X1, A, WA, nA⟩ ?_
    rintro ⟨i, at_, M⟩ w2 ⟨hq, hi2, X2, B, WB, nB⟩
    dsimp only at hq hi2 WB
    rcases Nat.lt_or_ge i len2 with h1 | h1
    · rcases Nat.lt_or_ge i 100 with h2 | h2
      · refine q_seq (q_seq (q_reg (s_get rfl (e_move rfl) (s_get rfl (e_move rfl) (s_get rfl (e_len rfl) (s_get rfl (yes (e_lss rfl rfl) (by first | omega | (dsimp only; omega))) (s_get rfl (e_move rfl) (s_on rfl rfl (s_get rfl (e_move rfl) (s_on rfl rfl (s_get rfl (yes (e_lss rfl rfl) (by first | omega | (dsimp only; omega))) (s_get rfl (e_pickT rfl rfl) (s_end (x_then ?_))))))))))))))
        refine q_yes rfl (q_skip (x_then ?_))
        refine q_seq (q_block ?_)
        have hat := WB.nw
        have hall := WB.all
        refine q_seq (q_reg (s_get rfl (e_move rfl) (s_call rfl (e_fn rfl) (spread_ret WB) ?_)))
        rintro _ w3 ⟨rfl, X3⟩
        obtain ⟨g1, g2, X4, arr, g3, g4⟩ := stored7 (w := w3) (ints (spreadL at_ M)) (spread_len _ _) (ints_one _) (Value.agg #[.int .i64 0, .int .i64 0, .int .i64 0, .int .i64 0, .int .i64 0, .int .i64 0, .int .i64 0]).cells rfl
        refine s_val rfl e_alloc (s_set (e_stn (cs:=ints (spreadL at_ M)) rfl rfl rfl (ints_one _) g1 g2) (s_end (x_then ?_)))
        generalize hw4 : ((w3.alloc (.cells (Value.agg #[.int .i64 0, .int .i64 0, .int .i64 0, .int .i64 0, .int .i64 0, .int .i64 0, .int .i64 0]).cells 38)).setCells w3.heap.size 0 (ints (spreadL at_ M))) = w4 at X4 g3 ⊢
        have W4 := WB.kept (X3.trans X4) fun _ _ h => h
        refine q_seq (q_reg (s_get rfl (e_move rfl) (s_call rfl (e_fn rfl) (next_ret W4) ?_)))
        rintro _ _ ⟨rfl, rfl⟩
        refine s_get rfl (e_move rfl) (s_get rfl (e_ext rfl rfl) (s_get rfl (e_ext rfl rfl) (s_get rfl (e_assign rfl) (s_get rfl (e_assign rfl) (s_end (x_then ?_))))))
        refine q_seq (q_reg (s_get rfl (e_move rfl) (s_call rfl (e_fn rfl) (walked_ret W4 1) ?_)))
        rintro _ w5 ⟨fa, fcap, fb, rfl, s5, nf, X5⟩
        refine s_get rfl (e_assign rfl) (s_end (x_then ?_))
        refine q_seq (q_reg (s_get rfl (e_assign rfl) (s_end (x_then ?_))))
        refine q_seq (q_seq (q_reg (s_get rfl (e_assign rfl) (s_end (x_then ?_)))))
        have W5 := W4.kept X5 fun _ _ h => h
        have g5 := X5.at g3
        refine q_block ?_
        refine q_loop (α := Nat) (fun x => [(15, .int .i64 x), (14, .int .i64 (sumTo at_ M x)), (13, .slice fa (walkN 1 M).length fcap), (12, .bool (nextR M).2), (11, .int .i64 (nextR M).1), (10, .pointer (some ⟨w3.heap.size, 0, none⟩)), (9, .int .i64 i), (8, .int .i64 at_), (7, .pointer (some ⟨p, 0, none⟩)), (2, .slice a2 len2 cap2), (1, .slice a' gl.length cap), (0, .int .i64 now)])
          (fun x w' => x ≤ 7 ∧ w' = w5) (fun x => 7 - x) 0 ⟨rfl, rfl, rfl, rfl, rfl, rfl, rfl, rfl, rfl, rfl, rfl, rfl, trivial⟩ ⟨by simp, rfl⟩ ?_
        rintro k _ ⟨hk, hw⟩
        rw [hw]
        rcases Nat.lt_or_ge k 7 with hk7 | hk7
        · refine q_seq (q_seq (q_reg (s_get rfl (e_move rfl) (s_get rfl (yes (e_lss rfl rfl) (by first | omega | (dsimp only; omega))) (s_end (x_then ?_))))))
          refine q_yes rfl (q_skip (x_then ?_))
          refine q_seq (q_block ?_)
          have hc : w5.cell? ⟨w3.heap.size, 0 + k, none⟩ = some (.int .i64 (cnt at_ M k)) := by rw [cell_of g5]; exact g4 k _ (spread_get _ _ hk7)
          have hsum := sumTo_hi at_ M k
          have hsum2 := hi_step at_ M k
          have hlen := WB.len
          refine q_reg (s_get rfl (e_move rfl) (s_get rfl (e_move rfl) (s_get rfl (e_idxaAt (0+k) rfl rfl (by first | omega | (dsimp only; omega)) (by first | omega | (dsimp only; omega)) (by first | omega | (dsimp only; omega))) (s_get rfl (e_ld rfl hc) (s_get rfl (e_add rfl rfl (by first | omega | (dsimp only; omega))) (s_get rfl (e_assign rfl) (s_end (x_block_normal (x_then ?_)))))))))
          refine q_reg (s_get rfl (e_move rfl) (s_get rfl (e_add rfl rfl (by first | omega | (dsimp only; omega))) (s_get rfl (e_assign rfl) (s_end ?_))))
          refine x_again (k + 1) ⟨rfl, rfl, rfl, rfl, rfl, rfl, rfl, rfl, rfl, rfl, rfl, rfl, trivial⟩ ⟨hk7, rfl⟩ (by omega)
        obtain rfl : k = 7 := by omega
        refine q_seq (q_seq (q_reg (s_get rfl (e_move rfl) (s_get rfl (nay (e_lss rfl rfl) (by first | omega | (dsimp only; omega))) (s_end (x_then ?_))))))
        refine q_no rfl ?_
        refine q_exit (x_then_exit (x_then_exit (x_block_exit (x_then ?_))))
        have hsum7 := sum_all hat fun e he => (hall e he).2.1
        rw [hsum7]
        clear hsum7
        -- the tests behind the sum
        have wk1 : walkN 1 M = M.take 1 := by unfold walkN; rw [if_neg (by omega)]; rfl
        rw [wk1] at s5 ⊢
        refine q_seq (q_mid [(14, .int .i64 M.length), (10, .pointer (some ⟨w3.heap.size, 0, none⟩)), (9, .int .i64 i), (8, .int .i64 at_), (7, .pointer (some ⟨p, 0, none⟩)), (2, .slice a2 len2 cap2), (1, .slice a' gl.length cap), (0, .int .i64 now)] (fun w' => w' = w5) ?_ ?_)
        · cases hM : M with
          | nil =>
            subst hM
            refine q_seq (q_reg (s_get rfl (e_move rfl) (s_get rfl (e_move rfl) (s_call rfl (e_fn rfl) (len_ret W5) ?_))))
            rintro _ _ ⟨rfl, rfl⟩
            refine s_get rfl (nay (e_neq rfl rfl) (by simp)) (s_get rfl (e_move rfl) (s_on rfl rfl (s_get rfl (e_move rfl) (s_on rfl rfl (s_get rfl (e_move rfl) (s_on rfl rfl (s_call rfl (e_fn rfl) (len_ret W5) ?_)))))))
            rintro _ _ ⟨rfl, rfl⟩
            refine s_on rfl rfl (s_get rfl (nay (e_gtr rfl rfl) (by simp)) (s_on rfl rfl (s_get rfl (nay (e_bneq rfl rfl) (by simp [nextR])) (s_get rfl (e_pickF rfl rfl) (s_get rfl (e_move rfl) (s_on rfl rfl (s_get rfl (e_move rfl) (s_on rfl rfl (s_get rfl (e_len rfl) (s_on rfl rfl (s_get rfl (nay (e_eql rfl rfl) (by simp)) (s_on rfl rfl (s_get rfl (e_move rfl) (s_off rfl rfl rfl rfl (s_off rfl rfl rfl rfl (s_off rfl rfl rfl rfl (s_off rfl rfl rfl rfl (s_off rfl rfl rfl rfl (s_off rfl rfl rfl rfl (s_on rfl rfl (s_get rfl (e_pickF rfl rfl) (s_get rfl (e_pickF rfl rfl) (s_get rfl (e_move rfl) (s_on rfl rfl (s_get rfl (e_move rfl) (s_on rfl rfl (s_get rfl (e_move rfl) (s_off rfl rfl rfl rfl (s_off rfl rfl rfl rfl (s_off rfl rfl rfl rfl (s_on rfl rfl (s_get rfl (e_pickF rfl rfl) (s_get rfl (e_pickF rfl rfl) (s_end (x_then ?_)))))))))))))))))))))))))))))))))))
            refine q_no rfl (q_skip (x_mid ⟨rfl, rfl, rfl, rfl, rfl, rfl, rfl, rfl, trivial⟩ rfl))
          | cons e M' =>
            subst hM
            obtain ⟨kb, off, rfl, rfl, hc, _⟩ := s5.pos (by simp)
            rw [show ((e :: M').take 1).length = 1 from rfl]
            have he := (hall e List.mem_cons_self).1
            refine q_seq (q_reg (s_get rfl (e_move rfl) (s_get rfl (e_move rfl) (s_call rfl (e_fn rfl) (len_ret W5) ?_))))
            rintro _ _ ⟨rfl, rfl⟩
            refine s_get rfl (nay (e_neq rfl rfl) (by simp)) (s_get rfl (e_move rfl) (s_on rfl rfl (s_get rfl (e_move rfl) (s_on rfl rfl (s_get rfl (e_move rfl) (s_on rfl rfl (s_call rfl (e_fn rfl) (len_ret W5) ?_)))))))
            rintro _ _ ⟨rfl, rfl⟩
            refine s_on rfl rfl (s_get rfl (yes (e_gtr rfl rfl) (by simp)) (s_on rfl rfl (s_get rfl (nay (e_bneq rfl rfl) (by simp [nextR])) (s_get rfl (e_pickF rfl rfl) (s_get rfl (e_move rfl) (s_on rfl rfl (s_get rfl (e_move rfl) (s_on rfl rfl (s_get rfl (e_len rfl) (s_on rfl rfl (s_get rfl (yes (e_eql rfl rfl) (by simp)) (s_on rfl rfl (s_get rfl (e_move rfl) (s_on rfl rfl (s_get rfl (e_move rfl) (s_on rfl rfl (s_get rfl (e_idxAt (off) rfl rfl (by first | omega | (dsimp only; omega)) (by first | omega | (dsimp only; omega)) (by first | omega | (dsimp only; omega))) (s_on rfl rfl (s_get rfl (e_fld rfl) (s_on rfl rfl (s_get rfl (e_ld rfl (hc 1 _ rfl)) (s_on rfl rfl (s_get rfl (e_move rfl) (s_on rfl rfl (s_get rfl (nay (e_neq rfl rfl) (by simp [nextR])) (s_on rfl rfl (s_get rfl (e_pickT rfl rfl) (s_get rfl (e_pickF rfl rfl) (s_get rfl (e_move rfl) (s_on rfl rfl (s_get rfl (e_move rfl) (s_on rfl rfl (s_get rfl (e_move rfl) (s_on rfl rfl (s_get rfl (e_move rfl) (s_on rfl rfl (s_get rfl (e_move rfl) (s_on rfl rfl (s_get rfl (nay (e_leq rfl rfl) (by simp [nextR]; omega)) (s_on rfl rfl (s_get rfl (e_pickT rfl rfl) (s_get rfl (e_pickF rfl rfl) (s_end (x_then ?_))))))))))))))))))))))))))))))))))))))))))))
            refine q_no rfl (q_skip (x_mid ⟨rfl, rfl, rfl, rfl, rfl, rfl, rfl, rfl, trivial⟩ rfl))
        intro _ hw
        rw [hw]
        clear hw
        obtain ⟨f, hf⟩ : ∃ f, sl[i]? = some f := ⟨sl[i]'(by omega), List.getElem?_eq_getElem (by omega)⟩
        have X25 : Ext w w5 := ((X2.trans X3).trans X4).trans X5
        obtain ⟨kb, off, rfl, _, hcs, _⟩ := (hs2.ext X25).pos (by omega)
        have hcf : w5.cell? ⟨kb, off + i, none⟩ = some (.int .i64 f) := hcs _ _ (by unfold nums; rw [List.getElem?_map, hf]; rfl)
        have hwf := within_in (x := f) (lo := 0) (hi := 1073741824) (by omega)
        obtain ⟨d, hd⟩ : ∃ d : Nat, within f 0 1073741824 = d := ⟨(within f 0 1073741824).toNat, by omega⟩
        refine q_seq (q_reg (s_get rfl (e_move rfl) (s_get rfl (e_move rfl) (s_get rfl (e_move rfl) (s_get rfl (e_idxAt (off+i) rfl rfl (by first | omega | (dsimp only; omega)) (by first | omega | (dsimp only; omega)) (by first | omega | (dsimp only; omega))) (s_get rfl (e_ld rfl hcf) (s_call rfl (e_fn rfl) (within_ret f 0 1073741824 w5 (hI2 f (List.mem_of_getElem? hf)) (by omega) (by omega) (by omega)) ?_)))))))
        rintro _ _ ⟨rfl, rfl⟩
        rw [hd]
        refine s_get rfl (e_add rfl rfl (by first | omega | (dsimp only; omega))) (s_get rfl (e_assign rfl) (s_end (x_then ?_)))
        refine q_seq (q_seq (q_reg (s_get rfl (e_move rfl) (s_get rfl (e_gtr rfl rfl) (s_end (x_then ?_))))))
        refine q_dec rfl (fun h => ?_) fun h => ?_
        · refine q_seq (q_reg (s_get rfl (e_assign rfl) (s_end (x_then ?_))))
          exact q_ret (x_then_ret (x_block_ret (x_then_ret (x_then_ret (x_block_ret (x_then_ret (x_ret1 (.inl rfl) rfl rfl ⟨rfl, X25⟩)))))))
        have h' : at_ + d ≤ 1099511627776 := by
          have : ¬ (1099511627776 : Int) < at_ + d := h
          omega
        have hadv : advE at_ ((at_ + d : Nat) : Int) = 0 := by
          unfold advE isTime
          rw [if_pos (by simp; omega), if_neg (by omega)]
        refine q_skip (x_then ?_)
        refine q_seq (q_reg (s_get rfl (e_move rfl) (s_get rfl (e_move rfl) (s_call rfl (e_fn rfl) (advance_ok W5 (at_ + d) hadv) ?_))))
        rintro _ w6 ⟨la, ln, lcap, lb, B6, rfl, hln, s6, nl, W6, K6, hB6⟩
        refine s_get rfl (e_move rfl) (s_get rfl (e_ext rfl rfl) (s_get rfl (e_ext rfl rfl) (s_get rfl (e_assign rfl) (s_get rfl (e_assign rfl) (s_end (x_then ?_))))))
        have K56 : Ext w w6 := X25.then K6 fun y hy => .inr (nB y hy)
        have nB6 : ∀ y, B6 y → w.heap.size ≤ y := fun y hy => nB y (hB6 y hy)
        have g6 := K6.at g5 fun hb => by have := WB.lt hb; have := X3.size; omega
        refine q_seq (q_reg (s_get rfl (e_move rfl) (s_call rfl (e_fn rfl) (spread_ret W6) ?_)))
        rintro _ w7 ⟨rfl, X7⟩
        obtain ⟨u1, u2, X8, arr8, u3, u4⟩ := stored7 (w := w7) (ints (spreadL (at_ + d) (M.dropWhile fun e => decide (e.2 ≤ at_ + d)))) (spread_len _ _) (ints_one _) (Value.agg #[.int .i64 0, .int .i64 0, .int .i64 0, .int .i64 0, .int .i64 0, .int .i64 0, .int .i64 0]).cells rfl
        refine s_val rfl e_alloc (s_set (e_stn (cs:=ints (spreadL (at_ + d) (M.dropWhile fun e=> decide (e.2 ≤ at_ + d)))) rfl rfl rfl (ints_one _) u1 u2) (s_end (x_then ?_)))
        generalize hw8 : ((w7.alloc (.cells (Value.agg #[.int .i64 0, .int .i64 0, .int .i64 0, .int .i64 0, .int .i64 0, .int .i64 0, .int .i64 0]).cells 38)).setCells w7.heap.size 0 (ints (spreadL (at_ + d) (M.dropWhile fun e => decide (e.2 ≤ at_ + d))))) = w8 at X8 u3 ⊢
        have W8 := W6.kept (X7.trans X8) fun _ _ h => h
        have g8 := (X7.trans X8).at g6
        have hrest := W8.all
        have hhi := fun k => hi_falls WB.srt (Nat.le_add_right at_ d) k
        have hlr := lap_rest (at_ + d) M
        change ∀ k, hi (at_ + d) (M.dropWhile fun e => decide (e.2 ≤ at_ + d)) k ≤ hi at_ M k at hhi
        change (M.takeWhile fun e => decide (e.2 ≤ at_ + d)).length + (M.dropWhile fun e => decide (e.2 ≤ at_ + d)).length = M.length at hlr
        rw [← hln] at hlr
        generalize hR : (M.dropWhile fun e => decide (e.2 ≤ at_ + d)) = R at *
        refine q_seq (q_seq (q_reg (s_get rfl (e_move rfl) (s_get rfl (nay (e_neq rfl rfl) (by first | omega | (dsimp only; omega))) (s_end (x_then ?_))))))
        refine q_no rfl (q_skip (x_then ?_))
        refine q_seq (q_reg (s_get rfl (e_assign rfl) (s_end (x_then ?_))))
        refine q_seq (q_reg (s_get rfl (e_assign rfl) (s_end (x_then ?_))))
        refine q_seq (q_seq (q_reg (s_get rfl (e_assign rfl) (s_end (x_then ?_)))))
        refine q_block ?_
        refine q_loop (α := Nat) (fun x => [(21, .int .i64 (x - 1)), (20, .int .i64 (hi (at_ + d) R x)), (19, .int .i64 (hi at_ M x)), (18, .pointer (some ⟨w7.heap.size, 0, none⟩)), (16, .slice la ln lcap), (14, .int .i64 M.length), (10, .pointer (some ⟨w3.heap.size, 0, none⟩)), (9, .int .i64 i), (8, .int .i64 (at_ + d)), (7, .pointer (some ⟨p, 0, none⟩)), (2, .slice (some ⟨kb, off, none⟩) len2 cap2), (1, .slice a' gl.length cap), (0, .int .i64 now)])
          (fun x w' => x ≤ 7 ∧ w' = w8) (fun x => x) 7 ⟨rfl, by rw [hi_top h' fun e he => (hrest e he).2.1]; rfl, by rw [hi_top hat fun e he => (hall e he).2.1]; rfl, rfl, rfl, rfl, rfl, rfl, rfl, rfl, rfl, rfl, rfl, trivial⟩ ⟨by simp, rfl⟩ ?_
        rintro k _ ⟨hk, hw⟩
        rw [hw]
        cases k with
        | zero =>
          refine q_seq (q_seq (q_reg (s_get rfl (e_move rfl) (s_get rfl (nay (e_geq rfl rfl) (by first | omega | (dsimp only; omega))) (s_end (x_then ?_))))))
          refine q_no rfl ?_
          refine q_exit (x_then_exit (x_then_exit (x_block_exit (x_then ?_))))
          refine q_seq (q_reg (s_get rfl (e_move rfl) (s_get rfl (e_len rfl) (s_get rfl (e_move rfl) (s_call rfl (e_fn rfl) (len_ret W8) ?_)))))
          rintro _ _ ⟨rfl, rfl⟩
          have hlb := W8.len
          have hlM := WB.len
          refine s_get rfl (e_add rfl rfl (by first | omega | (dsimp only; omega))) (s_get rfl (e_move rfl) (s_get rfl (nay (e_neq rfl rfl) (by first | omega | (dsimp only; omega))) (s_end (x_then ?_))))
          refine q_no rfl ?_
          refine q_skip (x_block_normal (x_then ?_))
          refine q_reg (s_get rfl (e_move rfl) (s_get rfl (e_add rfl rfl (by first | omega | (dsimp only; omega))) (s_get rfl (e_assign rfl) (s_end ?_))))
          exact x_again (i + 1, at_ + d, R) ⟨rfl, rfl, rfl, rfl, rfl, rfl, trivial⟩ ⟨h2, h1, (K56.trans X7).trans X8, B6, W8, nB6⟩ (by simp only []; omega)
        | succ k =>
          have hk7 : k < 7 := by omega
          refine q_seq (q_seq (q_reg (s_get rfl (e_move rfl) (s_get rfl (yes (e_geq rfl rfl) (by first | omega | (dsimp only; omega))) (s_end (x_then ?_))))))
          refine q_yes rfl (q_skip (x_then ?_))
          refine q_seq (q_block ?_)
          have hc1 : w8.cell? ⟨w3.heap.size, 0 + k, none⟩ = some (.int .i64 (cnt at_ M k)) := by rw [cell_of g8]; exact g4 k _ (spread_get _ _ hk7)
          have hc2 : w8.cell? ⟨w7.heap.size, 0 + k, none⟩ = some (.int .i64 (cnt (at_ + d) R k)) := by rw [cell_of u3]; exact u4 k _ (spread_get _ _ hk7)
          have e1 := hi_step at_ M k
          have e2 := hi_step (at_ + d) R k
          have e3 := hhi k
          have e4 := sumTo_hi at_ M k
          have e5 := WB.len
          refine q_seq (q_reg (s_get rfl (e_move rfl) (s_get rfl (e_move rfl) (s_get rfl (e_idxaAt (0+k) rfl rfl (by first | omega | (dsimp only; omega)) (by first | omega | (dsimp only; omega)) (by first | omega | (dsimp only; omega))) (s_get rfl (e_ld rfl hc1) (s_get rfl (e_add rfl rfl (by first | omega | (dsimp only; omega))) (s_get rfl (e_assign rfl) (s_end (x_then ?_)))))))))
          refine q_seq (q_reg (s_get rfl (e_move rfl) (s_get rfl (e_move rfl) (s_get rfl (e_idxaAt (0+k) rfl rfl (by first | omega | (dsimp only; omega)) (by first | omega | (dsimp only; omega)) (by first | omega | (dsimp only; omega))) (s_get rfl (e_ld rfl hc2) (s_get rfl (e_add rfl rfl (by first | omega | (dsimp only; omega))) (s_get rfl (e_assign rfl) (s_end (x_then ?_)))))))))
          refine q_seq (q_reg (s_get rfl (e_move rfl) (s_get rfl (e_move rfl) (s_get rfl (nay (e_gtr rfl rfl) (by first | omega | (dsimp only; omega))) (s_end (x_then ?_))))))
          refine q_no rfl (q_skip (x_block_normal (x_then ?_)))
          refine q_reg (s_get rfl (e_move rfl) (s_get rfl (e_sub rfl rfl (by first | omega | (dsimp only; omega))) (s_get rfl (e_assign rfl) (s_end ?_))))
          refine x_again k ⟨?_, ?_, ?_, rfl, rfl, rfl, rfl, rfl, rfl, rfl, rfl, rfl, rfl, trivial⟩ ⟨by omega, rfl⟩ (by omega)
          · show some (Value.int .i64 _) = some (Value.int .i64 _)
            congr 2; omega
          · show some (Value.int .i64 _) = some (Value.int .i64 _)
            congr 2; omega
          · show some (Value.int .i64 _) = some (Value.int .i64 _)
            congr 2; omega
      · obtain rfl : i = 100 := by omega
        refine q_seq (q_seq (q_reg (s_get rfl (e_move rfl) (s_get rfl (e_move rfl) (s_get rfl (e_len rfl) (s_get rfl (yes (e_lss rfl rfl) (by first | omega | (dsimp only; omega))) (s_get rfl (e_move rfl) (s_on rfl rfl (s_get rfl (e_move rfl) (s_on rfl rfl (s_get rfl (nay (e_lss rfl rfl) (by first | omega | (dsimp only; omega))) (s_get rfl (e_pickT rfl rfl) (s_end (x_then ?_))))))))))))))
        refine q_no rfl ?_
        exact q_exit (x_then_exit (x_then_exit (x_block_exit (x_mid ⟨rfl, rfl, rfl, trivial⟩ X2))))
    · obtain rfl : i = len2 := by omega
      refine q_seq (q_seq (q_reg (s_get rfl (e_move rfl) (s_get rfl (e_move rfl) (s_get rfl (e_len rfl) (s_get rfl (nay (e_lss rfl rfl) (by first | omega | (dsimp only; omega))) (s_get rfl (e_move rfl) (s_off rfl rfl rfl rfl (s_off rfl rfl rfl rfl (s_get rfl (e_pickF rfl rfl) (s_end (x_then ?_))))))))))))
      refine q_no rfl ?_
      exact q_exit (x_then_exit (x_then_exit (x_block_exit (x_mid ⟨rfl, rfl, rfl, trivial⟩ X2))))
  · intro w2 X2
    have hisT : isTime (now : Int) = true := by unfold isTime; simp; omega
    refine q_seq (q_reg (s_get rfl (e_move rfl) (s_call rfl (e_fn rfl) (new_ret now w2 hisT) ?_)))
    rintro _ w3 ⟨q, B, rfl, WB, X3, nB⟩
    refine s_get rfl (e_move rfl) (s_get rfl (e_ext rfl rfl) (s_get rfl (e_ext rfl rfl) (s_get rfl (e_assign rfl) (s_get rfl (e_assign rfl) (s_end (x_then ?_))))))
    refine q_seq (q_seq (q_reg (s_get rfl (e_move rfl) (s_get rfl (e_pnil rfl rfl) (s_get rfl (e_move rfl) (s_on rfl rfl (s_get rfl (e_move rfl) (s_on rfl rfl (s_get rfl (nay (e_neq rfl rfl) (by first | omega | (dsimp only; omega))) (s_get rfl (e_pickF rfl rfl) (s_end (x_then ?_))))))))))))
    refine q_no rfl (q_skip (x_then ?_))
    refine q_seq (q_seq (q_reg (s_get rfl (e_assign rfl) (s_end (x_then ?_)))))
    refine q_block ?_
    refine q_loop (α := Nat) (fun x => [(24, .int .i64 x), (22, .pointer (some ⟨q, 0, none⟩)), (1, .slice a' gl.length cap), (0, .int .i64 now)])
      (fun x w' => x ≤ gl.length ∧ Ext w w' ∧ ∃ B, IsW w' q now [] B ∧ ∀ y, B y → w.heap.size ≤ y) (fun x => gl.length - x) 0 ⟨rfl, rfl, rfl, rfl, trivial⟩ ⟨by simp, X2.trans X3, B, WB, fun y hy => Nat.le_trans X2.size (nB y hy)⟩ ?_
    clear WB X3 nB X2 B
    rintro i w4 ⟨hi, X4, B, WB, nB⟩
    rcases Nat.lt_or_ge i gl.length with h1 | h1
    · refine q_seq (q_seq (q_reg (s_get rfl (e_move rfl) (s_get rfl (e_move rfl) (s_get rfl (e_len rfl) (s_get rfl (yes (e_lss rfl rfl) (by first | omega | (dsimp only; omega))) (s_end (x_then ?_))))))))
      refine q_yes rfl (q_skip (x_then ?_))
      refine q_seq (q_block ?_)
      obtain ⟨f, hf⟩ : ∃ f, gl[i]? = some f := ⟨gl[i], List.getElem?_eq_getElem h1⟩
      obtain ⟨kb, off, rfl, _, hcs, _⟩ := (hs'.ext X4).pos (by omega)
      have hcf : w4.cell? ⟨kb, off + i, none⟩ = some (.int .i64 f) := hcs _ _ (by unfold nums; rw [List.getElem?_map, hf]; rfl)
      have hwf := within_in (x := f) (lo := 0) (hi := 549755813888) (by omega)
      obtain ⟨d, hd⟩ : ∃ d : Nat, within f 0 549755813888 = d := ⟨(within f 0 549755813888).toNat, by omega⟩
      refine q_seq (q_reg (s_get rfl (e_move rfl) (s_get rfl (e_add rfl rfl (by first | omega | (dsimp only; omega))) (s_get rfl (e_move rfl) (s_get rfl (e_move rfl) (s_get rfl (e_idxAt (off+i) rfl rfl (by first | omega | (dsimp only; omega)) (by first | omega | (dsimp only; omega)) (by first | omega | (dsimp only; omega))) (s_get rfl (e_ld rfl hcf) (s_call rfl (e_fn rfl) (within_ret f 0 549755813888 w4 (hI' f (List.mem_of_getElem? hf)) (by omega) (by omega) (by omega)) ?_))))))))
      rintro _ _ ⟨rfl, rfl⟩
      rw [hd]
      refine s_get rfl (e_add rfl rfl (by first | omega | (dsimp only; omega))) (s_get rfl (e_assign rfl) (s_end (x_then ?_)))
      obtain ⟨t, ht⟩ : ∃ t : Nat, (now : Int) + 1 + d = t := ⟨now + 1 + d, by omega⟩
      rw [ht]
      have hlv : level t now ≤ 6 := lv6 (by omega) (by omega)
      have hxn : isName ⟨#[120]⟩ = true := rfl
      have hadd : addE now [] ⟨#[120]⟩ (t : Int) = 0 := by
        unfold addE aheadE isTime
        rw [hxn, if_pos rfl]
        have h3 : ¬ ((t : Nat) : Int) ≤ now := by omega
        have h4 : (t : Int) ≤ 1099511627776 := by omega
        simp [atOf, h3]
        omega
      have haddM : addM now [] ⟨#[120]⟩ (t : Int) = [(⟨#[120]⟩, t)] := by unfold addM; rw [if_pos hadd]; rfl
      refine q_seq (q_reg (s_get rfl (e_move rfl) (s_get rfl (e_move rfl) (s_call rfl (e_fn rfl) (add_ret WB ⟨#[120]⟩ t) ?_))))
      rintro _ w5 ⟨rfl, B5, W5, K5, G5⟩
      rw [hadd]
      rw [haddM] at W5
      refine s_get rfl (e_assign rfl) (s_end (x_then ?_))
      have K45 : Ext w w5 := X4.then K5 fun y hy => .inr (nB y hy)
      have nB5 : ∀ y, B5 y → w.heap.size ≤ y := fun y hy => by
        rcases G5 y hy with h | h
        · exact nB y h
        · have := X4.size; omega
      refine q_seq (q_reg (s_get rfl (e_move rfl) (s_call rfl (e_fn rfl) (spread_ret W5) ?_)))
      rintro _ w6 ⟨rfl, X6⟩
      obtain ⟨u1, u2, X7, arr, u3, u4⟩ := stored7 (w := w6) (ints (spreadL now [(⟨#[120]⟩, t)])) (spread_len _ _) (ints_one _) (Value.agg #[.int .i64 0, .int .i64 0, .int .i64 0, .int .i64 0, .int .i64 0, .int .i64 0, .int .i64 0]).cells rfl
      refine s_val rfl e_alloc (s_set (e_stn (cs:=ints (spreadL now [(⟨#[120]⟩, t)])) rfl rfl rfl (ints_one _) u1 u2) (s_end (x_then ?_)))
      generalize hw7 : ((w6.alloc (.cells (Value.agg #[.int .i64 0, .int .i64 0, .int .i64 0, .int .i64 0, .int .i64 0, .int .i64 0, .int .i64 0]).cells 38)).setCells w6.heap.size 0 (ints (spreadL now [(⟨#[120]⟩, t)]))) = w7 at X7 u3 ⊢
      have W7 := W5.kept (X6.trans X7) fun _ _ h => h
      refine q_seq (q_reg (s_get rfl (e_assign rfl) (s_end (x_then ?_))))
      refine q_seq (q_block ?_)
      refine q_loop (α := Nat) (fun x => [(28, .int .i64 x), (27, .pointer (some ⟨w6.heap.size, 0, none⟩)), (26, .int .i64 0), (25, .int .i64 t), (24, .int .i64 i), (22, .pointer (some ⟨q, 0, none⟩)), (1, .slice (some ⟨kb, off, none⟩) gl.length cap), (0, .int .i64 now)])
        (fun x w' => x ≤ level t now ∧ w' = w7) (fun x => 7 - x) 0 ⟨rfl, rfl, rfl, rfl, rfl, rfl, rfl, rfl, trivial⟩ ⟨Nat.zero_le _, rfl⟩ ?_
      rintro k _ ⟨hk, hw⟩
      rw [hw]
      have hdiv : ∀ x : Nat, (x : Int) / 2 ^ (6 * (k : Int) + 6).toNat = ((x / 64 ^ (k + 1) : Nat) : Int) := fun x => by
        rw [show (6 * (k : Int) + 6).toNat = 6 * (k + 1) by omega, pow64]
        simp
      refine q_seq (q_seq (d_begin (fun _ => True) [] (d_pure (i := 0) rfl rfl rfl (by kernel_rfl) (fun w' => (e_move rfl)) (d_pure (i := 1) rfl rfl rfl (by kernel_rfl) (fun w' => (e_move rfl)) (d_pure (i := 2) rfl rfl rfl (by kernel_rfl) (fun w' => (e_mul rfl rfl (by first | omega | (dsimp only; omega)))) (d_pure (i := 3) rfl rfl rfl (by kernel_rfl) (fun w' => (e_add rfl rfl (by first | omega | (dsimp only; omega)))) (d_pure (i := 4) rfl rfl rfl (by kernel_rfl) (fun w' => (e_shr64 rfl rfl (by first | omega | (dsimp only; omega)) (by first | omega | (dsimp only; omega)))) (d_pure (i := 5) rfl rfl rfl (by kernel_rfl) (fun w' => (e_move rfl)) (d_pure (i := 6) rfl rfl rfl (by kernel_rfl) (fun w' => (e_move rfl)) (d_pure (i := 7) rfl rfl rfl (by kernel_rfl) (fun w' => (e_mul rfl rfl (by first | omega | (dsimp only; omega)))) (d_pure (i := 8) rfl rfl rfl (by kernel_rfl) (fun w' => (e_add rfl rfl (by first | omega | (dsimp only; omega)))) (d_pure (i := 9) rfl rfl rfl (by kernel_rfl) (fun w' => (e_shr64 rfl rfl (by first | omega | (dsimp only; omega)) (by first | omega | (dsimp only; omega)))) (d_pure (i := 10) rfl rfl rfl (by kernel_rfl) (fun w' => (e_neq rfl rfl)) (d_end (by kernel_rfl) (x_then ?_)))))))))))))))
      rw [hdiv, hdiv]
      refine q_dec rfl (fun h => ?_) fun h => ?_
      · have hlt : k < level t now := by
          rcases Nat.lt_or_ge k (level t now) with g | g
          · exact g
          · exfalso
            have := (level_le k t now).1 g
            unfold Agree at this
            exact h (by rw [this])
        refine q_skip (x_then ?_)
        refine q_block ?_
        refine q_reg (s_get rfl (e_move rfl) (s_get rfl (e_add rfl rfl (by first | omega | (dsimp only; omega))) (s_get rfl (e_assign rfl) (s_end (x_block_normal ?_)))))
        exact x_again (k + 1) ⟨rfl, rfl, rfl, rfl, rfl, rfl, rfl, rfl, trivial⟩ ⟨hlt, rfl⟩ (by omega)
      · have hag : level t now ≤ k := (level_le k t now).2 (by
          unfold Agree
          have : ((t / 64 ^ (k + 1) : Nat) : Int) = (now / 64 ^ (k + 1) : Nat) := Decidable.not_not.1 h
          omega)
        have hke : level t now = k := by omega
        refine q_exit (x_then_exit (x_then_exit (x_block_exit (x_then ?_))))
        have hrem : remE [(⟨#[120]⟩, t)] ⟨#[120]⟩ = 0 := by unfold remE; rw [hxn]; simp [atOf]
        have hremM : remM [((⟨#[120]⟩ : ByteArray), t)] ⟨#[120]⟩ = [] := by unfold remM; rw [if_pos hrem]; simp [cut]
        refine q_seq (q_reg (s_get rfl (e_move rfl) (s_call rfl (e_fn rfl) (remove_ret W7 ⟨#[120]⟩) ?_)))
        rintro _ w8 ⟨rfl, B8, W8, K8, G8⟩
        rw [hrem]
        rw [hremM] at W8
        have hz6 := X6.size
        have hz7 := X7.size
        have K58 : Ext w w8 := ((K45.trans X6).trans X7).then K8 fun y hy => .inr (nB5 y hy)
        have u8 := K8.at u3 fun hb => by have := W5.lt hb; omega
        have hcnt : cnt now [((⟨#[120]⟩ : ByteArray), t)] k = 1 := by unfold cnt; simp [hke]
        have hc : w8.cell? ⟨w6.heap.size, 0 + k, none⟩ = some (.int .i64 1) := by
          rw [cell_of u8, u4 k _ (spread_get _ _ (by omega)), hcnt]; rfl
        refine s_get rfl (e_assign rfl) (s_end (x_then ?_))
        refine q_seq (q_reg (s_get rfl (e_move rfl) (s_get rfl (nay (e_neq rfl rfl) (by simp)) (s_get rfl (e_move rfl) (s_on rfl rfl (s_get rfl (e_move rfl) (s_on rfl rfl (s_get rfl (nay (e_neq rfl rfl) (by simp)) (s_get rfl (e_pickF rfl rfl) (s_get rfl (e_move rfl) (s_on rfl rfl (s_get rfl (e_move rfl) (s_on rfl rfl (s_get rfl (e_idxaAt (0+k) rfl rfl (by first | omega | (dsimp only; omega)) (by first | omega | (dsimp only; omega)) (by first | omega | (dsimp only; omega))) (s_on rfl rfl (s_get rfl (e_ld rfl hc) (s_on rfl rfl (s_get rfl (nay (e_neq rfl rfl) (by simp)) (s_get rfl (e_pickF rfl rfl) (s_get rfl (e_move rfl) (s_on rfl rfl (s_get rfl (e_move rfl) (s_on rfl rfl (s_call rfl (e_fn rfl) (len_ret W8) ?_))))))))))))))))))))))))
        rintro _ _ ⟨rfl, rfl⟩
        refine s_on rfl rfl (s_get rfl (nay (e_neq rfl rfl) (by simp)) (s_get rfl (e_pickF rfl rfl) (s_end (x_then ?_))))
        refine q_no rfl ?_
        refine q_skip (x_block_normal (x_then ?_))
        refine q_reg (s_get rfl (e_move rfl) (s_get rfl (e_add rfl rfl (by first | omega | (dsimp only; omega))) (s_get rfl (e_assign rfl) (s_end ?_))))
        exact x_again (i + 1) ⟨rfl, rfl, rfl, rfl, trivial⟩ ⟨h1, K58, B8, W8, fun y hy => by
          rcases G8 y hy with g | g
          · exact nB5 y g
          · have := K45.size; omega⟩ (by omega)
    · obtain rfl : i = gl.length := by omega
      refine q_seq (q_seq (q_reg (s_get rfl (e_move rfl) (s_get rfl (e_move rfl) (s_get rfl (e_len rfl) (s_get rfl (nay (e_lss rfl rfl) (by first | omega | (dsimp only; omega))) (s_end (x_then ?_))))))))
      refine q_no rfl ?_
      refine q_exit (x_then_exit (x_then_exit (x_block_exit (x_then ?_))))
      refine q_seq (q_reg (s_get rfl (e_assign rfl) (s_end (x_then ?_))))
      exact q_ret (x_ret1 (.inl rfl) rfl rfl ⟨rfl, X4⟩)
end Go.Proofs.Ytogfllhbgkeinaa.Wheel

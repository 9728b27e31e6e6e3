/-
  WheelPlays: the statement's function returns true.
-/
import Derived.Test.YtogfllhbgkeinaaPlays
set_option linter.unusedVariables false
set_option linter.unusedSimpArgs false
namespace Go.Proofs.Ytogfllhbgkeinaa.Wheel
open Go.RowKit Base Lev Wa Eng Wb Spc
open Go.ChangeMaps (setBlock)
variable {w : World}

abbrev Opr := Int × ByteArray × Int × Bool
def ocells (o : Opr) : List Value := opcells o.1 o.2.1 o.2.2.1 o.2.2.2
theorem plays_ret {a : Option Addr} {len cap : Nat} {ol : List Opr} {b : Option Nat} (x0 : Int) (hs : Rd w 4 a len cap (ol.flatMap ocells) b) (hlm : len ≤ 9223372036854775807) :
    Ret Try.prog 5 #[.int .i64 x0, .slice a len cap] w fun v w' => v = .bool true ∧ Ext w w' := by
  have hol : ol.length = len := by
    have := hs.length
    rw [flat_length (enc := ocells) (k := 4) fun _ => rfl] at this
    omega
  refine ret_of (vs := [_, _]) Try.func5 rfl Try.ntmps5 rfl fun _ => ?_
  refine q_seq (q_reg (s_get rfl (e_assign rfl) (s_end (x_then ?_))))
  cases hT : isTime x0 with
  | false =>
    refine q_seq (q_reg (s_get rfl (e_move rfl) (s_call rfl (e_fn rfl) (new_bad x0 w hT) ?_)))
    rintro _ w1 ⟨rfl, hw⟩
    rw [hw]
    refine s_get rfl (e_move rfl) (s_get rfl (e_ext rfl rfl) (s_get rfl (e_ext rfl rfl) (s_get rfl (e_assign rfl) (s_get rfl (e_assign rfl) (s_end (x_then ?_))))))
    refine q_seq (q_reg (s_get rfl (e_move rfl) (s_call rfl (e_fn rfl) (rnew_bad x0 w hT) ?_)))
    rintro _ w1 ⟨rfl, hw⟩
    rw [hw]
    refine s_get rfl (e_move rfl) (s_get rfl (e_ext rfl rfl) (s_get rfl (e_ext rfl rfl) (s_get rfl (e_assign rfl) (s_get rfl (e_assign rfl) (s_end (x_then ?_))))))
    refine q_seq (q_seq (q_reg (s_get rfl (e_move rfl) (s_get rfl (e_move rfl) (s_get rfl (nay (e_neq rfl rfl) (by simp)) (s_get rfl (e_move rfl) (s_on rfl rfl (s_get rfl (e_move rfl) (s_on rfl rfl (s_get rfl (e_pnil rfl rfl) (s_on rfl rfl (s_get rfl (e_move rfl) (s_on rfl rfl (s_get rfl (e_pnil rfl rfl) (s_on rfl rfl (s_get rfl (nay (e_bneq rfl rfl) (by simp)) (s_get rfl (e_pickF rfl rfl) (s_end (x_then ?_)))))))))))))))))))
    refine q_no rfl (q_skip (x_then ?_))
    refine q_seq (q_seq (q_reg (s_get rfl (e_move rfl) (s_get rfl (e_pnil rfl rfl) (s_end (x_then ?_))))))
    refine q_yes rfl ?_
    refine q_seq (q_reg (s_get rfl (e_assign rfl) (s_end (x_then ?_))))
    refine q_ret ?_
    repeat (first | refine x_then_ret ?_ | refine x_block_ret ?_ | refine x_scope_ret ?_)
    exact (x_ret1 (.inl rfl) rfl rfl ⟨rfl, Ext.refl _⟩)
  | true =>
    obtain ⟨now, rfl, hnow⟩ := isTime_nat hT
    refine q_seq (q_reg (s_get rfl (e_move rfl) (s_call rfl (e_fn rfl) (new_ret now w hT) ?_)))
    rintro _ w1 ⟨wb, A, rfl, W1, X1, n1⟩
    refine s_get rfl (e_move rfl) (s_get rfl (e_ext rfl rfl) (s_get rfl (e_ext rfl rfl) (s_get rfl (e_assign rfl) (s_get rfl (e_assign rfl) (s_end (x_then ?_))))))
    refine q_seq (q_reg (s_get rfl (e_move rfl) (s_call rfl (e_fn rfl) (rnew_ret now w1 hT) ?_)))
    rintro _ w2 ⟨rb, B, rfl, R2, X2, n2⟩
    have hP : Pair w w2 wb rb now [] A B := ⟨W1.kept X2 fun _ _ h => h, R2, fun x hx hy => by have := W1.lt hx; have := n2 x hy; omega, X1.trans X2, n1, fun x hx => Nat.le_trans X1.size (n2 x hx)⟩
    refine s_get rfl (e_move rfl) (s_get rfl (e_ext rfl rfl) (s_get rfl (e_ext rfl rfl) (s_get rfl (e_assign rfl) (s_get rfl (e_assign rfl) (s_end (x_then ?_))))))
    refine q_seq (q_seq (q_reg (s_get rfl (e_move rfl) (s_get rfl (e_move rfl) (s_get rfl (nay (e_neq rfl rfl) (by simp)) (s_get rfl (e_move rfl) (s_on rfl rfl (s_get rfl (e_move rfl) (s_on rfl rfl (s_get rfl (e_pnil rfl rfl) (s_on rfl rfl (s_get rfl (e_move rfl) (s_on rfl rfl (s_get rfl (e_pnil rfl rfl) (s_on rfl rfl (s_get rfl (nay (e_bneq rfl rfl) (by simp)) (s_get rfl (e_pickF rfl rfl) (s_end (x_then ?_)))))))))))))))))))
    refine q_no rfl (q_skip (x_then ?_))
    refine q_seq (q_seq (q_reg (s_get rfl (e_move rfl) (s_get rfl (e_pnil rfl rfl) (s_end (x_then ?_))))))
    refine q_no rfl (q_skip (x_then ?_))
    refine q_seq (q_seq (q_reg (s_get rfl (e_assign rfl) (s_end (x_then ?_)))))
    refine q_block ?_
    refine q_loop (α := Nat) (fun x => [(9, .int .i64 x), (7, .pointer (some ⟨rb, 0, none⟩)), (5, .pointer (some ⟨wb, 0, none⟩)), (1, .slice a len cap)]) (fun x w' => x ≤ len ∧ ∃ now' M A B, Pair w w' wb rb now' M A B) (fun x => len - x) 0 ⟨rfl, rfl, rfl, rfl, trivial⟩ ⟨by simp, _, _, _, _, hP⟩ ?_
    rintro i w3 ⟨hi, now', M, A, B, h⟩
    rcases Nat.lt_or_ge i len with hlt | hge
    · obtain ⟨o, ho⟩ : ∃ o, ol[i]? = some o := ⟨ol[i]'(by omega), List.getElem?_eq_getElem (by omega)⟩
      obtain ⟨kb, off, rfl, _, hcs, _⟩ := (hs.ext h.k).pos (by omega)
      have hc : Cells w3 kb (off + i * 4) (ocells o) := fun j v hj => by
        have := hcs _ _ (flat_elem (enc := ocells) (k := 4) (fun _ => rfl) ho hj)
        rw [Nat.add_assoc]; exact this
      refine q_seq (q_seq (q_reg (s_get rfl (e_move rfl) (s_get rfl (e_move rfl) (s_get rfl (e_len rfl) (s_get rfl (yes (e_lss rfl rfl) (by first | omega | (dsimp only; omega))) (s_end (x_then ?_))))))))
      refine q_yes rfl (q_skip (x_then ?_))
      refine q_seq (q_block ?_)
      refine q_seq (q_reg (s_get rfl (e_move rfl) (s_get rfl (e_move rfl) (s_get rfl (e_move rfl) (s_get rfl (e_move rfl) (s_get rfl (e_idxAt (off+i*4) rfl rfl (by first | omega | (dsimp only; omega)) (by first | omega | (dsimp only; omega)) (by first | omega | (dsimp only; omega))) (s_get rfl (e_ldn (cs:=ocells o) rfl rfl hc) (s_call rfl (e_fn rfl) (does_ret h o.1 o.2.1 o.2.2.1 o.2.2.2) ?_))))))))
      rintro _ w4 ⟨rfl, now4, M4, A4, B4, h4⟩
      refine s_get rfl (e_assign rfl) (s_end (x_then ?_))
      refine q_seq (q_reg (s_get rfl (e_move rfl) (s_get rfl (e_not rfl) (s_end (x_then ?_)))))
      refine q_no rfl (q_skip (x_block_normal (x_then ?_)))
      refine q_reg (s_get rfl (e_move rfl) (s_get rfl (e_add rfl rfl (by first | omega | (dsimp only; omega))) (s_get rfl (e_assign rfl) (s_end ?_))))
      exact x_again (i + 1) ⟨rfl, rfl, rfl, rfl, trivial⟩ ⟨hlt, _, _, _, _, h4⟩ (by omega)
    · obtain rfl : i = len := by omega
      refine q_seq (q_seq (q_reg (s_get rfl (e_move rfl) (s_get rfl (e_move rfl) (s_get rfl (e_len rfl) (s_get rfl (nay (e_lss rfl rfl) (by first | omega | (dsimp only; omega))) (s_end (x_then ?_))))))))
      refine q_no rfl ?_
      refine q_exit (x_then_exit (x_then_exit (x_block_exit (x_then ?_))))
      refine q_seq (q_reg (s_get rfl (e_move rfl) (s_get rfl (e_move rfl) (s_get rfl (e_build (opcells 5 ⟨#[]⟩ 0 false) rfl (by kernel_rfl)) (s_call rfl (e_fn rfl) (does_ret h 5 ⟨#[]⟩ 0 false) ?_)))))
      rintro _ w4 ⟨rfl, now4, M4, A4, B4, h4⟩
      refine s_get rfl (e_assign rfl) (s_end (x_then ?_))
      refine q_seq (q_reg (s_get rfl (e_move rfl) (s_get rfl (e_move rfl) (s_get rfl (e_build (opcells 6 ⟨#[]⟩ 3 false) rfl (by kernel_rfl)) (s_call rfl (e_fn rfl) (does_ret h4 6 ⟨#[]⟩ 3 false) ?_)))))
      rintro _ w5 ⟨rfl, now5, M5, A5, B5, h5⟩
      refine s_get rfl (e_assign rfl) (s_end (x_then ?_))
      refine q_seq (q_reg (s_get rfl (e_move rfl) (s_get rfl (e_move rfl) (s_on rfl rfl (s_get rfl (e_move rfl) (s_get rfl (e_pickT rfl rfl) (s_get rfl (e_assign rfl) (s_end (x_then ?_)))))))))
      refine q_ret ?_
      repeat (first | refine x_then_ret ?_ | refine x_block_ret ?_ | refine x_scope_ret ?_)
      exact (x_ret1 (.inl rfl) rfl rfl ⟨rfl, h5.k⟩)
end Go.Proofs.Ytogfllhbgkeinaa.Wheel

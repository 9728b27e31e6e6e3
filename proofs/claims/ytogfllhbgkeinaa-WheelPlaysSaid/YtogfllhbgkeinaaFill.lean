/-
  filled: a wheel with a name for each of some times.
-/
import Derived.Test.YtogfllhbgkeinaaLaw
set_option linter.unusedVariables false
set_option linter.unusedSimpArgs false
namespace Go.Proofs.Ytogfllhbgkeinaa.Wheel
open Go.RowKit Base Lev Wa Eng Wb Spc
open Go.ChangeMaps (setBlock)

def fat (now : Nat) (f : Int) : Nat := now + 1 + (within f 0 549755813888).toNat
def fillM (now : Nat) (fl : List Int) : Nat → List Ent
  | 0 => []
  | i + 1 => ins (name i, fat now (fl.getD i 0)) (fillM now fl i)
theorem fillM_succ (now : Nat) (fl : List Int) (i : Nat) : fillM now fl (i + 1) = ins (name i, fat now (fl.getD i 0)) (fillM now fl i) := rfl
theorem fat_in (now : Nat) (f : Int) : now < fat now f ∧ fat now f ≤ now + 549755813889 := by
  have := within_in (x := f) (lo := 0) (hi := 549755813888) (by omega)
  unfold fat; omega
theorem fillM_mem {now : Nat} {fl : List Int} {e : Ent} : ∀ {i : Nat}, e ∈ fillM now fl i ↔ ∃ j, j < i ∧ e = (name j, fat now (fl.getD j 0))
  | 0 => by simp [fillM]
  | i + 1 => by
    unfold fillM
    rw [(ins_perm _ _).mem_iff, List.mem_cons, fillM_mem]
    constructor
    · rintro (rfl | ⟨j, hj, rfl⟩)
      · exact ⟨i, by omega, rfl⟩
      · exact ⟨j, by omega, rfl⟩
    · rintro ⟨j, hj, rfl⟩
      by_cases h : j = i
      · subst h; exact .inl rfl
      · exact .inr ⟨j, by omega, rfl⟩
theorem fillM_len (now : Nat) (fl : List Int) : ∀ i, (fillM now fl i).length = i
  | 0 => rfl
  | i + 1 => by unfold fillM; rw [ins_len, fillM_len]
theorem fillM_new {now : Nat} {fl : List Int} {i : Nat} (hi : i < 17576) : atOf (name i) (fillM now fl i) = none := atOf_none.2 fun e he g => by
  obtain ⟨j, hj, rfl⟩ := fillM_mem.1 he
  have := name_inj (by omega) hi g
  omega
theorem fillM_names {now : Nat} {fl : List Int} : ∀ {i : Nat}, i < 17576 → ((fillM now fl i).map (·.1)).Nodup
  | 0, _ => List.nodup_nil
  | i + 1, h => ins_names (fillM_names (by omega)) (fillM_new (by omega))
theorem fillM_srt {now : Nat} {fl : List Int} : ∀ {i : Nat}, i < 17576 → Srt (fillM now fl i)
  | 0, _ => List.Pairwise.nil
  | i + 1, h => ins_srt (fillM_srt (by omega)) (not_mem_of_none (fillM_new (by omega)) _)
theorem fillM_at {now : Nat} {fl : List Int} {i j : Nat} (hi : i < 17576) (hj : j < i) : atOf (name j) (fillM now fl i) = some (fat now (fl.getD j 0)) :=
  atOf_mem (fillM_names hi) (fillM_mem.2 ⟨j, hj, rfl⟩)
def nums (l : List Int) : List Value := l.map fun n => .int .i64 n
def I64 (n : Int) : Prop := -9223372036854775808 ≤ n ∧ n ≤ 9223372036854775807
theorem fill_step {now : Nat} {fl : List Int} {i : Nat} (hnow : now ≤ 549755813887) (hi : i < 400) : addE now (fillM now fl i) (name i) (fat now (fl.getD i 0) : Nat) = 0 := by
  have h1 := fat_in now (fl.getD i 0)
  generalize fat now (fl.getD i 0) = x at *
  have h2 : ¬ 4096 ≤ i := by omega
  have h3 : isTime ((x : Nat) : Int) = true := by simp [isTime]; omega
  have h4 : ¬ ((x : Nat) : Int) ≤ now := by omega
  unfold addE aheadE
  rw [name_isName, fillM_new (by omega), fillM_len, h3]
  rw [if_neg h4]
  simp [h2]
theorem filled_ret {a : Option Addr} {cap : Nat} {fl : List Int} {b : Option Nat} {now : Nat} {w : World} (hs : Rd w 1 a fl.length cap (nums fl) b) (hI : ∀ f ∈ fl, I64 f) (hl : fl.length ≤ 400) (hnow : now ≤ 549755813887) :
    Ret Try.prog 9 #[.int .i64 now, .slice a fl.length cap] w fun v w' => ∃ wb B, v = .pointer (some ⟨wb, 0, none⟩) ∧ IsW w' wb now (fillM now fl fl.length) B ∧ Ext w w' ∧ ∀ x, B x → w.heap.size ≤ x := by
  refine ret_of (vs := [_, _]) Try.func9 rfl Try.ntmps9 rfl fun _ => ?_
  have hcall := new_ret now w (by simp [isTime]; omega)
  refine q_seq (q_reg (s_get rfl (e_assign rfl) (s_end (x_then ?_))))
  refine q_seq (q_reg (s_get rfl (e_move rfl) (s_call rfl (e_fn rfl) hcall ?_)))
  rintro _ w1 ⟨wb, B, rfl, W, X1, hB⟩
  refine s_get rfl (e_move rfl) (s_get rfl (e_ext rfl rfl) (s_get rfl (e_ext rfl rfl) (s_get rfl (e_assign rfl) (s_get rfl (e_assign rfl) (s_end (x_then ?_))))))
  refine q_seq (q_seq (q_reg (s_get rfl (e_move rfl) (s_get rfl (e_pnil rfl rfl) (s_get rfl (e_move rfl) (s_on rfl rfl (s_get rfl (e_move rfl) (s_on rfl rfl (s_get rfl (nay (e_neq rfl rfl) (by first | omega | (dsimp only; omega))) (s_get rfl (e_pickF rfl rfl) (s_end (x_then ?_))))))))))))
  refine q_no rfl ?_
  refine q_skip (x_then ?_)
  refine q_seq (q_seq (q_reg (s_get rfl (e_assign rfl) (s_end (x_then ?_)))))
  refine q_block ?_
  refine q_loop (α := Nat) (fun i => [(0, .int .i64 (now : Nat)), (1, .slice a fl.length cap), (5, .pointer (some ⟨wb, 0, none⟩)), (7, .int .i64 (i : Nat))])
    (fun i w' => i ≤ fl.length ∧ ∃ B, IsW w' wb now (fillM now fl i) B ∧ Ext w w' ∧ ∀ x, B x → w.heap.size ≤ x) (fun i => fl.length - i) 0 ⟨rfl, rfl, rfl, rfl, trivial⟩ ⟨by omega, B, W, X1, hB⟩ ?_
  clear W X1 hB
  rintro i w2 ⟨hi, B, W, X, hB⟩
  refine q_seq (q_seq (q_reg (s_get rfl (e_move rfl) (s_get rfl (e_move rfl) (s_get rfl (e_len rfl) (s_get rfl (e_lss rfl rfl) (s_end (x_then ?_))))))))
  refine q_dec rfl (fun h => ?_) fun h => ?_
  · have hi : i < fl.length := by omega
    refine q_skip (x_then ?_)
    refine q_seq (q_block ?_)
    obtain ⟨k, off, rfl, -, hc, -⟩ := (hs.ext X).pos (by omega)
    have hk : k < w.heap.size := by
      obtain ⟨k', off', e, hk', -, -⟩ := hs.pos (by omega)
      cases e; exact hk'
    have c1 : w2.cell? ⟨k, off + i, none⟩ = some (.int .i64 (fl.getD i 0)) := hc i _ (by simp [nums, hi])
    have hII : I64 (fl.getD i 0) := by
      have := hI fl[i] (List.getElem_mem hi)
      simpa [List.getD_eq_getElem?_getD, hi] using this
    have hn := name_ret i w2 (by omega)
    have hwi := within_ret (fl.getD i 0) 0 549755813888 w2 hII (by omega) (by omega) (by omega)
    refine q_seq (d_begin (fun w' => w'.cell? ⟨k, off + i, none⟩ = some (.int .i64 (fl.getD i 0))) [8] (d_pure (i := 0) rfl rfl rfl (by kernel_rfl) (fun w' => (e_move rfl)) (d_pure (i := 1) rfl rfl rfl (by kernel_rfl) (fun w' => (e_move rfl)) (d_pure (i := 3) rfl rfl rfl (by kernel_rfl) (fun w' => (e_move rfl)) (d_pure (i := 4) rfl rfl rfl (by kernel_rfl) (fun w' => (e_add rfl rfl (by first | omega | (dsimp only; omega)))) (d_pure (i := 5) rfl rfl rfl (by kernel_rfl) (fun w' => (e_move rfl)) (d_pure (i := 6) rfl rfl rfl (by kernel_rfl) (fun w' => (e_move rfl)) (d_pure (i := 7) rfl rfl rfl (by kernel_rfl) (fun w' => (e_idxAt (off+i) rfl rfl (by first | omega | (dsimp only; omega)) (by first | omega | (dsimp only; omega)) (by first | omega | (dsimp only; omega)))) (d_head (i := 8) rfl rfl rfl (by kernel_rfl) (by kernel_rfl) c1 (fun w' hS => (e_ld rfl hS)) (d_call (i := 2) rfl rfl rfl (by kernel_rfl) (e_fn rfl) hn (fun _ _ h => .inr (h.2 ▸ c1)) ?_))))))))))
    rintro _ w2 ⟨rfl, rfl⟩
    refine d_call (i := 9) rfl rfl rfl (by kernel_rfl) (e_fn rfl) hwi (fun _ _ h => .inr (h.2 ▸ c1)) ?_
    rintro _ w2 ⟨rfl, rfl⟩
    have hw := within_in (x := fl.getD i 0) (lo := 0) (hi := 549755813888) (by omega)
    have hE := fill_step (fl := fl) hnow (show i < 400 by omega)
    have hadd := add_ret W (name i) ((fat now (fl.getD i 0) : Nat) : Int)
    rw [show ((fat now (fl.getD i 0) : Nat) : Int) = (now : Int) + 1 + within (fl.getD i 0) 0 549755813888 from by unfold fat; omega] at hadd hE
    refine d_pure (i := 10) rfl rfl rfl (by kernel_rfl) (fun w' => (e_add rfl rfl (by first | omega | (dsimp only; omega)))) (d_call (i := 11) rfl rfl rfl (by kernel_rfl) (e_fn rfl) hadd (fun _ _ ⟨_, _, _, K, _⟩ => .inr (K.cell c1 fun hb => by have := hB _ hb; dsimp only at this; omega)) ?_)
    rintro _ w3 ⟨rfl, B', W', K', G'⟩
    rw [hE]
    refine d_pure (i := 12) rfl rfl rfl (by kernel_rfl) (fun w' => (e_assign rfl)) (d_end (by kernel_rfl) (x_then ?_))
    refine q_seq (q_reg (s_get rfl (e_move rfl) (s_get rfl (e_neq rfl rfl) (s_end (x_then ?_)))))
    refine q_neg rfl (by simp) ?_
    refine q_skip (x_block_normal (x_then ?_))
    refine q_reg (s_get rfl (e_move rfl) (s_get rfl (e_add rfl rfl (by first | omega | (dsimp only; omega))) (s_get rfl (e_assign rfl) (s_end ?_))))
    refine x_again (i + 1) ⟨rfl, rfl, rfl, rfl, trivial⟩ ⟨by omega, B', ?_, Kept.trans X K' fun x hx hb => by have := hB x hb; omega, fun x hx => ?_⟩ (by omega)
    · have : addM now (fillM now fl i) (name i) ((now : Int) + 1 + within (fl.getD i 0) 0 549755813888) = fillM now fl (i + 1) := by
        unfold addM
        rw [hE, if_pos rfl]
        rw [fillM_succ]
        unfold fat
        congr 2
        omega
      rw [← this]; exact W'
    · rcases G' x hx with h | h
      · exact hB x h
      · exact Nat.le_trans X.size h
  · refine q_exit (x_then_exit (x_then_exit (x_block_exit (x_then ?_))))
    refine q_seq (q_reg (s_get rfl (e_move rfl) (s_get rfl (e_assign rfl) (s_end (x_then ?_)))))
    have e : i = fl.length := by omega
    subst e
    exact q_ret (x_ret1 (.inl rfl) rfl rfl ⟨wb, B, rfl, W, X, hB⟩)
end Go.Proofs.Ytogfllhbgkeinaa.Wheel

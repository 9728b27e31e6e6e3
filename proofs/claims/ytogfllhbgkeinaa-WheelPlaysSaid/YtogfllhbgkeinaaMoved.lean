/-
  WheelMoved: the statement's function returns true.
-/
import Derived.Test.YtogfllhbgkeinaaFill
set_option linter.unusedVariables false
set_option linter.unusedSimpArgs false
namespace Go.Proofs.Ytogfllhbgkeinaa.Wheel
open Go.RowKit Base Lev Wa Eng Wb Spc
open Go.ChangeMaps (setBlock)

/-! ### The lists -/
theorem filter_ins {e : Ent} {M : List Ent} (hs : Srt M) (hn : e ∉ M) (p : Ent → Bool) : (ins e M).filter p = if p e = true then ins e (M.filter p) else M.filter p := by
  have h1 : Srt ((ins e M).filter p) := List.Pairwise.filter _ (ins_srt hs hn)
  have h2 : Srt (M.filter p) := List.Pairwise.filter _ hs
  have hp : ((ins e M).filter p).Perm ((e :: M).filter p) := (ins_perm e M).filter p
  rw [List.filter_cons] at hp
  split
  · rename_i h
    rw [if_pos h] at hp
    exact srt_eq h1 (ins_srt h2 fun k => hn (List.mem_filter.1 k).1) (hp.trans (ins_perm _ _).symm)
  · rename_i h
    rw [if_neg h] at hp
    exact srt_eq h1 h2 hp
def lap (to : Nat) (M : List Ent) : List Ent := M.takeWhile fun e => decide (e.2 ≤ to)
def rest (to : Nat) (M : List Ent) : List Ent := M.dropWhile fun e => decide (e.2 ≤ to)
theorem lap_filter {M : List Ent} (hs : Srt M) (to : Nat) : lap to M = M.filter fun e => decide (e.2 ≤ to) := (lapsed_take hs to).symm
theorem rest_filter {M : List Ent} (hs : Srt M) (to : Nat) : rest to M = M.filter fun e => !decide (e.2 ≤ to) := (kept_drop hs to).symm
theorem rest_srt {M : List Ent} (hs : Srt M) (to : Nat) : Srt (rest to M) := List.Pairwise.sublist (List.dropWhile_sublist _) hs
theorem rest_mem {M : List Ent} {to : Nat} {e : Ent} (h : e ∈ rest to M) : e ∈ M := (List.dropWhile_sublist _).subset h
theorem lap_mem {M : List Ent} {to : Nat} {e : Ent} (h : e ∈ lap to M) : e ∈ M := (List.takeWhile_sublist _).subset h
variable {M : List Ent} {nm : ByteArray} {t : Nat}
/-- a name that lapses at t alone -/
theorem moved_before (hs : Srt M) (hn : (nm, t) ∉ M) (ht : 0 < t) : lap (t - 1) (ins (nm, t) M) = lap (t - 1) M ∧ rest (t - 1) (ins (nm, t) M) = ins (nm, t) (rest (t - 1) M) := by
  rw [lap_filter (ins_srt hs hn), lap_filter hs, rest_filter (ins_srt hs hn), rest_filter hs, filter_ins hs hn, filter_ins hs hn]
  have : ¬ t ≤ t - 1 := by omega
  simp [this]
theorem moved_at (hs : Srt M) (hn : (nm, t) ∉ M) : lap t (ins (nm, t) M) = ins (nm, t) (lap t M) ∧ rest t (ins (nm, t) M) = rest t M := by
  rw [lap_filter (ins_srt hs hn), lap_filter hs, rest_filter (ins_srt hs hn), rest_filter hs, filter_ins hs hn, filter_ins hs hn]
  simp
def notN (nm : ByteArray) (s : ByteArray) : Bool := !decide (s = nm)
theorem names_ins (hs : Srt M) (hn : ∀ e ∈ M, e.1 ≠ nm) : ((ins (nm, t) M).map (·.1)).filter (notN nm) = M.map (·.1) := by
  have h1 : ((ins (nm, t) M).map (·.1)).filter (notN nm) = ((ins (nm, t) M).filter fun e => notN nm e.1).map (·.1) := by
    rw [List.filter_map]; rfl
  rw [h1, filter_ins hs fun h => hn _ h rfl]
  have h2 : M.filter (fun e => notN nm e.1) = M := List.filter_eq_self.2 fun e he => by simp [notN, hn e he]
  rw [h2]
  simp [notN]

theorem ints_ivals (l : List Nat) : (ints l).toArray = ivals .i64 (l.map Int.ofNat) := by unfold ints ivals; rw [List.map_map]; rfl

/-! ### Two wheels -/
structure Two (w0 w : World) (a n : Nat) (M : List Ent) (A : Nat → Prop) (b m : Nat) (N : List Ent) (B : Nat → Prop) : Prop where
  l : IsW w a n M A
  r : IsW w b m N B
  d : ∀ x, A x → ¬ B x
  k : Ext w0 w
  nl : ∀ x, A x → w0.heap.size ≤ x
  nr : ∀ x, B x → w0.heap.size ≤ x
theorem Two.swap {w0 w : World} {a n b m : Nat} {M N : List Ent} {A B : Nat → Prop} (h : Two w0 w a n M A b m N B) : Two w0 w b m N B a n M A :=
  ⟨h.r, h.l, fun x hx hy => h.d x hy hx, h.k, h.nr, h.nl⟩
theorem Two.left {w0 w w' : World} {a n n' b m : Nat} {M M' N : List Ent} {A A' B : Nat → Prop} (h : Two w0 w a n M A b m N B) (W : IsW w' a n' M' A') (K : Kept A w w') (G : Grew w A A') : Two w0 w' a n' M' A' b m N B :=
  ⟨W, h.r.kept K fun x hx hy => h.d x hy hx, fun x hx hy => by
    rcases G x hx with g | g
    · exact h.d x g hy
    · have := h.r.lt hy; omega, Kept.trans h.k K fun x hx hy => by have := h.nl x hy; omega, fun x hx => by
    rcases G x hx with g | g
    · exact h.nl x g
    · exact Nat.le_trans h.k.size g, h.nr⟩
theorem Two.right {w0 w w' : World} {a n b m m' : Nat} {M N N' : List Ent} {A B B' : Nat → Prop} (h : Two w0 w a n M A b m N B) (W : IsW w' b m' N' B') (K : Kept B w w') (G : Grew w B B') : Two w0 w' a n M A b m' N' B' :=
  (h.swap.left W K G).swap
theorem Two.ext {w0 w w' : World} {a n b m : Nat} {M N : List Ent} {A B : Nat → Prop} (h : Two w0 w a n M A b m N B) (X : Ext w w') : Two w0 w' a n M A b m N B :=
  ⟨h.l.kept X fun _ _ h => h, h.r.kept X fun _ _ h => h, h.d, h.k.trans X, h.nl, h.nr⟩
theorem Grew.of {w : World} {A A' : Nat → Prop} (h : ∀ x, A' x → A x) : Grew w A A' := fun x hx => .inl (h x hx)

set_option maxHeartbeats 1000000 in
theorem moved_ret {a : Option Addr} {len cap : Nat} {fl : List Int} {b : Option Nat} {w : World} (x0 k0 t0 : Int) (hx : I64 x0) (hk : I64 k0) (ht : I64 t0) (hs : Rd w 1 a len cap (nums fl) b) (hI : ∀ f ∈ fl, I64 f) :
    Ret Try.prog 3 #[.int .i64 x0, .slice a len cap, .int .i64 k0, .int .i64 t0] w fun v w' => v = .bool true ∧ Ext w w' := by
  refine ret_of (vs := [_, _, _, _]) Try.func3 rfl Try.ntmps3 rfl fun _ => ?_
  have hw1 := within_in (x := x0) (lo := 0) (hi := 549755813887) (by omega)
  obtain ⟨now, hnow⟩ : ∃ now : Nat, within x0 0 549755813887 = now := ⟨(within x0 0 549755813887).toNat, by omega⟩
  refine q_seq (q_reg (s_get rfl (e_assign rfl) (s_end (x_then ?_))))
  refine q_seq (q_reg (s_get rfl (e_move rfl) (s_call rfl (e_fn rfl) (within_ret x0 0 549755813887 w hx (by omega) (by omega) (by omega)) ?_)))
  rintro _ w ⟨rfl, rfl⟩
  rw [hnow]
  refine s_get rfl (e_assign rfl) (s_end (x_then ?_))
  refine q_seq (q_reg (s_get rfl (e_move rfl) (s_call rfl (e_fn rfl) (few_ret hs) ?_)))
  rintro _ w ⟨rfl, a', rfl, hs'⟩
  refine s_get rfl (e_assign rfl) (s_end (x_then ?_))
  have hfl : len = fl.length := by have := hs.length; simpa [nums] using this.symm
  have htk : (nums fl).take 400 = nums (fl.take 400) := by unfold nums; rw [List.map_take]
  rw [htk, show min len 400 = (fl.take 400).length from by rw [List.length_take, hfl]; omega] at hs'
  rw [show min len 400 = (fl.take 400).length from by rw [List.length_take, hfl]; omega]
  have hI' : ∀ f ∈ fl.take 400, I64 f := fun f hf => hI f (List.mem_of_mem_take hf)
  have hl' : (fl.take 400).length ≤ 400 := by rw [List.length_take]; omega
  generalize fl.take 400 = gl at *
  have c1 := filled_ret hs' hI' hl' (now := now) (by omega)
  refine q_seq (q_reg (s_get rfl (e_move rfl) (s_get rfl (e_move rfl) (s_call rfl (e_fn rfl) c1 ?_))))
  rintro _ w1 ⟨p, A, rfl, WA, X1, nA⟩
  refine s_get rfl (e_assign rfl) (s_end (x_then ?_))
  have c2 := filled_ret (hs'.ext X1) hI' hl' (now := now) (by omega)
  refine q_seq (q_reg (s_get rfl (e_move rfl) (s_get rfl (e_move rfl) (s_call rfl (e_fn rfl) c2 ?_))))
  rintro _ w2 ⟨q, B, rfl, WB, X2, nB⟩
  have T : Two w w2 p now (fillM now gl gl.length) A q now (fillM now gl gl.length) B :=
    ⟨WA.kept X2 fun _ _ h => h, WB, fun x hx hy => by have := WA.lt hx; have := nB x hy; omega, X1.trans X2, nA, fun x hx => Nat.le_trans X1.size (nB x hx)⟩
  clear WA WB c1 c2
  refine s_get rfl (e_assign rfl) (s_end (x_then ?_))
  refine q_seq (q_seq (q_reg (s_get rfl (e_move rfl) (s_get rfl (e_pnil rfl rfl) (s_get rfl (e_move rfl) (s_on rfl rfl (s_get rfl (e_move rfl) (s_on rfl rfl (s_get rfl (e_pnil rfl rfl) (s_get rfl (e_pickF rfl rfl) (s_end (x_then ?_))))))))))))
  refine q_no rfl (q_skip (x_then ?_))
  refine q_seq (q_seq (q_reg (s_get rfl (e_move rfl) (s_get rfl (e_len rfl) (s_get rfl (e_eql rfl rfl) (s_end (x_then ?_)))))))
  refine q_dec rfl (fun h0 => ?_) fun h0 => ?_
  · have h0 : gl.length = 0 := by omega
    rw [h0] at T
    have e1 : isName ⟨#[97]⟩ = true := by decide
    have hE : chgE now (fillM now gl 0) ⟨#[97]⟩ ((now : Int) + 1) = 7 := by simp [chgE, fillM, atOf, e1]
    have hM : chgM now (fillM now gl 0) ⟨#[97]⟩ ((now : Int) + 1) = [] := by unfold chgM; rw [hE]; rfl
    have c3 := change_ret T.l ⟨#[97]⟩ ((now : Int) + 1)
    rw [hM, hE] at c3
    refine q_seq (q_reg (s_get rfl (e_move rfl) (s_get rfl (e_move rfl) (s_get rfl (e_add rfl rfl (by first | omega | (dsimp only; omega))) (s_call rfl (e_fn rfl) c3 ?_)))))
    rintro _ w3 ⟨rfl, A', WA, KA, GA⟩
    have T2 := T.left WA KA GA
    have hR : remE [] ⟨#[97]⟩ = 7 := by simp [remE, atOf, e1]
    have c4 := remove_ret T2.l ⟨#[97]⟩
    rw [hR] at c4
    refine s_get rfl (e_assign rfl) (s_end (x_then ?_))
    refine q_seq (q_reg (s_get rfl (e_move rfl) (s_call rfl (e_fn rfl) c4 ?_)))
    rintro _ w4 ⟨rfl, A', WA, KA, GA⟩
    have T3 := T2.left WA KA GA
    refine s_get rfl (e_assign rfl) (s_end (x_then ?_))
    refine q_seq (q_reg (s_get rfl (e_move rfl) (s_get rfl (yes (e_eql rfl rfl) (by first | omega | (dsimp only; omega))) (s_get rfl (e_move rfl) (s_on rfl rfl (s_get rfl (e_move rfl) (s_on rfl rfl (s_get rfl (yes (e_eql rfl rfl) (by first | omega | (dsimp only; omega))) (s_get rfl (e_pickT rfl rfl) (s_get rfl (e_assign rfl) (s_end (x_then ?_))))))))))))
    exact q_ret (x_then_ret (x_ret1 (.inl rfl) rfl rfl ⟨rfl, T3.k⟩))
  · have h0 : 0 < gl.length := by omega
    refine q_skip (x_then ?_)
    have hw2 := within_in (x := k0) (lo := 0) (hi := (gl.length : Int) - 1) (by omega)
    obtain ⟨k, hkE⟩ : ∃ k : Nat, within k0 0 ((gl.length : Int) - 1) = k := ⟨(within k0 0 ((gl.length : Int) - 1)).toNat, by omega⟩
    refine q_seq (q_reg (s_get rfl (e_move rfl) (s_get rfl (e_move rfl) (s_get rfl (e_len rfl) (s_get rfl (e_sub rfl rfl (by first | omega | (dsimp only; omega))) (s_call rfl (e_fn rfl) (within_ret k0 0 ((gl.length : Int) - 1) w2 hk (by omega) (by omega) (by omega)) ?_))))))
    rintro _ w2 ⟨rfl, rfl⟩
    rw [hkE]
    refine s_get rfl (e_assign rfl) (s_end (x_then ?_))
    have hkn : k < gl.length := by omega
    have hw3 := within_in (x := t0) (lo := 0) (hi := 549755813888) (by omega)
    obtain ⟨t, htE⟩ : ∃ t : Nat, (now : Int) + 1 + within t0 0 549755813888 = t := ⟨((now : Int) + 1 + within t0 0 549755813888).toNat, by omega⟩
    refine q_seq (q_reg (s_get rfl (e_move rfl) (s_get rfl (e_add rfl rfl (by first | omega | (dsimp only; omega))) (s_get rfl (e_move rfl) (s_call rfl (e_fn rfl) (within_ret t0 0 549755813888 w2 ht (by omega) (by omega) (by omega)) ?_)))))
    rintro _ w2 ⟨rfl, rfl⟩
    refine s_get rfl (e_add rfl rfl (by first | omega | (dsimp only; omega))) (s_get rfl (e_assign rfl) (s_end (x_then ?_)))
    rw [htE]
    have htn : now < t ∧ t ≤ 1099511627776 := by omega
    -- what the lists are
    have hM0 := fillM_at (now := now) (fl := gl) (i := gl.length) (j := k) (by omega) hkn
    have hn0 := fillM_names (now := now) (fl := gl) (i := gl.length) (by omega)
    have hl0 := fillM_len now gl gl.length
    have hs0 := T.r.srt
    generalize fillM now gl gl.length = M0 at *
    have hnm := name_isName k
    generalize hnmE : name k = nm at *
    have hcl := cut_len hn0 hM0
    have hcn := atOf_cut_self nm M0
    have hcs : Srt (cut nm M0) := cut_srt hs0
    have hah : aheadE now t = 0 := by
      have h3 : isTime (t : Int) = true := by simp [isTime]; omega
      unfold aheadE
      rw [h3, if_pos rfl, if_neg (by omega)]
    have hE : chgE now M0 nm t = 0 := by simp [chgE, hnm, hM0, hah]
    have hM1 : chgM now M0 nm t = ins (nm, t) (cut nm M0) := by unfold chgM; rw [hE]; rfl
    generalize hNE : cut nm M0 = N at *
    have hnN : (nm, t) ∉ N := not_mem_of_none hcn t
    have hNn := atOf_none.1 hcn
    have c3 := change_ret T.l nm t
    rw [hM1, hE] at c3
    have cn : ∀ w, Ret Try.prog 12 #[.int .i64 k] w fun v w' => v = .string nm ∧ w' = w := fun w => hnmE ▸ name_ret k w (by omega)
    refine q_seq (q_reg (s_get rfl (e_move rfl) (s_get rfl (e_move rfl) (s_call rfl (e_fn rfl) (cn _) ?_))))
    rintro _ w2 ⟨rfl, rfl⟩
    refine s_get rfl (e_move rfl) (s_call rfl (e_fn rfl) c3 ?_)
    rintro _ w3 ⟨rfl, A', WA, KA, GA⟩
    have T2 := T.left WA KA GA
    clear T WA KA GA c3
    refine s_get rfl (e_assign rfl) (s_end (x_then ?_))
    have hA1 : atR (ins (nm, t) N) nm = (t, 0) := by
      have := atOf_mem (M := ins (nm, t) N) (id := nm) (t := t) T2.l.names ((ins_perm _ _).mem_iff.2 List.mem_cons_self)
      simp [atR, hnm, this]
    have c4 := at_ret T2.l nm
    rw [hA1] at c4
    refine q_seq (q_reg (s_get rfl (e_move rfl) (s_get rfl (e_move rfl) (s_call rfl (e_fn rfl) (cn _) ?_))))
    rintro _ w3 ⟨rfl, rfl⟩
    refine s_call rfl (e_fn rfl) c4 ?_
    rintro _ w3 ⟨rfl, rfl⟩
    refine s_get rfl (e_move rfl) (s_get rfl (e_ext rfl rfl) (s_get rfl (e_ext rfl rfl) (s_get rfl (e_assign rfl) (s_get rfl (e_assign rfl) (s_end (x_then ?_))))))
    have hR : remE M0 nm = 0 := by simp [remE, hnm, hM0]
    have hRM : remM M0 nm = N := by unfold remM; rw [hR, if_pos rfl]; exact hNE
    have c5 := remove_ret T2.r nm
    rw [hR, hRM] at c5
    refine q_seq (q_reg (s_get rfl (e_move rfl) (s_get rfl (e_move rfl) (s_call rfl (e_fn rfl) (cn _) ?_))))
    rintro _ w3 ⟨rfl, rfl⟩
    refine s_call rfl (e_fn rfl) c5 ?_
    rintro _ w4 ⟨rfl, B', WB, KB, GB⟩
    have T3 := T2.right WB KB GB
    clear T2 WB KB GB c5 c4
    refine s_get rfl (e_assign rfl) (s_end (x_then ?_))
    have hA2 : atR N nm = (0, 7) := by simp [atR, hnm, hcn]
    have c6 := at_ret T3.r nm
    rw [hA2] at c6
    refine q_seq (q_reg (s_get rfl (e_move rfl) (s_get rfl (e_move rfl) (s_call rfl (e_fn rfl) (cn _) ?_))))
    rintro _ w4 ⟨rfl, rfl⟩
    refine s_call rfl (e_fn rfl) c6 ?_
    rintro _ w4 ⟨rfl, rfl⟩
    refine s_get rfl (e_move rfl) (s_get rfl (e_ext rfl rfl) (s_get rfl (e_ext rfl rfl) (s_get rfl (e_assign rfl) (s_get rfl (e_assign rfl) (s_end (x_then ?_))))))
    have hlA : (ins (nm, t) N).length = gl.length := by rw [ins_len]; omega
    have hlB : N.length = gl.length - 1 := by omega
    have c7 := len_ret T3.l
    have c8 := len_ret T3.r
    rw [hlA] at c7
    rw [hlB] at c8
    refine q_seq (q_seq (q_reg (s_get rfl (e_move rfl) (s_get rfl (nay (e_neq rfl rfl) (by first | omega | (dsimp only; omega))) (s_get rfl (e_move rfl) (s_on rfl rfl (s_get rfl (e_move rfl) (s_on rfl rfl (s_get rfl (nay (e_neq rfl rfl) (by first | omega | (dsimp only; omega))) (s_get rfl (e_pickF rfl rfl) (s_get rfl (e_move rfl) (s_on rfl rfl (s_get rfl (e_move rfl) (s_on rfl rfl (s_get rfl (nay (e_neq rfl rfl) (by first | omega | (dsimp only; omega))) (s_get rfl (e_pickF rfl rfl) (s_get rfl (e_move rfl) (s_on rfl rfl (s_get rfl (e_move rfl) (s_on rfl rfl (s_get rfl (nay (e_neq rfl rfl) (by first | omega | (dsimp only; omega))) (s_get rfl (e_pickF rfl rfl) (s_get rfl (e_move rfl) (s_on rfl rfl (s_get rfl (e_move rfl) (s_on rfl rfl (s_get rfl (e_move rfl) (s_on rfl rfl (s_get rfl (nay (e_neq rfl rfl) (by first | omega | (dsimp only; omega))) (s_get rfl (e_pickF rfl rfl) (s_get rfl (e_move rfl) (s_on rfl rfl (s_get rfl (e_move rfl) (s_on rfl rfl (s_call rfl (e_fn rfl) c7 ?_)))))))))))))))))))))))))))))))))))
    rintro _ w4 ⟨rfl, rfl⟩
    refine s_on rfl rfl (s_get rfl (e_move rfl) (s_on rfl rfl (s_get rfl (e_len rfl) (s_on rfl rfl (s_get rfl (nay (e_neq rfl rfl) (by first | omega | (dsimp only; omega))) (s_get rfl (e_pickF rfl rfl) (s_get rfl (e_move rfl) (s_on rfl rfl (s_get rfl (e_move rfl) (s_on rfl rfl (s_call rfl (e_fn rfl) c8 ?_)))))))))))
    rintro _ w4 ⟨rfl, rfl⟩
    refine s_on rfl rfl (s_get rfl (e_move rfl) (s_on rfl rfl (s_get rfl (e_len rfl) (s_on rfl rfl (s_get rfl (e_sub rfl rfl (by first | omega | (dsimp only; omega))) (s_on rfl rfl (s_get rfl (nay (e_neq rfl rfl) (by first | omega | (dsimp only; omega))) (s_get rfl (e_pickF rfl rfl) (s_end (x_then ?_))))))))))
    refine q_no rfl (q_skip (x_then ?_))
    -- up to t - 1
    have hT1 : advE now ((t - 1 : Nat) : Int) = 0 := by
      have h3 : isTime ((t - 1 : Nat) : Int) = true := by simp [isTime]; omega
      unfold advE
      rw [h3, if_pos rfl, if_neg (by omega)]
    have ht1 : ((t - 1 : Nat) : Int) = (t : Int) - 1 := by omega
    obtain ⟨g1, g2⟩ := moved_before hcs hnN (show 0 < t by omega)
    unfold lap at g1
    unfold rest at g2
    have c9 := advance_ok T3.l (t - 1) hT1
    rw [ht1, g1, g2] at c9
    refine q_seq (q_reg (s_get rfl (e_move rfl) (s_get rfl (e_move rfl) (s_get rfl (e_sub rfl rfl (by first | omega | (dsimp only; omega))) (s_call rfl (e_fn rfl) c9 ?_)))))
    rintro _ w5 ⟨a1, n1, cap1, b1, A2, rfl, hn1, s1, hb1, WA, KA, GA⟩
    have T4 := T3.left WA KA (Grew.of GA)
    have hd1 : ∀ x ∈ b1, ¬ B' x := fun x hx hy => by have := hb1 x hx; have := T3.r.lt hy; omega
    refine s_get rfl (e_move rfl) (s_get rfl (e_ext rfl rfl) (s_get rfl (e_ext rfl rfl) (s_get rfl (e_assign rfl) (s_get rfl (e_assign rfl) (s_end (x_then ?_))))))
    have c10 := advance_ok T4.r (t - 1) hT1
    rw [ht1] at c10
    refine q_seq (q_reg (s_get rfl (e_move rfl) (s_get rfl (e_move rfl) (s_get rfl (e_sub rfl rfl (by first | omega | (dsimp only; omega))) (s_call rfl (e_fn rfl) c10 ?_)))))
    rintro _ w6 ⟨a2, n2, cap2, b2, B2, rfl, hn2, s2, hb2, WB, KB, GB⟩
    have T5 := T4.right WB KB (Grew.of GB)
    have s1' := s1.kept KB hd1
    clear T3 T4 c9 c10 WA WB KA KB
    refine s_get rfl (e_move rfl) (s_get rfl (e_ext rfl rfl) (s_get rfl (e_ext rfl rfl) (s_get rfl (e_assign rfl) (s_get rfl (e_assign rfl) (s_end (x_then ?_))))))
    have hNl := T5.r.len
    have hlt : ∀ (p : Ent → Bool) (L : List Ent), (L.takeWhile p).length ≤ L.length := fun p L => (List.takeWhile_sublist p).length_le
    have hn1' := hlt (fun e => decide (e.2 ≤ t - 1)) N
    have c11 := texts_ret s1' s2 (by omega)
    rw [decide_eq_true rfl] at c11
    refine q_seq (q_seq (q_reg (s_get rfl (e_move rfl) (s_get rfl (nay (e_neq rfl rfl) (by first | omega | (dsimp only; omega))) (s_get rfl (e_move rfl) (s_on rfl rfl (s_get rfl (e_move rfl) (s_on rfl rfl (s_get rfl (nay (e_neq rfl rfl) (by first | omega | (dsimp only; omega))) (s_get rfl (e_pickF rfl rfl) (s_get rfl (e_move rfl) (s_on rfl rfl (s_get rfl (e_move rfl) (s_on rfl rfl (s_get rfl (e_move rfl) (s_on rfl rfl (s_call rfl (e_fn rfl) c11 ?_)))))))))))))))))
    rintro _ w6 ⟨rfl, rfl⟩
    refine s_on rfl rfl (s_get rfl (e_not rfl) (s_get rfl (e_pickF rfl rfl) (s_end (x_then ?_))))
    refine q_no rfl (q_skip (x_then ?_))
    clear s1 s1' s2 hb1 hb2 hd1 c11
    -- up to t
    have hNs : Srt (N.dropWhile fun e => decide (e.2 ≤ t - 1)) := rest_srt hcs (t - 1)
    have hNm : ∀ e ∈ N.dropWhile fun e => decide (e.2 ≤ t - 1), e.1 ≠ nm := fun e he => hNn e (rest_mem (to := t - 1) he)
    generalize (N.dropWhile fun e => decide (e.2 ≤ t - 1)) = N2 at *
    have hN2l := T5.r.len
    have hnN2 : (nm, t) ∉ N2 := fun h => hNm _ h rfl
    have hT2 : advE (t - 1) ((t : Nat) : Int) = 0 := by
      have h3 : isTime ((t : Nat) : Int) = true := by simp [isTime]; omega
      unfold advE
      rw [h3, if_pos rfl, if_neg (by omega)]
    obtain ⟨g1, g2⟩ := moved_at hNs hnN2
    have hLs : Srt (lap t N2) := List.Pairwise.sublist (List.takeWhile_sublist _) hNs
    have hLm : ∀ e ∈ lap t N2, e.1 ≠ nm := fun e he => hNm e (lap_mem he)
    have hLf := names_ins (nm := nm) (t := t) hLs hLm
    have hLl : ((ins (nm, t) (lap t N2)).map (·.1)).length = ((lap t N2).map (·.1)).length + 1 := by rw [List.length_map, List.length_map, ins_len]
    have c12 := advance_ok T5.l t hT2
    have e1 : (ins (nm, t) N2).takeWhile (fun e => decide (e.2 ≤ t)) = ins (nm, t) (lap t N2) := g1
    have e2 : (ins (nm, t) N2).dropWhile (fun e => decide (e.2 ≤ t)) = rest t N2 := g2
    rw [e1, e2] at c12
    refine q_seq (q_reg (s_get rfl (e_move rfl) (s_get rfl (e_move rfl) (s_call rfl (e_fn rfl) c12 ?_))))
    rintro _ w7 ⟨a3, n3, cap3, b3, A3, rfl, hn3, s3, hb3, WA, KA, GA⟩
    have T6 := T5.left WA KA (Grew.of GA)
    have hd3 : ∀ x ∈ b3, ¬ B2 x := fun x hx hy => by have := hb3 x hx; have := T5.r.lt hy; omega
    refine s_get rfl (e_move rfl) (s_get rfl (e_ext rfl rfl) (s_get rfl (e_ext rfl rfl) (s_get rfl (e_assign rfl) (s_get rfl (e_assign rfl) (s_end (x_then ?_))))))
    have c13 := advance_ok T6.r t hT2
    have e3 : N2.takeWhile (fun e => decide (e.2 ≤ t)) = lap t N2 := rfl
    have e4 : N2.dropWhile (fun e => decide (e.2 ≤ t)) = rest t N2 := rfl
    rw [e3, e4] at c13
    refine q_seq (q_reg (s_get rfl (e_move rfl) (s_get rfl (e_move rfl) (s_call rfl (e_fn rfl) c13 ?_))))
    rintro _ w8 ⟨a4, n4, cap4, b4, B3, rfl, hn4, s4, hb4, WB, KB, GB⟩
    have T7 := T6.right WB KB (Grew.of GB)
    have s3' := s3.kept KB hd3
    clear T5 T6 c12 c13 WA WB KA KB s3 hd3
    refine s_get rfl (e_move rfl) (s_get rfl (e_ext rfl rfl) (s_get rfl (e_ext rfl rfl) (s_get rfl (e_assign rfl) (s_get rfl (e_assign rfl) (s_end (x_then ?_))))))
    have hn34 : n3 = n4 + 1 := by rw [hn3, hn4, ins_len]
    have hn4' : n4 ≤ 4096 := by rw [hn4]; exact Nat.le_trans (hlt _ _) hN2l
    refine q_seq (q_seq (q_reg (s_get rfl (e_move rfl) (s_get rfl (nay (e_neq rfl rfl) (by first | omega | (dsimp only; omega))) (s_get rfl (e_move rfl) (s_on rfl rfl (s_get rfl (e_move rfl) (s_on rfl rfl (s_get rfl (nay (e_neq rfl rfl) (by first | omega | (dsimp only; omega))) (s_get rfl (e_pickF rfl rfl) (s_get rfl (e_move rfl) (s_on rfl rfl (s_get rfl (e_move rfl) (s_on rfl rfl (s_get rfl (e_len rfl) (s_on rfl rfl (s_get rfl (e_move rfl) (s_on rfl rfl (s_get rfl (e_len rfl) (s_on rfl rfl (s_get rfl (e_add rfl rfl (by first | omega | (dsimp only; omega))) (s_on rfl rfl (s_get rfl (nay (e_neq rfl rfl) (by first | omega | (dsimp only; omega))) (s_get rfl (e_pickF rfl rfl) (s_end (x_then ?_))))))))))))))))))))))))))
    refine q_no rfl (q_skip (x_then ?_))
    generalize hA : (ins (nm, t) (lap t N2)).map (·.1) = LA at *
    generalize hB : (lap t N2).map (·.1) = LB at *
    have hla : LA.length = n3 := by have := s3'.length; simpa [strs] using this
    have hlb : LB.length = n4 := by have := s4.length; simpa [strs] using this
    refine q_seq (q_reg (s_get rfl (e_assign rfl) (s_end (x_then ?_))))
    refine q_seq (q_seq (q_reg (s_get rfl (e_assign rfl) (s_end (x_then ?_)))))
    refine q_block ?_
    refine q_loop (α := List ByteArray × List ByteArray) (fun x => [(2, .int .i64 (k : Nat)), (9, .pointer (some ⟨p, 0, none⟩)), (10, .pointer (some ⟨q, 0, none⟩)), (20, .slice a3 n3 cap3), (21, .slice a4 n4 cap4), (22, .int .i64 ((x.1.filter (notN nm)).length : Nat)), (23, .int .i64 (x.1.length : Nat))])
      (fun x w' => w' = w8 ∧ LA = x.1 ++ x.2) (fun x => x.2.length) ([], LA) ⟨rfl, rfl, rfl, rfl, rfl, rfl, rfl, trivial⟩ ⟨rfl, rfl⟩ ?_
    rintro ⟨A1, A2⟩ w9 ⟨rfl, hAA⟩
    dsimp only at hAA
    have hla2 : A1.length + A2.length = n3 := by rw [← hla, hAA, List.length_append]
    have hlb2 : A1.filter (notN nm) ++ A2.filter (notN nm) = LB := by rw [← List.filter_append, ← hAA]; exact hLf
    have hlb3 : (A1.filter (notN nm)).length + (A2.filter (notN nm)).length = n4 := by rw [← hlb, ← hlb2, List.length_append]
    have hlf : (A1.filter (notN nm)).length ≤ A1.length := List.length_filter_le _ _
    refine q_seq (q_seq (q_reg (s_get rfl (e_move rfl) (s_get rfl (e_move rfl) (s_get rfl (e_len rfl) (s_get rfl (e_lss rfl rfl) (s_end (x_then ?_))))))))
    cases A2 with
    | nil =>
      refine q_neg rfl (by dsimp only; simp at hla2; omega) ?_
      refine q_exit (x_then_exit (x_then_exit (x_block_exit (x_then ?_))))
      simp at hlb3
      have c14 := spread_ret T7.l
      refine q_seq (q_reg (s_get rfl (e_move rfl) (s_get rfl (e_move rfl) (s_get rfl (e_len rfl) (s_get rfl (yes (e_eql rfl rfl) (by dsimp only; omega)) (s_get rfl (e_move rfl) (s_on rfl rfl (s_get rfl (e_move rfl) (s_on rfl rfl (s_call rfl (e_fn rfl) c14 ?_))))))))))
      rintro _ w10 ⟨rfl, X10⟩
      have T8 := T7.ext X10
      have c15 := spread_ret T8.r
      refine s_on rfl rfl (s_get rfl (e_move rfl) (s_on rfl rfl (s_call rfl (e_fn rfl) c15 ?_)))
      rintro _ w11 ⟨rfl, X11⟩
      have T9 := T8.ext X11
      rw [ints_ivals]
      refine s_on rfl rfl (s_get rfl (e_aeq rfl rfl rfl rfl) (s_get rfl (e_pickT rfl rfl) (s_get rfl (e_assign rfl) (s_end (x_then ?_)))))
      refine q_ret (x_ret1 (.inl rfl) rfl rfl ⟨?_, T9.k⟩)
      simp
    | cons x A3 =>
      rw [List.length_cons] at hla2
      refine q_pos rfl (by dsimp only; omega) ?_
      refine q_skip (x_then ?_)
      refine q_seq (q_block ?_)
      obtain ⟨ka, oa, rfl, -, hca, -⟩ := s3'.pos (by omega)
      have ca : w9.cell? ⟨ka, oa + A1.length, none⟩ = some (.string x) := hca _ _ (by rw [hAA]; simp [strs])
      refine q_seq (q_seq (d_begin (Ext _) [3] (d_pure (i := 0) rfl rfl rfl (by kernel_rfl) (fun w' => (e_move rfl)) (d_pure (i := 1) rfl rfl rfl (by kernel_rfl) (fun w' => (e_move rfl)) (d_pure (i := 2) rfl rfl rfl (by kernel_rfl) (fun w' => (e_idxAt (oa+A1.length) rfl rfl (by first | omega | (dsimp only; omega)) (by first | omega | (dsimp only; omega)) (by first | omega | (dsimp only; omega)))) (d_head (i := 3) rfl rfl rfl (by kernel_rfl) (by kernel_rfl) (Ext.refl _) (fun w' hS => (e_ld rfl (hS.cell ca))) (d_pure (i := 4) rfl rfl rfl (by kernel_rfl) (fun w' => (e_move rfl)) (d_call (i := 5) rfl rfl rfl (by kernel_rfl) (e_fn rfl) (cn _) (fun _ _ h => .inr (h.2 ▸ Ext.refl _)) ?_))))))))
      rintro _ w9 ⟨rfl, rfl⟩
      refine d_pure (i := 6) rfl rfl rfl (by kernel_rfl) (fun w' => (e_seq rfl rfl)) (d_end (by kernel_rfl) (x_then ?_))
      refine q_dec rfl (fun he => ?_) fun he => ?_
      · have hf : (A1 ++ [x]).filter (notN nm) = A1.filter (notN nm) := by rw [List.filter_append]; simp [notN, he]
        refine q_exit (x_then_exit (x_block_exit (x_then ?_)))
        refine q_reg (s_get rfl (e_move rfl) (s_get rfl (e_add rfl rfl (by first | omega | (dsimp only; omega))) (s_get rfl (e_assign rfl) (s_end ?_))))
        refine x_again (A1 ++ [x], A3) ⟨rfl, rfl, rfl, rfl, rfl, ?_, ?_, trivial⟩ ⟨rfl, by rw [hAA]; simp⟩ (by simp)
        · show some _ = some (Value.int .i64 (((A1 ++ [x]).filter (notN nm)).length : Nat))
          rw [hf]
        · simp [Eng.look]
      · have hf : (A1 ++ [x]).filter (notN nm) = A1.filter (notN nm) ++ [x] := by rw [List.filter_append]; simp [notN, he]
        have hf2 : (x :: A3).filter (notN nm) = x :: A3.filter (notN nm) := by simp [notN, he]
        rw [hf2, List.length_cons] at hlb3
        rw [hf2] at hlb2
        obtain ⟨kb, ob, rfl, -, hcb, -⟩ := s4.pos (by omega)
        have cb : w9.cell? ⟨kb, ob + (A1.filter (notN nm)).length, none⟩ = some (.string x) := hcb _ _ (by rw [← hlb2]; simp [strs])
        refine q_skip (x_then ?_)
        refine q_seq (q_seq (d_begin (Ext _) [8, 12] (d_pure (i := 0) rfl rfl rfl (by kernel_rfl) (fun w' => (e_move rfl)) (d_pure (i := 1) rfl rfl rfl (by kernel_rfl) (fun w' => (e_move rfl)) (d_pure (i := 2) rfl rfl rfl (by kernel_rfl) (fun w' => (e_len rfl)) (d_pure (i := 3) rfl rfl rfl (by kernel_rfl) (fun w' => (nay (e_geq rfl rfl) (by first | omega | (dsimp only; omega)))) (d_pure (i := 4) rfl rfl rfl (by kernel_rfl) (fun w' => (e_move rfl)) (d_pureG (i := 5) rfl rfl rfl (by kernel_rfl) rfl rfl (fun w' => (e_move rfl)) (d_pureG (i := 6) rfl rfl rfl (by kernel_rfl) rfl rfl (fun w' => (e_move rfl)) (d_pureG (i := 7) rfl rfl rfl (by kernel_rfl) rfl rfl (fun w' => (e_idxAt (oa+A1.length) rfl rfl (by first | omega | (dsimp only; omega)) (by first | omega | (dsimp only; omega)) (by first | omega | (dsimp only; omega)))) (d_headG (i := 8) rfl rfl rfl (by kernel_rfl) rfl rfl (by kernel_rfl) (Ext.refl _) (fun w' hS => (e_ld rfl (hS.cell ca))) (d_pureG (i := 9) rfl rfl rfl (by kernel_rfl) rfl rfl (fun w' => (e_move rfl)) (d_pureG (i := 10) rfl rfl rfl (by kernel_rfl) rfl rfl (fun w' => (e_move rfl)) (d_pureG (i := 11) rfl rfl rfl (by kernel_rfl) rfl rfl (fun w' => (e_idxAt (ob+(A1.filter (notN nm)).length) rfl rfl (by first | omega | (dsimp only; omega)) (by first | omega | (dsimp only; omega)) (by first | omega | (dsimp only; omega)))) (d_headG (i := 12) rfl rfl rfl (by kernel_rfl) rfl rfl (by kernel_rfl) (Ext.refl _) (fun w' hS => (e_ld rfl (hS.cell cb))) (d_pureG (i := 13) rfl rfl rfl (by kernel_rfl) rfl rfl (fun w' => (nay (e_sne rfl rfl) (by simp))) (d_pure (i := 14) rfl rfl rfl (by kernel_rfl) (fun w' => (e_pickF rfl rfl)) (d_end (by kernel_rfl) (x_then ?_)))))))))))))))))))
        refine q_no rfl (q_skip (x_then ?_))
        refine q_reg (s_get rfl (e_move rfl) (s_get rfl (e_add rfl rfl (by first | omega | (dsimp only; omega))) (s_get rfl (e_assign rfl) (s_end (x_block_normal (x_then ?_))))))
        refine q_reg (s_get rfl (e_move rfl) (s_get rfl (e_add rfl rfl (by first | omega | (dsimp only; omega))) (s_get rfl (e_assign rfl) (s_end ?_))))
        refine x_again (A1 ++ [x], A3) ⟨rfl, rfl, rfl, rfl, rfl, ?_, ?_, trivial⟩ ⟨rfl, by rw [hAA]; simp⟩ (by simp)
        · show some _ = some (Value.int .i64 (((A1 ++ [x]).filter (notN nm)).length : Nat))
          rw [hf, List.length_append]; rfl
        · simp [Eng.look]
end Go.Proofs.Ytogfllhbgkeinaa.Wheel

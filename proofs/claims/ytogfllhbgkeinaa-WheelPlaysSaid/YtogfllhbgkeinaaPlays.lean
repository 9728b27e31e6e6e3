/-
  WheelPlays: timers; does: one call on both wheels.
-/
import Derived.Test.YtogfllhbgkeinaaRef5
set_option linter.unusedVariables false
set_option linter.unusedSimpArgs false
namespace Go.Proofs.Ytogfllhbgkeinaa.Wheel
open Go.RowKit Base Lev Wa Eng Wb Spc
open Go.ChangeMaps (setBlock)
variable {w : World} {rb wb now : Nat} {M : List Ent} {A B : Nat → Prop}

theorem ecells_eq (e f : Ent) : eqL (ecells e) (ecells f) = decide (e = f) := by
  obtain ⟨a, b⟩ := e
  obtain ⟨c, d⟩ := f
  have h : decide ((b : Int) = d) = decide (b = d) := decide_eq_decide.2 ⟨fun h => by omega, fun h => by omega⟩
  simp [ecells, eqL, eqV, h]
theorem timers_ret {a a2 : Option Addr} {n n2 cap cap2 : Nat} {l l2 : List Ent} {b b2 : Option Nat} {w : World} (hs : Sl w 46 2 a n cap (ents l) b) (hs2 : Sl w 46 2 a2 n2 cap2 (ents l2) b2) (hn : n ≤ 1073741824) :
    Ret Try.prog 45 #[.slice a n cap, .slice a2 n2 cap2] w fun v w' => v = .bool (decide (l = l2)) ∧ w' = w := by
  have hl : l.length = n := by have := hs.length; rw [ents_len] at this; omega
  have hl2 : l2.length = n2 := by have := hs2.length; rw [ents_len] at this; omega
  refine ret_of (vs := [_, _]) Try.func45 rfl Try.ntmps45 rfl fun _ => ?_
  refine q_seq (q_reg (s_get rfl (e_assign rfl) (s_end (x_then ?_))))
  by_cases hlen : n = n2
  · subst hlen
    subst hl
    refine q_seq (q_seq (q_reg (s_get rfl (e_move rfl) (s_get rfl (e_len rfl) (s_get rfl (e_move rfl) (s_get rfl (e_len rfl) (s_get rfl (nay (e_neq rfl rfl) (by first | omega | (dsimp only; omega))) (s_end (x_then ?_)))))))))
    refine q_no rfl (q_skip (x_then ?_))
    refine q_seq (q_seq (q_reg (s_get rfl (e_assign rfl) (s_end (x_then ?_)))))
    refine q_block ?_
    refine q_loop (α := Nat) (fun x => [(5, .int .i64 x), (1, .slice a2 l.length cap2), (0, .slice a l.length cap)]) (fun x w' => w' = w ∧ x ≤ l.length ∧ l.take x = l2.take x) (fun x => l.length - x) 0 ⟨rfl, rfl, rfl, trivial⟩ ⟨rfl, by simp, by simp⟩ ?_
    rintro i w' ⟨hw, hi, heq⟩
    rw [hw]
    rcases Nat.lt_or_ge i l.length with hlt | hge
    · obtain ⟨e, he⟩ : ∃ e, l[i]? = some e := ⟨l[i], List.getElem?_eq_getElem hlt⟩
      obtain ⟨f, hf⟩ : ∃ f, l2[i]? = some f := ⟨l2[i]'(by omega), List.getElem?_eq_getElem (by omega)⟩
      obtain ⟨kb, off, rfl, hc⟩ := elem_at hs he
      rw [← hl2] at hs2
      obtain ⟨kb2, off2, rfl, hc2⟩ := elem_at hs2 hf
      rw [hl2] at hs2
      refine q_seq (q_seq (q_reg (s_get rfl (e_move rfl) (s_get rfl (e_move rfl) (s_get rfl (e_len rfl) (s_get rfl (yes (e_lss rfl rfl) (by first | omega | (dsimp only; omega))) (s_end (x_then ?_))))))))
      refine q_yes rfl (q_skip (x_then ?_))
      refine q_seq (q_block ?_)
      refine q_seq (d_begin (Ext _) [3, 7] (d_pure (i := 0) rfl rfl rfl (by kernel_rfl) (fun w' => (e_move rfl)) (d_pure (i := 1) rfl rfl rfl (by kernel_rfl) (fun w' => (e_move rfl)) (d_pure (i := 2) rfl rfl rfl (by kernel_rfl) (fun w' => (e_idxAt (off+i*2) rfl rfl (by first | omega | (dsimp only; omega)) (by first | omega | (dsimp only; omega)) (by first | omega | (dsimp only; omega)))) (d_head (i := 3) rfl rfl rfl (by kernel_rfl) (by kernel_rfl) (Ext.refl _) (fun w' hS => (e_ldn (cs:=ecells e) rfl rfl (hS.cells hc))) (d_pure (i := 4) rfl rfl rfl (by kernel_rfl) (fun w' => (e_move rfl)) (d_pure (i := 5) rfl rfl rfl (by kernel_rfl) (fun w' => (e_move rfl)) (d_pure (i := 6) rfl rfl rfl (by kernel_rfl) (fun w' => (e_idxAt (off2+i*2) rfl rfl (by first | omega | (dsimp only; omega)) (by first | omega | (dsimp only; omega)) (by first | omega | (dsimp only; omega)))) (d_head (i := 7) rfl rfl rfl (by kernel_rfl) (by kernel_rfl) (Ext.refl _) (fun w' hS => (e_ldn (cs:=ecells f) rfl rfl (hS.cells hc2))) (d_pure (i := 8) rfl rfl rfl (by kernel_rfl) (fun w' => (e_stne rfl rfl rfl rfl)) (d_end (by kernel_rfl) (x_then ?_))))))))))))
      rw [ecells_eq]
      by_cases hef : e = f
      · rw [decide_eq_true hef]
        refine q_no rfl (q_skip (x_block_normal (x_then ?_)))
        refine q_reg (s_get rfl (e_move rfl) (s_get rfl (e_add rfl rfl (by first | omega | (dsimp only; omega))) (s_get rfl (e_assign rfl) (s_end ?_))))
        exact x_again (i + 1) ⟨rfl, rfl, rfl, trivial⟩ ⟨rfl, hlt, by rw [List.take_add_one, List.take_add_one, heq, he, hf, hef]⟩ (by omega)
      · rw [decide_eq_false hef]
        refine q_yes rfl ?_
        refine q_seq (q_reg (s_get rfl (e_assign rfl) (s_end (x_then ?_))))
        refine q_ret (x_block_ret (x_then_ret (x_then_ret (x_block_ret (x_then_ret (x_ret1 (.inl rfl) rfl rfl ⟨?_, rfl⟩))))))
        rw [decide_eq_false]
        intro h
        rw [h] at he
        rw [he] at hf
        injection hf with hf
        exact hef hf
    · obtain rfl : i = l.length := by omega
      refine q_seq (q_seq (q_reg (s_get rfl (e_move rfl) (s_get rfl (e_move rfl) (s_get rfl (e_len rfl) (s_get rfl (nay (e_lss rfl rfl) (by first | omega | (dsimp only; omega))) (s_end (x_then ?_))))))))
      refine q_no rfl ?_
      refine q_exit (x_then_exit (x_then_exit (x_block_exit (x_then ?_))))
      refine q_seq (q_reg (s_get rfl (e_assign rfl) (s_end (x_then ?_))))
      refine q_ret (x_ret1 (.inl rfl) rfl rfl ⟨?_, rfl⟩)
      rw [decide_eq_true]
      rw [List.take_length] at heq
      rw [heq, ← hl2, List.take_length]
  · refine q_seq (q_seq (q_reg (s_get rfl (e_move rfl) (s_get rfl (e_len rfl) (s_get rfl (e_move rfl) (s_get rfl (e_len rfl) (s_get rfl (yes (e_neq rfl rfl) (by first | omega | (dsimp only; omega))) (s_end (x_then ?_)))))))))
    refine q_yes rfl ?_
    refine q_seq (q_reg (s_get rfl (e_assign rfl) (s_end (x_then ?_))))
    refine q_ret (x_then_ret (x_ret1 (.inl rfl) rfl rfl ⟨?_, rfl⟩))
    rw [decide_eq_false]
    intro h
    rw [h] at hl
    omega

/-- both wheels hold M at now -/
structure Pair (w0 w : World) (wb rb now : Nat) (M : List Ent) (A B : Nat → Prop) : Prop where
  l : IsW w wb now M A
  r : RW w rb now M B
  d : ∀ x, A x → ¬ B x
  k : Ext w0 w
  nl : ∀ x, A x → w0.heap.size ≤ x
  nr : ∀ x, B x → w0.heap.size ≤ x
theorem Pair.ext {w0 w w' : World} (h : Pair w0 w wb rb now M A B) (X : Ext w w') : Pair w0 w' wb rb now M A B :=
  ⟨h.l.kept X fun _ _ h => h, h.r.kept X fun _ _ h => h, h.d, h.k.trans X, h.nl, h.nr⟩
/-- a step of both, one behind the other -/
theorem Pair.step {w0 w w1 w2 : World} {now' : Nat} {M' : List Ent} {A' B' : Nat → Prop} (h : Pair w0 w wb rb now M A B) (W : IsW w1 wb now' M' A') (K : Kept A w w1) (G : Grew w A A') (R : RW w2 rb now' M' B') (K2 : Kept B w1 w2) (G2 : Grew w1 B B') : Pair w0 w2 wb rb now' M' A' B' :=
  ⟨W.kept K2 fun x hx hy => by
    rcases G x hx with g | g
    · exact h.d x g hy
    · have := h.r.lt hy; omega, R, fun x hx hy => by
    rcases G2 x hy with g | g
    · rcases G x hx with g' | g'
      · exact h.d x g' g
      · have := h.r.lt g; omega
    · have := W.lt hx; omega, (h.k.then K fun x hx => .inr (h.nl x hx)).then K2 fun x hx => .inr (h.nr x hx), fun x hx => by
    rcases G x hx with g | g
    · exact h.nl x g
    · exact Nat.le_trans h.k.size g, fun x hx => by
    rcases G2 x hx with g | g
    · exact h.nr x g
    · exact Nat.le_trans (Nat.le_trans h.k.size K.size) g⟩
theorem Pair.rw1 {w0 w w1 : World} (h : Pair w0 w wb rb now M A B) (K : Kept A w w1) : RW w1 rb now M B := h.r.kept K fun x hx hy => h.d x hy hx
def opcells (k : Int) (id : ByteArray) (at_ : Int) (far : Bool) : List Value := [.int .i64 k, .string id, .int .i64 at_, .bool far]
set_option maxHeartbeats 4000000 in
theorem does_ret {w0 : World} (h : Pair w0 w wb rb now M A B) (kd : Int) (id : ByteArray) (at0 : Int) (far : Bool) : Ret Try.prog 23 #[.pointer (some ⟨wb, 0, none⟩), .pointer (some ⟨rb, 0, none⟩), .agg (opcells kd id at0 far).toArray] w fun v w' => v = .bool true ∧
    ∃ now' M' A' B', Pair w0 w' wb rb now' M' A' B' := by
  refine ret_of (vs := [_, _, _]) Try.func23 rfl Try.ntmps23 rfl fun _ => ?_
  refine q_seq (q_reg (s_val rfl (e_box rfl) (s_get rfl (e_assign rfl) (s_end (x_then ?_)))))
  obtain ⟨w1, hw1⟩ : ∃ w1, w1 = w.alloc (.cells (Value.agg (opcells kd id at0 far).toArray).cells 56) := ⟨_, rfl⟩
  rw [← hw1]
  have X1 : Ext w w1 := hw1 ▸ (Ext.refl w).alloc _
  have b1 : w1.heap[w.heap.size]? = some (.cells (opcells kd id at0 far).toArray 56 (0, 0)) := by rw [hw1]; exact Base.heap_alloc_new' _ _
  have hA : ∀ x, A x → x < w.heap.size := fun x hx => h.l.lt hx
  have hBl : ∀ x, B x → x < w.heap.size := fun x hx => h.r.lt hx
  have hx1 : w.heap.size < w1.heap.size := lt_of_at b1
  have h := h.ext X1
  have hbx : ∀ {w' : World}, w'.heap[w.heap.size]? = some (.cells (opcells kd id at0 far).toArray 56 (0, 0)) → w'.cell? ⟨w.heap.size, 0 + 0, none⟩ = some (.int .i64 kd) ∧ w'.cell? ⟨w.heap.size, 0 + 1, none⟩ = some (.string id) ∧ w'.cell? ⟨w.heap.size, 0 + 2, none⟩ = some (.int .i64 at0) ∧ w'.cell? ⟨w.heap.size, 0 + 3, none⟩ = some (.bool far) := fun hb => by
    refine ⟨?_, ?_, ?_, ?_⟩ <;> (rw [cell_of hb]; rfl)
  obtain ⟨o0, o1, o2, o3⟩ := hbx b1
  have hall := h.l.all
  have hlen := h.l.len
  have hnm := h.l.names
  have hnow := h.l.nw
  refine q_seq (q_reg (s_get rfl (e_fld rfl) (s_get rfl (e_ld rfl o2) (s_get rfl (e_assign rfl) (s_end (x_then ?_))))))
  refine q_seq (q_midx (β := Int) (fun x => [(7, .int .i64 x), (5, .pointer (some ⟨w.heap.size, 0, none⟩)), (1, .pointer (some ⟨rb, 0, none⟩)), (0, .pointer (some ⟨wb, 0, none⟩))]) (fun x w' => w' = w1) ?_ ?_)
  · cases far with
    | false =>
      refine q_seq (q_reg (s_get rfl (e_fld rfl) (s_get rfl (e_ld rfl o3) (s_get rfl (e_move rfl) (s_off rfl rfl rfl rfl (s_off rfl rfl rfl rfl (s_get rfl (e_pickF rfl rfl) (s_get rfl (e_move rfl) (s_off rfl rfl rfl rfl (s_off rfl rfl rfl rfl (s_get rfl (e_pickF rfl rfl) (s_end (x_then ?_)))))))))))))
      refine q_no rfl (q_skip (x_midx at0 ⟨rfl, rfl, rfl, rfl, trivial⟩ rfl))
    | true =>
      by_cases ha : 0 ≤ at0
      · by_cases hb : at0 ≤ 1099511627776
        · refine q_seq (q_reg (s_get rfl (e_fld rfl) (s_get rfl (e_ld rfl o3) (s_get rfl (e_move rfl) (s_on rfl rfl (s_get rfl (e_move rfl) (s_on rfl rfl (s_get rfl (yes (e_geq rfl rfl) (by first | omega | (dsimp only; omega))) (s_get rfl (e_pickT rfl rfl) (s_get rfl (e_move rfl) (s_on rfl rfl (s_get rfl (e_move rfl) (s_on rfl rfl (s_get rfl (yes (e_leq rfl rfl) (by first | omega | (dsimp only; omega))) (s_get rfl (e_pickT rfl rfl) (s_end (x_then ?_)))))))))))))))))
          refine q_yes rfl ?_
          refine q_reg (s_get rfl (e_move rfl) (s_get rfl (e_move rfl) (s_call rfl (e_fn rfl) (rnow_ret h.r) ?_)))
          rintro _ w2 ⟨rfl, hw2⟩
          rw [hw2]
          refine s_get rfl (e_add rfl rfl (by first | omega | (dsimp only; omega))) (s_get rfl (e_assign rfl) (s_end (x_midx (at0 + now) ⟨rfl, rfl, rfl, rfl, trivial⟩ rfl)))
        · refine q_seq (q_reg (s_get rfl (e_fld rfl) (s_get rfl (e_ld rfl o3) (s_get rfl (e_move rfl) (s_on rfl rfl (s_get rfl (e_move rfl) (s_on rfl rfl (s_get rfl (yes (e_geq rfl rfl) (by first | omega | (dsimp only; omega))) (s_get rfl (e_pickT rfl rfl) (s_get rfl (e_move rfl) (s_on rfl rfl (s_get rfl (e_move rfl) (s_on rfl rfl (s_get rfl (nay (e_leq rfl rfl) (by first | omega | (dsimp only; omega))) (s_get rfl (e_pickT rfl rfl) (s_end (x_then ?_)))))))))))))))))
          refine q_no rfl (q_skip (x_midx at0 ⟨rfl, rfl, rfl, rfl, trivial⟩ rfl))
      · refine q_seq (q_reg (s_get rfl (e_fld rfl) (s_get rfl (e_ld rfl o3) (s_get rfl (e_move rfl) (s_on rfl rfl (s_get rfl (e_move rfl) (s_on rfl rfl (s_get rfl (nay (e_geq rfl rfl) (by first | omega | (dsimp only; omega))) (s_get rfl (e_pickT rfl rfl) (s_get rfl (e_move rfl) (s_off rfl rfl rfl rfl (s_off rfl rfl rfl rfl (s_get rfl (e_pickF rfl rfl) (s_end (x_then ?_)))))))))))))))
        refine q_no rfl (q_skip (x_midx at0 ⟨rfl, rfl, rfl, rfl, trivial⟩ rfl))
  rintro at_ w2 hw2
  rw [hw2]
  clear hw2 w2
  refine q_seq (q_seq (q_reg (s_get rfl (e_fld rfl) (s_get rfl (e_ld rfl o0) (s_end (x_then ?_))))))
  refine q_block ?_
  refine q_seq (q_reg (s_get rfl (e_eql rfl rfl) (s_get rfl (e_assign rfl) (s_end (x_then ?_)))))
  refine q_dec rfl (fun _ => ?_) fun _ => ?_
  · refine q_seq (q_reg (s_get rfl (e_move rfl) (s_get rfl (e_fld rfl) (s_get rfl (e_ld rfl o1) (s_get rfl (e_move rfl) (s_call rfl (e_fn rfl) (add_ret h.l id at_) ?_))))))
    rintro _ w3 ⟨rfl, A', W', K, G⟩
    have b3 := K.at b1 fun hb => by have := hA _ hb; omega
    refine s_get rfl (e_assign rfl) (s_end (x_then ?_))
    refine q_seq (q_reg (s_get rfl (e_move rfl) (s_get rfl (e_fld rfl) (s_get rfl (e_ld rfl ((hbx b3).2.1)) (s_get rfl (e_move rfl) (s_call rfl (e_fn rfl) (radd_ret (h.rw1 K) hlen hnm id at_) ?_))))))
    rintro _ w4 ⟨rfl, B', R', K2, G2⟩
    refine s_get rfl (e_assign rfl) (s_end (x_then ?_))
    refine q_seq (q_reg (s_get rfl (e_move rfl) (s_get rfl (e_move rfl) (s_get rfl (yes (e_eql rfl rfl) rfl) (s_get rfl (e_assign rfl) (s_end (x_then ?_)))))))
    refine q_ret ?_
    repeat (first | refine x_then_ret ?_ | refine x_block_ret ?_ | refine x_scope_ret ?_)
    exact (x_ret1 (.inl rfl) rfl rfl ⟨rfl, _, _, _, _, h.step W' K G R' K2 G2⟩)
  refine q_seq (q_reg (s_get rfl (e_eql rfl rfl) (s_get rfl (e_assign rfl) (s_end (x_then ?_)))))
  refine q_dec rfl (fun _ => ?_) fun _ => ?_
  · refine q_seq (q_reg (s_get rfl (e_move rfl) (s_get rfl (e_fld rfl) (s_get rfl (e_ld rfl o1) (s_get rfl (e_move rfl) (s_call rfl (e_fn rfl) (change_ret h.l id at_) ?_))))))
    rintro _ w3 ⟨rfl, A', W', K, G⟩
    have b3 := K.at b1 fun hb => by have := hA _ hb; omega
    refine s_get rfl (e_assign rfl) (s_end (x_then ?_))
    refine q_seq (q_reg (s_get rfl (e_move rfl) (s_get rfl (e_fld rfl) (s_get rfl (e_ld rfl ((hbx b3).2.1)) (s_get rfl (e_move rfl) (s_call rfl (e_fn rfl) (rchange_ret (h.rw1 K) hlen hnm id at_) ?_))))))
    rintro _ w4 ⟨rfl, B', R', K2, G2⟩
    refine s_get rfl (e_assign rfl) (s_end (x_then ?_))
    refine q_seq (q_reg (s_get rfl (e_move rfl) (s_get rfl (e_move rfl) (s_get rfl (yes (e_eql rfl rfl) rfl) (s_get rfl (e_assign rfl) (s_end (x_then ?_)))))))
    refine q_ret ?_
    repeat (first | refine x_then_ret ?_ | refine x_block_ret ?_ | refine x_scope_ret ?_)
    exact (x_ret1 (.inl rfl) rfl rfl ⟨rfl, _, _, _, _, h.step W' K G R' K2 G2⟩)
  refine q_seq (q_reg (s_get rfl (e_eql rfl rfl) (s_get rfl (e_assign rfl) (s_end (x_then ?_)))))
  refine q_dec rfl (fun _ => ?_) fun _ => ?_
  · refine q_seq (q_reg (s_get rfl (e_move rfl) (s_get rfl (e_fld rfl) (s_get rfl (e_ld rfl o1) (s_call rfl (e_fn rfl) (remove_ret h.l id) ?_)))))
    rintro _ w3 ⟨rfl, A', W', K, G⟩
    have b3 := K.at b1 fun hb => by have := hA _ hb; omega
    refine s_get rfl (e_assign rfl) (s_end (x_then ?_))
    refine q_seq (q_reg (s_get rfl (e_move rfl) (s_get rfl (e_fld rfl) (s_get rfl (e_ld rfl ((hbx b3).2.1)) (s_call rfl (e_fn rfl) (rremove_ret (h.rw1 K) hlen hnm id) ?_)))))
    rintro _ w4 ⟨rfl, B', R', K2, G2⟩
    refine s_get rfl (e_assign rfl) (s_end (x_then ?_))
    refine q_seq (q_reg (s_get rfl (e_move rfl) (s_get rfl (e_move rfl) (s_get rfl (yes (e_eql rfl rfl) rfl) (s_get rfl (e_assign rfl) (s_end (x_then ?_)))))))
    refine q_ret ?_
    repeat (first | refine x_then_ret ?_ | refine x_block_ret ?_ | refine x_scope_ret ?_)
    exact (x_ret1 (.inl rfl) rfl rfl ⟨rfl, _, _, _, _, h.step W' K G R' K2 G2⟩)
  refine q_seq (q_reg (s_get rfl (e_eql rfl rfl) (s_get rfl (e_assign rfl) (s_end (x_then ?_)))))
  refine q_dec rfl (fun _ => ?_) fun _ => ?_
  · refine q_seq (q_reg (s_get rfl (e_move rfl) (s_get rfl (e_fld rfl) (s_get rfl (e_ld rfl o1) (s_call rfl (e_fn rfl) (at_ret h.l id) ?_)))))
    rintro _ w3 ⟨rfl, hw⟩
    rw [hw]
    refine s_get rfl (e_move rfl) (s_get rfl (e_ext rfl rfl) (s_get rfl (e_ext rfl rfl) (s_get rfl (e_assign rfl) (s_get rfl (e_assign rfl) (s_end (x_then ?_))))))
    refine q_seq (q_reg (s_get rfl (e_move rfl) (s_get rfl (e_fld rfl) (s_get rfl (e_ld rfl o1) (s_call rfl (e_fn rfl) (rat_ret h.r hlen hnm id) ?_)))))
    rintro _ w4 ⟨rfl, hw⟩
    rw [hw]
    refine s_get rfl (e_move rfl) (s_get rfl (e_ext rfl rfl) (s_get rfl (e_ext rfl rfl) (s_get rfl (e_assign rfl) (s_get rfl (e_assign rfl) (s_end (x_then ?_))))))
    refine q_seq (q_reg (s_get rfl (e_move rfl) (s_get rfl (e_move rfl) (s_get rfl (yes (e_eql rfl rfl) rfl) (s_get rfl (e_move rfl) (s_on rfl rfl (s_get rfl (e_move rfl) (s_on rfl rfl (s_get rfl (e_move rfl) (s_on rfl rfl (s_get rfl (yes (e_eql rfl rfl) rfl) (s_get rfl (e_pickT rfl rfl) (s_get rfl (e_assign rfl) (s_end (x_then ?_)))))))))))))))
    refine q_ret ?_
    repeat (first | refine x_then_ret ?_ | refine x_block_ret ?_ | refine x_scope_ret ?_)
    exact (x_ret1 (.inl rfl) rfl rfl ⟨rfl, _, _, _, _, h⟩)
  refine q_seq (q_reg (s_get rfl (e_eql rfl rfl) (s_get rfl (e_assign rfl) (s_end (x_then ?_)))))
  refine q_dec rfl (fun _ => ?_) fun _ => ?_
  · by_cases hadv : advE now at_ = 0
    · obtain ⟨to, rfl⟩ : ∃ to : Nat, at_ = to := by
        unfold advE isTime at hadv
        split at hadv
        · rename_i hT
          simp at hT
          exact ⟨at_.toNat, by omega⟩
        · cases hadv
      refine q_seq (q_reg (s_get rfl (e_move rfl) (s_get rfl (e_move rfl) (s_call rfl (e_fn rfl) (advance_ok h.l to hadv) ?_))))
      rintro _ w3 ⟨la, ln, lcap, lb, A', rfl, hln, s3, nl, W3, K3, hA3⟩
      refine s_get rfl (e_move rfl) (s_get rfl (e_ext rfl rfl) (s_get rfl (e_ext rfl rfl) (s_get rfl (e_assign rfl) (s_get rfl (e_assign rfl) (s_end (x_then ?_))))))
      refine q_seq (q_reg (s_get rfl (e_move rfl) (s_get rfl (e_move rfl) (s_call rfl (e_fn rfl) (radvance_ok (h.rw1 K3) hlen to hadv) ?_))))
      rintro _ w4 ⟨ra, rn, rcap, rb2, B', rfl, hrn, s4, nr, R4, K4, hB4⟩
      have hlen2 : (M.takeWhile fun e => decide (e.2 ≤ to)).length ≤ M.length := (List.takeWhile_sublist _).length_le
      have s34 := s3.kept K4 fun x hx hb => by have := nl x hx; have := hBl x hb; omega
      have ht := (texts_ret s34 s4 (by omega)).mono (R' := fun v w' => v = .bool true ∧ w' = w4) fun v w' ⟨hv, hw⟩ => ⟨by rw [hv]; simp, hw⟩
      refine s_get rfl (e_move rfl) (s_get rfl (e_ext rfl rfl) (s_get rfl (e_ext rfl rfl) (s_get rfl (e_assign rfl) (s_get rfl (e_assign rfl) (s_end (x_then ?_))))))
      refine q_seq (q_reg (s_get rfl (e_move rfl) (s_get rfl (e_move rfl) (s_call rfl (e_fn rfl) ht ?_))))
      rintro _ w5 ⟨rfl, hw⟩
      rw [hw]
      refine s_get rfl (e_move rfl) (s_on rfl rfl (s_get rfl (e_move rfl) (s_on rfl rfl (s_get rfl (e_move rfl) (s_on rfl rfl (s_get rfl (yes (e_eql rfl rfl) rfl) (s_get rfl (e_pickT rfl rfl) (s_get rfl (e_assign rfl) (s_end (x_then ?_))))))))))
      refine q_ret ?_
      repeat (first | refine x_then_ret ?_ | refine x_block_ret ?_ | refine x_scope_ret ?_)
      exact (x_ret1 (.inl rfl) rfl rfl ⟨rfl, _, _, _, _, h.step W3 K3 (fun x hx => .inl (hA3 x hx)) R4 K4 fun x hx => .inl (hB4 x hx)⟩)
    · refine q_seq (q_reg (s_get rfl (e_move rfl) (s_get rfl (e_move rfl) (s_call rfl (e_fn rfl) (advance_bad h.l at_ hadv) ?_))))
      rintro _ w3 ⟨rfl, hw⟩
      rw [hw]
      refine s_get rfl (e_move rfl) (s_get rfl (e_ext rfl rfl) (s_get rfl (e_ext rfl rfl) (s_get rfl (e_assign rfl) (s_get rfl (e_assign rfl) (s_end (x_then ?_))))))
      refine q_seq (q_reg (s_get rfl (e_move rfl) (s_get rfl (e_move rfl) (s_call rfl (e_fn rfl) (radvance_bad h.r at_ hadv) ?_))))
      rintro _ w4 ⟨rfl, hw⟩
      rw [hw]
      have ht := (texts_ret (w := w1) (l := []) (l2 := []) (a := none) (n := 0) (cap := 0) (b := none) (a2 := none) (n2 := 0) (cap2 := 0) (b2 := none) .nil .nil (by omega)).mono (R' := fun v w' => v = .bool true ∧ w' = w1) fun v w' ⟨hv, hw⟩ => ⟨by rw [hv]; simp, hw⟩
      refine s_get rfl (e_move rfl) (s_get rfl (e_ext rfl rfl) (s_get rfl (e_ext rfl rfl) (s_get rfl (e_assign rfl) (s_get rfl (e_assign rfl) (s_end (x_then ?_))))))
      refine q_seq (q_reg (s_get rfl (e_move rfl) (s_get rfl (e_move rfl) (s_call rfl (e_fn rfl) ht ?_))))
      rintro _ w5 ⟨rfl, hw⟩
      rw [hw]
      refine s_get rfl (e_move rfl) (s_on rfl rfl (s_get rfl (e_move rfl) (s_on rfl rfl (s_get rfl (e_move rfl) (s_on rfl rfl (s_get rfl (yes (e_eql rfl rfl) rfl) (s_get rfl (e_pickT rfl rfl) (s_get rfl (e_assign rfl) (s_end (x_then ?_))))))))))
      refine q_ret ?_
      repeat (first | refine x_then_ret ?_ | refine x_block_ret ?_ | refine x_scope_ret ?_)
      exact (x_ret1 (.inl rfl) rfl rfl ⟨rfl, _, _, _, _, h⟩)
  refine q_seq (q_reg (s_get rfl (e_eql rfl rfl) (s_get rfl (e_assign rfl) (s_end (x_then ?_)))))
  refine q_dec rfl (fun _ => ?_) fun _ => ?_
  · refine q_seq (q_reg (s_get rfl (e_move rfl) (s_call rfl (e_fn rfl) (next_ret h.l) ?_)))
    rintro _ w3 ⟨rfl, hw⟩
    rw [hw]
    refine s_get rfl (e_move rfl) (s_get rfl (e_ext rfl rfl) (s_get rfl (e_ext rfl rfl) (s_get rfl (e_assign rfl) (s_get rfl (e_assign rfl) (s_end (x_then ?_))))))
    refine q_seq (q_reg (s_get rfl (e_move rfl) (s_call rfl (e_fn rfl) (rnext_ret h.r) ?_)))
    rintro _ w4 ⟨rfl, hw⟩
    rw [hw]
    refine s_get rfl (e_move rfl) (s_get rfl (e_ext rfl rfl) (s_get rfl (e_ext rfl rfl) (s_get rfl (e_assign rfl) (s_get rfl (e_assign rfl) (s_end (x_then ?_))))))
    refine q_seq (q_reg (s_get rfl (e_move rfl) (s_get rfl (e_move rfl) (s_get rfl (yes (e_eql rfl rfl) rfl) (s_get rfl (e_move rfl) (s_on rfl rfl (s_get rfl (e_move rfl) (s_on rfl rfl (s_get rfl (e_move rfl) (s_on rfl rfl (s_get rfl (yes (e_beql rfl rfl) rfl) (s_get rfl (e_pickT rfl rfl) (s_get rfl (e_move rfl) (s_on rfl rfl (s_get rfl (e_move rfl) (s_on rfl rfl (s_call rfl (e_fn rfl) (now_ret h.l) ?_)))))))))))))))))
    rintro _ w5 ⟨rfl, hw⟩
    rw [hw]
    refine s_on rfl rfl (s_get rfl (e_move rfl) (s_on rfl rfl (s_call rfl (e_fn rfl) (rnow_ret h.r) ?_)))
    rintro _ w5 ⟨rfl, hw⟩
    rw [hw]
    refine s_on rfl rfl (s_get rfl (yes (e_eql rfl rfl) rfl) (s_get rfl (e_pickT rfl rfl) (s_get rfl (e_move rfl) (s_on rfl rfl (s_get rfl (e_move rfl) (s_on rfl rfl (s_call rfl (e_fn rfl) (len_ret h.l) ?_)))))))
    rintro _ w5 ⟨rfl, hw⟩
    rw [hw]
    refine s_on rfl rfl (s_get rfl (e_move rfl) (s_on rfl rfl (s_call rfl (e_fn rfl) (rlen_ret h.r) ?_)))
    rintro _ w5 ⟨rfl, hw⟩
    rw [hw]
    refine s_on rfl rfl (s_get rfl (yes (e_eql rfl rfl) rfl) (s_get rfl (e_pickT rfl rfl) (s_get rfl (e_move rfl) (s_on rfl rfl (s_get rfl (e_move rfl) (s_on rfl rfl (s_call rfl (e_fn rfl) (spread_ret h.l) ?_)))))))
    rintro _ w5 ⟨rfl, X5⟩
    have h := h.ext X5
    rw [ints_ivals]
    refine s_on rfl rfl (s_get rfl (e_move rfl) (s_on rfl rfl (s_call rfl (e_fn rfl) (rspread_ret h.r hlen hnow fun e he => (hall e he).2.1) ?_)))
    rintro _ w6 ⟨rfl, X6⟩
    have h := h.ext X6
    rw [ints_ivals]
    refine s_on rfl rfl (s_get rfl (e_aeq (a:=(spreadL now M).map Int.ofNat) (b:=(spreadL now M).map Int.ofNat) rfl rfl rfl rfl) (s_get rfl (e_pickT rfl rfl) (s_get rfl (e_assign rfl) (s_end (x_then ?_)))))
    refine q_ret ?_
    repeat (first | refine x_then_ret ?_ | refine x_block_ret ?_ | refine x_scope_ret ?_)
    exact (x_ret1 (.inl rfl) rfl rfl ⟨by simp, _, _, _, _, h⟩)
  refine q_seq (q_reg (s_get rfl (e_eql rfl rfl) (s_get rfl (e_assign rfl) (s_end (x_then ?_)))))
  refine q_dec rfl (fun _ => ?_) fun _ => ?_
  · refine q_seq (q_reg (s_get rfl (e_fld rfl) (s_get rfl (e_ld rfl o2) (s_get rfl (e_assign rfl) (s_end (x_then ?_))))))
    refine q_seq (q_midx (β := Nat) (fun x => [(26, .int .i64 x), (1, .pointer (some ⟨rb, 0, none⟩)), (0, .pointer (some ⟨wb, 0, none⟩))]) (fun x w' => w' = w1 ∧ x ≤ 10) ?_ ?_)
    · by_cases ha : at0 < 0
      · refine q_seq (q_reg (s_get rfl (e_move rfl) (s_get rfl (yes (e_lss rfl rfl) (by first | omega | (dsimp only; omega))) (s_get rfl (e_move rfl) (s_off rfl rfl rfl rfl (s_off rfl rfl rfl rfl (s_get rfl (e_pickT rfl rfl) (s_end (x_then ?_)))))))))
        refine q_yes rfl ?_
        refine q_reg (s_get rfl (e_assign rfl) (s_end (x_midx 10 ⟨rfl, rfl, rfl, trivial⟩ ⟨rfl, by omega⟩)))
      · by_cases hb : 10 < at0
        · refine q_seq (q_reg (s_get rfl (e_move rfl) (s_get rfl (nay (e_lss rfl rfl) (by first | omega | (dsimp only; omega))) (s_get rfl (e_move rfl) (s_on rfl rfl (s_get rfl (e_move rfl) (s_on rfl rfl (s_get rfl (yes (e_gtr rfl rfl) (by first | omega | (dsimp only; omega))) (s_get rfl (e_pickF rfl rfl) (s_end (x_then ?_)))))))))))
          refine q_yes rfl ?_
          refine q_reg (s_get rfl (e_assign rfl) (s_end (x_midx 10 ⟨rfl, rfl, rfl, trivial⟩ ⟨rfl, by omega⟩)))
        · refine q_seq (q_reg (s_get rfl (e_move rfl) (s_get rfl (nay (e_lss rfl rfl) (by first | omega | (dsimp only; omega))) (s_get rfl (e_move rfl) (s_on rfl rfl (s_get rfl (e_move rfl) (s_on rfl rfl (s_get rfl (nay (e_gtr rfl rfl) (by first | omega | (dsimp only; omega))) (s_get rfl (e_pickF rfl rfl) (s_end (x_then ?_)))))))))))
          obtain ⟨m, hm⟩ : ∃ m : Nat, at0 = m := ⟨at0.toNat, by omega⟩
          rw [hm]
          refine q_no rfl (q_skip (x_midx m ⟨rfl, rfl, rfl, trivial⟩ ⟨rfl, by omega⟩))
    rintro n w2 ⟨hw, hn⟩
    rw [hw]
    refine q_seq (q_reg (s_get rfl (e_move rfl) (s_call rfl (e_fn rfl) (rlist_ret h.r hlen) ?_)))
    rintro _ w3 ⟨la, lcap, lb, rfl, s3, n3, X3⟩
    have h := h.ext X3
    refine s_get rfl (e_assign rfl) (s_end (x_then ?_))
    refine q_seq (q_reg (s_get rfl (e_move rfl) (s_get rfl (e_move rfl) (s_call rfl (e_fn rfl) (walked_ret h.l n) ?_))))
    rintro _ w4 ⟨wa, wcap, wb2, rfl, s4, n4, X4⟩
    have h := h.ext X4
    refine s_get rfl (e_assign rfl) (s_end (x_then ?_))
    refine q_seq (q_reg (s_get rfl (e_move rfl) (s_get rfl (e_move rfl) (s_get rfl (e_len rfl) (s_get rfl (e_add rfl rfl (by first | omega | (dsimp only; omega))) (s_call rfl (e_fn rfl) (walked_ret h.l _) ?_))))))
    rintro _ w5 ⟨va, vcap, vb, rfl, s5, n5, X5⟩
    have h := h.ext X5
    refine s_get rfl (e_assign rfl) (s_end (x_then ?_))
    have hcap := s3.le
    have s35 := (s3.ext X4).ext X5
    have s45 := s4.ext X5
    refine q_seq (q_midx (β := Nat) (fun x => [(29, .slice va (walkN (M.length + 1) M).length vcap), (28, .slice wa (walkN n M).length wcap), (27, .slice la M.length lcap), (26, .int .i64 x)]) (fun x w' => w' = w5 ∧ x = min n M.length) ?_ ?_)
    · by_cases hlt : M.length < n
      · refine q_seq (q_reg (s_get rfl (e_move rfl) (s_get rfl (e_len rfl) (s_get rfl (e_move rfl) (s_get rfl (yes (e_lss rfl rfl) (by first | omega | (dsimp only; omega))) (s_end (x_then ?_)))))))
        refine q_yes rfl ?_
        refine q_reg (s_get rfl (e_move rfl) (s_get rfl (e_len rfl) (s_get rfl (e_assign rfl) (s_end (x_midx M.length ⟨rfl, rfl, rfl, rfl, trivial⟩ ⟨rfl, by omega⟩)))))
      · refine q_seq (q_reg (s_get rfl (e_move rfl) (s_get rfl (e_len rfl) (s_get rfl (e_move rfl) (s_get rfl (nay (e_lss rfl rfl) (by first | omega | (dsimp only; omega))) (s_end (x_then ?_)))))))
        refine q_no rfl (q_skip (x_midx n ⟨rfl, rfl, rfl, rfl, trivial⟩ ⟨rfl, by omega⟩))
    rintro m w6 ⟨hw, hm⟩
    rw [hw]
    have e1 : walkN n M = M.take m := by
      unfold walkN
      by_cases hn0 : (n : Int) < 1
      · rw [if_pos hn0]
        have : m = 0 := by omega
        rw [this]; rfl
      · rw [if_neg hn0, Int.toNat_natCast, hm]
        rcases Nat.le_total n M.length with g | g
        · rw [Nat.min_eq_left g]
        · rw [Nat.min_eq_right g, List.take_of_length_le g, List.take_length]
    have e2 : walkN (M.length + 1) M = M := by
      unfold walkN
      rw [if_neg (by omega)]
      exact List.take_of_length_le (by omega)
    rw [e1] at s45 ⊢
    rw [e2] at s5 ⊢
    have hml : m ≤ M.length := by omega
    have sm := s35.part (Nat.zero_le m) hml
    have hlm : (M.take m).length = m := by rw [List.length_take]; omega
    have e3 : ((ents M).take (m * 2)).drop (0 * 2) = ents (M.take m) := by rw [ents_take, Nat.zero_mul, List.drop_zero]
    rw [e3] at sm
    have ht1 := (timers_ret s45 sm (by omega)).mono (R' := fun v w' => v = .bool true ∧ w' = w5) fun v w' ⟨hv, hw⟩ => ⟨by rw [hv]; simp, hw⟩
    have ht2 := (timers_ret s5 s35 (by omega)).mono (R' := fun v w' => v = .bool true ∧ w' = w5) fun v w' ⟨hv, hw⟩ => ⟨by rw [hv]; simp, hw⟩
    refine q_seq (q_reg (s_get rfl (e_move rfl) (s_get rfl (e_move rfl) (s_get rfl (e_move rfl) (s_get rfl (e_slH rfl rfl (by first | omega | (dsimp only; omega)) (by first | omega | (dsimp only; omega))) (s_call rfl (e_fn rfl) ht1 ?_))))))
    rintro _ w7 ⟨rfl, hw⟩
    rw [hw]
    refine s_get rfl (e_move rfl) (s_on rfl rfl (s_get rfl (e_move rfl) (s_on rfl rfl (s_get rfl (e_move rfl) (s_on rfl rfl (s_call rfl (e_fn rfl) ht2 ?_))))))
    rintro _ w8 ⟨rfl, hw⟩
    rw [hw]
    refine s_get rfl (e_pickT rfl rfl) (s_get rfl (e_assign rfl) (s_end (x_then ?_)))
    refine q_ret ?_
    repeat (first | refine x_then_ret ?_ | refine x_block_ret ?_ | refine x_scope_ret ?_)
    exact (x_ret1 (.inl rfl) rfl rfl ⟨rfl, _, _, _, _, h⟩)
  refine q_skip ?_
  repeat (first | refine x_block_normal ?_ | refine x_scope_normal ?_)
  refine x_then ?_
  refine q_seq (q_reg (s_get rfl (e_assign rfl) (s_end (x_then ?_))))
  refine q_ret ?_
  repeat (first | refine x_then_ret ?_ | refine x_block_ret ?_ | refine x_scope_ret ?_)
  exact (x_ret1 (.inl rfl) rfl rfl ⟨rfl, _, _, _, _, h⟩)
end Go.Proofs.Ytogfllhbgkeinaa.Wheel

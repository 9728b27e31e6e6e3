/-
  Change, Remove, Spread; a nil wheel.
-/
import Derived.Test.YtogfllhbgkeinaaWh2
set_option linter.unusedVariables false
set_option linter.unusedSimpArgs false
namespace Go.Proofs.Ytogfllhbgkeinaa.Wheel
open Go.RowKit Base Lev Wa Eng Wb Spc
open Go.ChangeMaps (setBlock)
variable {w : World} {wb mb now : Nat} {H : List Tm} {sl : Nat → Nat → List Tm} {kv : KV} {M : List Ent} {B : Nat → Prop}

def remE (M : List Ent) (id : ByteArray) : Nat := if isName id = true then if (atOf id M).isSome = true then 0 else 7 else 111
def remM (M : List Ent) (id : ByteArray) : List Ent := if remE M id = 0 then cut id M else M
def chgE (now : Nat) (M : List Ent) (id : ByteArray) (t : Int) : Nat := if isName id = true then if (atOf id M).isSome = true then aheadE now t else 7 else 111
def chgM (now : Nat) (M : List Ent) (id : ByteArray) (t : Int) : List Ent := if chgE now M id t = 0 then ins (id, t.toNat) (cut id M) else M
theorem filter_own {t : Tm} {b : Nat} (h : own wb mb (H.filter (notB t.b)) b) : own wb mb H b := by
  rcases h with h | h | ⟨u, hu, h⟩
  · exact .inl h
  · exact .inr (.inl h)
  · exact .inr (.inr ⟨u, (List.mem_filter.1 hu).1, h⟩)
theorem isB_own {b : Nat} (h : isB wb H b) : own wb mb H b := by
  rcases h with h | ⟨u, hu, h⟩
  · exact .inl h
  · exact .inr (.inr ⟨u, hu, h⟩)
theorem filter_idn {t : Tm} (h : (H.map (·.id)).Nodup) : ((H.filter (notB t.b)).map (·.id)).Nodup := (List.filter_sublist.map _).nodup h
theorem filter_len1 {t : Tm} (hn : (H.map (·.b)).Nodup) (ht : t ∈ H) : (H.filter (notB t.b)).length + 1 = H.length := by
  obtain ⟨A, C, rfl⟩ := List.append_of_mem ht
  rw [filter_notB hn]; simp; omega
theorem filter_no (idn : (H.map (·.id)).Nodup) (nd : (H.map (·.b)).Nodup) {t : Tm} (ht : t ∈ H) : ∀ u ∈ H.filter (notB t.b), u.id ≠ t.id := by
  obtain ⟨A, C, rfl⟩ := List.append_of_mem ht
  rw [filter_notB nd]
  intro u hu e
  rw [List.map_append, List.nodup_append, List.map_cons, List.nodup_cons] at idn
  rcases List.mem_append.1 hu with h | h
  · exact idn.2.2 u.id (List.mem_map.2 ⟨u, h, rfl⟩) t.id List.mem_cons_self e
  · exact idn.2.1.1 (List.mem_map.2 ⟨u, h, e⟩)

theorem Whl.removed (h1 : Whl w wb mb now H sl kv) (h2 : (H.map pr).Perm M) (h3 : ∀ b, B b ↔ own wb mb H b) (hs : Srt M) {t : Tm} (ht : t ∈ H) {w2 w3 : World} {sl' : Nat → Nat → List Tm}
    (R2 : Rings w2 wb mb now (H.filter (notB t.b)) sl') (K2 : Kept (isB wb H) w w2) {o : Obj} (hw3 : w3 = setBlock w2 mb o) (hm : SMap w3 mb (del kv t.id)) :
    ∃ B', IsW w3 wb now (cut t.id M) B' ∧ Kept B w w3 ∧ Grew w B B' := by
  subst hw3
  have R3 : Rings (setBlock w2 mb o) wb mb now (H.filter (notB t.b)) sl' := R2.same (heap_setBlock_other _ R2.wm) fun u hu => heap_setBlock_other _ (R2.ap u hu).2.1
  have hln := filter_len1 h1.R.nd ht
  refine ⟨own wb mb (H.filter (notB t.b)), ⟨⟨mb, _, _, _, ⟨R3, hm, kp_del h1.kp h1.idn h1.R.nd ht, filter_idn h1.idn, fun u hu => h1.al u (List.mem_filter.1 hu).1, h1.nw, by have := h1.ln; omega⟩, perm_cut h1.idn h1.R.nd h2 ht, fun _ => Iff.rfl⟩, cut_srt hs⟩, ?_, fun b hb => .inl ((h3 b).2 (filter_own hb))⟩
  exact (K2.mono fun b _ hb => (h3 b).2 (isB_own hb)).trans (Kept.setBlock _ mb o ((h3 mb).2 (.inr (.inl rfl)))) fun _ _ h => h

theorem remove_ret (W : IsW w wb now M B) (id : ByteArray) :
    Ret Try.prog 11 #[.pointer (some ⟨wb, 0, none⟩), .string id] w fun v w' => v = .int .i64 (remE M id) ∧ ∃ B', IsW w' wb now (remM M id) B' ∧ Kept B w w' ∧ Grew w B B' := by
  obtain ⟨mb, H, sl, kv, h1, h2, h3⟩ := W.ex
  have same : ∀ {e : Nat}, e ≠ 0 → remE M id = e → (Value.int .i64 e = .int .i64 (remE M id) ∧ ∃ B', IsW w wb now (remM M id) B' ∧ Kept B w w ∧ Grew w B B') := fun h0 he => by
    have : remM M id = M := by unfold remM; rw [he, if_neg h0]
    rw [this, he]
    exact ⟨rfl, B, W, Kept.refl _ _, fun b h => .inl h⟩
  refine ret_of (vs := [_, _]) Try.func11 rfl Try.ntmps11 rfl fun _ => ?_
  refine q_seq (q_reg (s_get rfl (e_assign rfl) (s_end (x_then ?_))))
  refine q_seq (q_seq (q_reg (s_get rfl (e_move rfl) (s_get rfl (e_pnil rfl rfl) (s_end (x_then ?_))))))
  refine q_no rfl (q_skip (x_then ?_))
  refine q_seq (q_reg (s_get rfl (e_move rfl) (s_get rfl (e_move rfl) (s_call rfl (e_fn rfl) (find_ret h1 id) ?_))))
  rintro _ w ⟨rfl, h⟩
  rcases h with ⟨hid, rfl⟩ | ⟨hid, hno, rfl⟩ | ⟨hid, t, ht, rfl, rfl⟩
  ·
    refine s_get rfl (e_move rfl) (s_get rfl (e_ext rfl rfl) (s_get rfl (e_ext rfl rfl) (s_get rfl (e_assign rfl) (s_get rfl (e_assign rfl) (s_end (x_then ?_))))))
    refine q_seq (q_seq (q_reg (s_get rfl (e_move rfl) (s_get rfl (yes (e_neq rfl rfl) (by first | omega | (dsimp only; omega))) (s_end (x_then ?_))))))
    refine q_yes rfl ?_
    refine q_seq (q_reg (s_get rfl (e_move rfl) (s_get rfl (e_assign rfl) (s_end (x_then ?_)))))
    exact q_ret (x_ret1 (.inl rfl) rfl rfl (same (by decide) (by simp [remE, hid])))
  ·
    refine s_get rfl (e_move rfl) (s_get rfl (e_ext rfl rfl) (s_get rfl (e_ext rfl rfl) (s_get rfl (e_assign rfl) (s_get rfl (e_assign rfl) (s_end (x_then ?_))))))
    refine q_seq (q_seq (q_reg (s_get rfl (e_move rfl) (s_get rfl (yes (e_neq rfl rfl) (by first | omega | (dsimp only; omega))) (s_end (x_then ?_))))))
    refine q_yes rfl ?_
    refine q_seq (q_reg (s_get rfl (e_move rfl) (s_get rfl (e_assign rfl) (s_end (x_then ?_)))))
    exact q_ret (x_ret1 (.inl rfl) rfl rfl (same (by decide) (by simp [remE, hid, atOf_perm_no h2 hno])))
  ·
    refine s_get rfl (e_move rfl) (s_get rfl (e_ext rfl rfl) (s_get rfl (e_ext rfl rfl) (s_get rfl (e_assign rfl) (s_get rfl (e_assign rfl) (s_end (x_then ?_))))))
    refine q_seq (q_seq (q_reg (s_get rfl (e_move rfl) (s_get rfl (nay (e_neq rfl rfl) (by first | omega | (dsimp only; omega))) (s_end (x_then ?_))))))
    refine q_no rfl (q_skip (x_then ?_))
    have hE : remE M t.id = 0 := by simp [remE, hid, atOf_perm h1.idn h2 ht]
    have hcall := unhang_ok h1.R ht h1.ln
    refine q_seq (q_reg (s_get rfl (e_move rfl) (s_get rfl (e_move rfl) (s_call rfl (e_fn rfl) hcall ?_))))
    rintro _ w2 ⟨rfl, R2, T2, K2⟩
    have hm2 := h1.m.kept K2 fun h => by
      rcases h with h | ⟨u, hu, h⟩
      · exact h1.R.wm h.symm
      · exact (h1.R.ap u hu).2.1 h
    refine s_end (x_then ?_)
    obtain ⟨o, hset, hm3⟩ := dele_ex (P := Try.prog) (T := 74) hm2 t.id
    refine q_seq (q_reg (s_get rfl (e_move rfl) (s_get rfl (e_nil rfl) (s_get rfl (e_fld rfl) (s_get rfl (e_ld rfl R2.blk.cm) (s_get rfl (e_move rfl) (s_val0 (e_del rfl rfl hset) (s_end (x_then ?_)))))))))
    refine q_seq (q_reg (s_get rfl (e_assign rfl) (s_end (x_then ?_))))
    refine q_ret (x_ret1 (.inl rfl) rfl rfl ⟨by rw [hE]; rfl, ?_⟩)
    have : remM M t.id = cut t.id M := by unfold remM; rw [hE, if_pos rfl]
    rw [this]
    exact Whl.removed h1 h2 h3 W.srt ht R2 K2 rfl hm3

theorem Whl.changed (h1 : Whl w wb mb now H sl kv) (h2 : (H.map pr).Perm M) (h3 : ∀ b, B b ↔ own wb mb H b) (hs : Srt M) {t : Tm} (ht : t ∈ H) {n : Nat} (hn : now < n) {w2 w3 w4 : World} {sl' : Nat → Nat → List Tm}
    (K2 : Kept (isB wb H) w w2) (hw3 : w3 = w2.setCell ⟨t.b, 1, none⟩ (.int .i64 n)) (R4 : Rings w4 wb mb now (setRing { t with at_ := n } (level n now) :: H.filter (notB t.b)) sl')
    (K4 : Kept (fun b => isB wb (H.filter (notB t.b)) b ∨ b = t.b) w3 w4) :
    ∃ B', IsW w4 wb now (ins (t.id, n) (cut t.id M)) B' ∧ Kept B w w4 ∧ Grew w B B' := by
  have hln := filter_len1 h1.R.nd ht
  have hl := h1.ln
  obtain ⟨e1, e2, _, _⟩ := h1.R.ap t ht
  have hno : ∀ b, isB wb H b → b ≠ mb := fun b hb e => by
    rcases hb with h | ⟨u, hu, h⟩
    · exact h1.R.wm (h.symm.trans e)
    · exact (h1.R.ap u hu).2.1 (h.trans e)
  have hm2 := h1.m.kept K2 fun h => hno _ h rfl
  have K3 : Kept (isB wb H) w2 w3 := by rw [hw3]; exact Kept.setCell _ _ _ (.inr ⟨t, ht, rfl⟩)
  have K4' : Kept (isB wb H) w3 w4 := K4.mono fun b _ hb => by
    rcases hb with (h | ⟨u, hu, h⟩) | h
    · exact .inl h
    · exact .inr ⟨u, (List.mem_filter.1 hu).1, h⟩
    · exact .inr ⟨t, ht, h.symm⟩
  have K : Kept (isB wb H) w w4 := (K2.trans K3 fun _ _ h => h).trans K4' fun _ _ h => h
  have hm4 := h1.m.kept K fun h => hno _ h rfl
  have hkp : kv.Perm ((setRing { t with at_ := n } (level n now) :: H.filter (notB t.b)).map kvOf) := by
    have : (H.map kvOf).Perm ((t :: H.filter (notB t.b)).map kvOf) := by
      refine List.Perm.map _ ?_
      obtain ⟨A, C, rfl⟩ := List.append_of_mem ht
      rw [filter_notB h1.R.nd]
      exact List.perm_middle
    exact h1.kp.trans this
  have hid := filter_no h1.idn h1.R.nd ht
  have hcut : atOf t.id (cut t.id M) = none := atOf_cut_self _ _
  refine ⟨own wb mb (setRing { t with at_ := n } (level n now) :: H.filter (notB t.b)), ⟨⟨mb, _, _, _, ⟨R4, hm4, hkp, ?_, ?_, h1.nw, by simp; omega⟩, ?_, fun _ => Iff.rfl⟩, ins_srt (cut_srt hs) (not_mem_of_none hcut _)⟩, K.mono fun b _ hb => (h3 b).2 (isB_own hb), fun b hb => .inl ((h3 b).2 ?_)⟩
  · simp only [List.map_cons, List.nodup_cons]
    refine ⟨fun h => ?_, filter_idn h1.idn⟩
    obtain ⟨u, hu, e⟩ := List.mem_map.1 h
    exact hid u hu e
  · intro u hu
    rcases List.mem_cons.1 hu with rfl | hu
    · exact ⟨rfl, hn, (h1.al t ht).2.2⟩
    · exact h1.al u (List.mem_filter.1 hu).1
  · exact ((perm_cut h1.idn h1.R.nd h2 ht).cons (t.id, n)).trans (ins_perm _ _).symm
  · rcases hb with h | h | ⟨u, hu, h⟩
    · exact .inl h
    · exact .inr (.inl h)
    · rcases List.mem_cons.1 hu with rfl | hu
      · exact .inr (.inr ⟨t, ht, h⟩)
      · exact .inr (.inr ⟨u, (List.mem_filter.1 hu).1, h⟩)
theorem TBlk.time {t : Tm} {p q : Option Nat} (h : TBlk w t p q) (n : Nat) : TBlk (w.setCell ⟨t.b, 1, none⟩ (.int .i64 n)) { t with at_ := n } p q := by
  unfold TBlk at *
  rw [Base.heap_setCell_same h]; rfl
theorem hung_at {t : Tm} (R2 : Rings w wb mb now (H.filter (notB t.b)) sl) {p q : Option Nat} (T2 : TBlk w t p q) (htw : t.b ≠ wb) (htm : t.b ≠ mb) {n : Nat} (hn : n ≤ 1099511627776) (hnow : now ≤ 1099511627776) (hl : H.length ≤ 4096) :
    Ret Try.prog 29 #[.pointer (some ⟨wb, 0, none⟩), .pointer (some ⟨t.b, 0, none⟩)] (w.setCell ⟨t.b, 1, none⟩ (.int .i64 n)) fun v w' => v = .tuple #[] ∧
      Rings w' wb mb now (setRing { t with at_ := n } (level n now) :: H.filter (notB t.b)) (slAdd sl (setRing { t with at_ := n } (level n now))) ∧ Kept (fun b => isB wb (H.filter (notB t.b)) b ∨ b = t.b) (w.setCell ⟨t.b, 1, none⟩ (.int .i64 n)) w' := by
  have hnt : ∀ u ∈ H.filter (notB t.b), u.b ≠ t.b := fun u hu => by
    have := (List.mem_filter.1 hu).2
    simpa [notB] using this
  have R3 : Rings (w.setCell ⟨t.b, 1, none⟩ (.int .i64 n)) wb mb now (H.filter (notB t.b)) sl := R2.same (Base.heap_setCell_other _ (Ne.symm htw)) fun u hu => Base.heap_setCell_other _ (hnt u hu)
  have hle : (H.filter (notB t.b)).length ≤ H.length := List.length_filter_le _ _
  exact hang_ok (t := { t with at_ := n }) R3 (T2.time n) hnt htw htm hn hnow (by omega)

theorem change_ret (W : IsW w wb now M B) (id : ByteArray) (t' : Int) :
    Ret Try.prog 10 #[.pointer (some ⟨wb, 0, none⟩), .string id, .int .i64 t'] w fun v w' => v = .int .i64 (chgE now M id t') ∧ ∃ B', IsW w' wb now (chgM now M id t') B' ∧ Kept B w w' ∧ Grew w B B' := by
  obtain ⟨mb, H, sl, kv, h1, h2, h3⟩ := W.ex
  have same : ∀ {e : Nat}, e ≠ 0 → chgE now M id t' = e → (Value.int .i64 e = .int .i64 (chgE now M id t') ∧ ∃ B', IsW w wb now (chgM now M id t') B' ∧ Kept B w w ∧ Grew w B B') := fun h0 he => by
    have : chgM now M id t' = M := by unfold chgM; rw [he, if_neg h0]
    rw [this, he]
    exact ⟨rfl, B, W, Kept.refl _ _, fun b h => .inl h⟩
  refine ret_of (vs := [_, _, _]) Try.func10 rfl Try.ntmps10 rfl fun _ => ?_
  refine q_seq (q_reg (s_get rfl (e_assign rfl) (s_end (x_then ?_))))
  refine q_seq (q_seq (q_reg (s_get rfl (e_move rfl) (s_get rfl (e_pnil rfl rfl) (s_end (x_then ?_))))))
  refine q_no rfl (q_skip (x_then ?_))
  refine q_seq (q_reg (s_get rfl (e_move rfl) (s_get rfl (e_move rfl) (s_call rfl (e_fn rfl) (find_ret h1 id) ?_))))
  rintro _ w ⟨rfl, h⟩
  rcases h with ⟨hid, rfl⟩ | ⟨hid, hno, rfl⟩ | ⟨hid, t, ht, rfl, rfl⟩
  ·
    refine s_get rfl (e_move rfl) (s_get rfl (e_ext rfl rfl) (s_get rfl (e_ext rfl rfl) (s_get rfl (e_assign rfl) (s_get rfl (e_assign rfl) (s_end (x_then ?_))))))
    refine q_seq (q_seq (q_reg (s_get rfl (e_move rfl) (s_get rfl (yes (e_neq rfl rfl) (by first | omega | (dsimp only; omega))) (s_end (x_then ?_))))))
    refine q_yes rfl ?_
    refine q_seq (q_reg (s_get rfl (e_move rfl) (s_get rfl (e_assign rfl) (s_end (x_then ?_)))))
    exact q_ret (x_ret1 (.inl rfl) rfl rfl (same (by decide) (by simp [chgE, hid])))
  ·
    refine s_get rfl (e_move rfl) (s_get rfl (e_ext rfl rfl) (s_get rfl (e_ext rfl rfl) (s_get rfl (e_assign rfl) (s_get rfl (e_assign rfl) (s_end (x_then ?_))))))
    refine q_seq (q_seq (q_reg (s_get rfl (e_move rfl) (s_get rfl (yes (e_neq rfl rfl) (by first | omega | (dsimp only; omega))) (s_end (x_then ?_))))))
    refine q_yes rfl ?_
    refine q_seq (q_reg (s_get rfl (e_move rfl) (s_get rfl (e_assign rfl) (s_end (x_then ?_)))))
    exact q_ret (x_ret1 (.inl rfl) rfl rfl (same (by decide) (by simp [chgE, hid, atOf_perm_no h2 hno])))
  ·
    refine s_get rfl (e_move rfl) (s_get rfl (e_ext rfl rfl) (s_get rfl (e_ext rfl rfl) (s_get rfl (e_assign rfl) (s_get rfl (e_assign rfl) (s_end (x_then ?_))))))
    refine q_seq (q_seq (q_reg (s_get rfl (e_move rfl) (s_get rfl (nay (e_neq rfl rfl) (by first | omega | (dsimp only; omega))) (s_end (x_then ?_))))))
    refine q_no rfl (q_skip (x_then ?_))
    have hA : chgE now M t.id t' = aheadE now t' := by simp [chgE, hid, atOf_perm h1.idn h2 ht]
    refine q_seq (q_seq (q_reg (s_get rfl (e_move rfl) (s_get rfl (e_move rfl) (s_call rfl (e_fn rfl) (ahead_ret t' _ h1.R.blk.c0) ?_)))))
    rintro _ w ⟨rfl, rfl⟩
    refine s_get rfl (e_assign rfl) (s_end (x_then ?_))
    refine q_seq (q_reg (s_get rfl (e_move rfl) (s_get rfl (e_neq rfl rfl) (s_end (x_then ?_)))))
    refine q_dec rfl (fun h => ?_) fun h => ?_
    ·
      refine q_seq (q_reg (s_get rfl (e_move rfl) (s_get rfl (e_assign rfl) (s_end (x_then ?_)))))
      have h0 : aheadE now t' ≠ 0 := by omega
      exact q_ret (x_ret1 (.inl rfl) rfl rfl (same h0 hA))
    have h0 : aheadE now t' = 0 := by omega
    refine q_skip (x_then ?_)
    obtain ⟨m, rfl, hlt, hle⟩ := aheadE_zero h0
    have hcall := unhang_ok h1.R ht h1.ln
    refine q_seq (q_reg (s_get rfl (e_move rfl) (s_get rfl (e_move rfl) (s_call rfl (e_fn rfl) hcall ?_))))
    rintro _ w2 ⟨rfl, R2, ⟨p, q, T2⟩, K2⟩
    refine s_end (x_then ?_)
    refine q_seq (q_reg (s_get rfl (e_move rfl) (s_get rfl (e_move rfl) (s_get rfl (e_nil rfl) (s_get rfl (e_fld rfl) (s_set (e_st rfl rfl rfl T2.c.2.1 (T2.c.2.2.2.2.2 1)) (s_end (x_then ?_))))))))
    obtain ⟨e1, e2, _, _⟩ := h1.R.ap t ht
    have hcall := hung_at R2 T2 e1 e2 hle h1.nw h1.ln
    refine q_seq (q_reg (s_get rfl (e_move rfl) (s_get rfl (e_move rfl) (s_call rfl (e_fn rfl) hcall ?_))))
    rintro _ w4 ⟨rfl, R4, K4⟩
    refine s_end (x_then ?_)
    refine q_seq (q_reg (s_get rfl (e_assign rfl) (s_end (x_then ?_))))
    refine q_ret (x_ret1 (.inl rfl) rfl rfl ⟨by rw [hA, h0]; rfl, ?_⟩)
    have : chgM now M t.id m = ins (t.id, m) (cut t.id M) := by unfold chgM; rw [hA, h0, if_pos rfl]; rfl
    rw [this]
    exact Whl.changed h1 h2 h3 W.srt ht hlt K2 rfl R4 K4
end Go.Proofs.Ytogfllhbgkeinaa.Wheel

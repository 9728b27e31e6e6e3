/-
  Advance, walked.
-/
import Derived.Test.YtogfllhbgkeinaaOrd
set_option linter.unusedVariables false
set_option linter.unusedSimpArgs false
namespace Go.Proofs.Ytogfllhbgkeinaa.Wheel
open Go.RowKit Base Lev Wa Eng Wb Spc
open Go.ChangeMaps (setBlock)
variable {w w0 : World} {wb mb now to : Nat} {H F Hs Hc : List Tm} {sl slc : Nat → Nat → List Tm} {kv : KV} {M : List Ent} {B : Nat → Prop} {a : Option Addr} {cap : Nat}

def strs (l : List ByteArray) : List Value := l.map fun s => .string s
theorem strs_one (l : List ByteArray) : ∀ v ∈ strs l, v.oneCell' = true := fun v hv => by
  obtain ⟨s, _, rfl⟩ := List.mem_map.1 hv; rfl
theorem Rings.clock (R : Rings w wb mb now H sl) (n : Nat) : Rings (w.setCell ⟨wb, 0, none⟩ (.int .i64 n)) wb mb n H sl :=
  ⟨R.blk.clock n, fun r hr k hk => (R.ch r hr k hk).same fun t ht => Base.heap_setCell_other _ (R.ap t ((R.slot_mem hr hk).1 ht).1).1, R.perm, R.nd, R.ap, R.wm⟩
theorem Whl.ph0 (h1 : Whl w wb mb now H sl kv) (p : H.Perm (F ++ Hs)) (hto : to ≤ 1099511627776) (hs : ∀ t ∈ Hs, t.ring = level t.at_ to ∧ to < t.at_) : Ph0 w wb mb now to H F Hs :=
  ⟨p, h1.R.nd, h1.idn, fun x hx => h1.lt hx, fun t ht => ⟨(h1.R.ap t ht).1, (h1.R.ap t ht).2.1, (h1.R.ap t ht).2.2.2, (h1.al t ht).2.2⟩, hs, hto, h1.R.wm, h1.ln⟩
theorem Ph1.stays (h1 : Whl w0 wb mb now H sl kv) (h : Ph1 w0 w wb mb now H F a cap Hc slc) (hle : now ≤ to) (hp : ∀ t ∈ Hc, Wheel.stays to (level to now) t) : ∀ t ∈ Hc, t.ring = level t.at_ to ∧ to < t.at_ := fun t ht => by
  have htH : t ∈ H := h.p.mem_iff.2 (List.mem_append.2 (.inr ht))
  obtain ⟨e1, e2, _⟩ := h1.al t htH
  rcases hp t ht with g | ⟨g1, g2⟩
  · rw [e1] at g
    obtain ⟨k1, k2⟩ := far_stays e2 g
    exact ⟨by rw [e1, k1], k2⟩
  · rw [e1] at g1
    obtain ⟨k1, k2⟩ := high_stays g1 g2
    exact ⟨by rw [e1, k1], k2⟩
theorem Ph2.start (S : Ph0 w0 wb mb now to H F Hs) (h1 : Whl w0 wb mb now H sl kv) (h : Ph1 w0 w wb mb now H F a cap Hs slc) : Ph2 w0 (w.setCell ⟨wb, 0, none⟩ (.int .i64 to)) wb mb to H [] F Hs a cap none 0 Hs slc kv := by
  have K : Kept (fun x => x = wb) w (w.setCell ⟨wb, 0, none⟩ (.int .i64 to)) := Kept.setCell _ _ _ rfl
  obtain ⟨b, hs, hb⟩ := h.s
  have hwb : wb < w0.heap.size := S.lt wb (.inl rfl)
  refine ⟨h.R.clock to, (h1.m.kept h.k fun e => ?_).kept K fun e => S.wm e.symm, ?_, .refl _, fun t ht => ?_, fun t ht => (by cases ht), ⟨b, none, hs.kept K fun x hx e => ?_, .nil, fun x hx => ⟨hb x hx, by simp⟩, fun x hx => by cases hx⟩, (h.k.mono fun x _ hx => ?_).trans K fun x _ e => .inl e⟩
  · rcases e with e | ⟨u, hu, e⟩
    · exact S.wm e.symm
    · exact (S.ap u hu).2.1 e
  · exact h1.kp.trans (S.p.map kvOf)
  · obtain ⟨p, q, hT⟩ := h.f t ht
    exact ⟨p, q, hT.other (S.ap t (S.inH ht)).1⟩
  · have := hb x hx; omega
  · exact isB_own hx
/-- the wheel at the end -/
theorem Ph2.done (S : Ph0 w0 wb mb now to H F Hs) (h2 : (H.map pr).Perm M) (hs : Srt M) {fa : Option Addr} {fcap : Nat} {H2 : List Tm} {sl2 : Nat → Nat → List Tm} {kv2 : KV} {F1 : List Tm} (hF : F1 ++ [] = F) (h : Ph2 w0 w wb mb to H F1 [] Hs fa fcap a cap H2 sl2 kv2) :
    IsW w wb to (M.dropWhile fun e => decide (e.2 ≤ to)) (own wb mb H2) ∧ (∀ b, own wb mb H2 b → own wb mb H b) ∧ ((F1.filter (lapsed to)).map pr).Perm (M.takeWhile fun e => decide (e.2 ≤ to)) := by
  subst hF
  have hlen := h.len2 S
  have hids : (H2.map (·.id)).Nodup := by
    have h1 := S.id2
    have h3 : (H2.map (·.id)).Perm (((F1.filter (live to)).map (again to) ++ Hs).map (·.id)) := h.p.map _
    rw [h3.nodup_iff]
    have h4 : (((F1.filter (live to)).map (again to) ++ Hs).map (·.id)) = ((F1.filter (live to)) ++ Hs).map (·.id) := by simp [again, setRing]
    rw [h4]
    rw [List.append_nil] at h1
    exact ((List.filter_sublist.append_right _).map _).nodup h1
  have hpm : (H2.map pr).Perm ((F1.filter (live to) ++ Hs).map pr) := by
    refine (h.p.map pr).trans ?_
    have : (((F1.filter (live to)).map (again to) ++ Hs).map pr) = ((F1.filter (live to)) ++ Hs).map pr := by simp [again, setRing, pr]
    rw [this]
  have hHs : Hs.filter (live to) = Hs := List.filter_eq_self.2 fun t ht => by
    have := (S.hs t ht).2
    simp [live]; omega
  have hHs2 : Hs.filter (lapsed to) = [] := List.filter_eq_nil_iff.2 fun t ht => by
    have := (S.hs t ht).2
    simp [lapsed]; omega
  have hSp : (H.map pr).Perm ((F1 ++ Hs).map pr) := by
    have := S.p.map pr
    rwa [List.append_nil] at this
  refine ⟨⟨⟨mb, H2, sl2, kv2, ⟨h.R, h.m, h.kp, hids, fun u hu => ?_, S.nw, by have := S.ln; omega⟩, ?_, fun _ => Iff.rfl⟩, ?_⟩, fun b hb => ?_, ?_⟩
  · obtain ⟨t, ht, e1, e2, e3, e4, e5⟩ := h.src S hu
    refine ⟨by rw [e4, e3], by rw [e3]; exact e5, ?_⟩
    rw [e2]
    refine (S.ap t ?_).2.2.2
    rcases ht with ⟨ht, _⟩ | ht
    · exact S.inH (List.mem_append.2 (.inl ht))
    · exact S.inS ht
  · rw [← kept_drop hs]
    refine hpm.trans ?_
    have e1 : (F1.filter (live to) ++ Hs).map pr = ((F1 ++ Hs).map pr).filter fun e => !decide (e.2 ≤ to) := by
      rw [List.filter_map, List.filter_append]
      have : ((fun e : Ent => !decide (e.2 ≤ to)) ∘ pr) = live to := rfl
      rw [this, hHs]
    rw [e1]
    exact (hSp.symm.trans h2).filter _
  · exact List.Pairwise.sublist (List.dropWhile_sublist _) hs
  · rcases hb with e | e | ⟨u, hu, e⟩
    · exact .inl e
    · exact .inr (.inl e)
    · exact e ▸ h.own2 S hu
  · rw [← lapsed_take hs]
    have e1 : (F1.filter (lapsed to)).map pr = ((F1 ++ Hs).map pr).filter fun e => decide (e.2 ≤ to) := by
      rw [List.filter_map, List.filter_append]
      have : ((fun e : Ent => decide (e.2 ≤ to)) ∘ pr) = lapsed to := rfl
      rw [this, hHs2, List.append_nil]
    rw [e1]
    exact (hSp.symm.trans h2).filter _

def advE (now : Nat) (t : Int) : Nat := if isTime t = true then if t < now then 110 else 0 else 2
theorem advance_bad (W : IsW w wb now M B) (t : Int) (h : advE now t ≠ 0) : Ret Try.prog 15 #[.pointer (some ⟨wb, 0, none⟩), .int .i64 t] w fun v w' => v = .tuple #[.slice none 0 0, .int .i64 (advE now t)] ∧ w' = w := by
  obtain ⟨mb, H, sl, kv, h1, h2, h3⟩ := W.ex
  refine ret_of (vs := [_, _]) Try.func15 rfl Try.ntmps15 rfl fun _ => ?_
  refine q_seq (q_reg (s_get rfl (e_assign rfl) (s_get rfl (e_assign rfl) (s_end (x_then ?_)))))
  refine q_scope ?_
  refine q_seq (q_block ?_)
  refine q_seq (q_reg (s_get rfl (e_move rfl) (s_get rfl (e_pnil rfl rfl) (s_get rfl (e_assign rfl) (s_end (x_then ?_))))))
  refine q_no rfl ?_
  refine q_seq (q_reg (s_get rfl (e_move rfl) (s_call rfl (e_fn rfl) (isTime_ret t w) ?_)))
  rintro _ w ⟨rfl, rfl⟩
  refine s_get rfl (e_not rfl) (s_get rfl (e_assign rfl) (s_end (x_then ?_)))
  unfold advE at *
  cases hid : isTime t with
  | false =>
    refine q_yes rfl ?_
    refine q_seq (q_reg (s_get rfl (e_assign rfl) (s_get rfl (e_assign rfl) (s_end (x_then ?_)))))
    exact q_ret (x_block_ret (x_then_ret (x_scope_ret (x_ret2 (.inl rfl) rfl rfl rfl ⟨by simp, rfl⟩))))
  | true =>
    refine q_no rfl ?_
    refine q_seq (q_reg (s_get rfl (e_move rfl) (s_get rfl (e_move rfl) (s_get rfl (e_nil rfl) (s_get rfl (e_fld rfl) (s_get rfl (e_ld rfl h1.R.blk.c0) (s_get rfl (e_lss rfl rfl) (s_get rfl (e_assign rfl) (s_end (x_then ?_))))))))))
    refine q_dec rfl (fun h' => ?_) fun h' => ?_
    ·
      refine q_seq (q_reg (s_get rfl (e_assign rfl) (s_get rfl (e_assign rfl) (s_end (x_then ?_)))))
      exact q_ret (x_block_ret (x_then_ret (x_scope_ret (x_ret2 (.inl rfl) rfl rfl rfl ⟨by simp [h'], rfl⟩))))
    · exfalso; exact h (by simp [hid, h'])
theorem past_skip {m r : Nat} (hr : r ≤ m) (hp : past to m r Hc) (hz : ((Hc.filter (inRing r)).length : Int) = 0) : past to m (r + 1) Hc := fun t ht => by
  have h1 := (hp t ht).1 hr
  have h2 : t.ring ≠ r := fun e => by
    have : t ∈ Hc.filter (inRing r) := List.mem_filter.2 ⟨ht, by simp [inRing, e]⟩
    rw [List.eq_nil_of_length_eq_zero (l := Hc.filter (inRing r)) (by omega)] at this
    cases this
  exact ⟨fun h => by omega, fun h => .inl (by omega)⟩
def mid (r k : Nat) (Hc : List Tm) : Prop := ∀ t ∈ Hc, r ≤ t.ring ∧ (t.ring = r → k ≤ digit r t.at_)
theorem mid_end {m r last : Nat} (hl : last = if r = m then digit m to else 63) (hr : r ≤ m) (hp : mid r (last + 1) Hc) : past to m (r + 1) Hc := fun t ht => by
  obtain ⟨h1, h2⟩ := hp t ht
  have hd := digit_lt r t.at_
  by_cases e : r = m
  · subst e
    rw [if_pos rfl] at hl
    refine ⟨fun h => by omega, fun _ => ?_⟩
    by_cases e2 : t.ring = r
    · exact .inr ⟨e2, by have := h2 e2; omega⟩
    · exact .inl (by omega)
  · rw [if_neg e] at hl
    have : t.ring ≠ r := fun g => by have := h2 g; omega
    exact ⟨fun h => by omega, fun h => by omega⟩
set_option maxHeartbeats 1000000 in
theorem advance_ok (W : IsW w wb now M B) (to : Nat) (h : advE now to = 0) : Ret Try.prog 15 #[.pointer (some ⟨wb, 0, none⟩), .int .i64 to] w fun v w' =>
    ∃ a n cap b B', v = .tuple #[.slice a n cap, .int .i64 0] ∧ n = (M.takeWhile fun e => decide (e.2 ≤ to)).length ∧ Sl w' 9 1 a n cap (strs ((M.takeWhile fun e => decide (e.2 ≤ to)).map (·.1))) b ∧
      (∀ x ∈ b, w.heap.size ≤ x) ∧ IsW w' wb to (M.dropWhile fun e => decide (e.2 ≤ to)) B' ∧ Kept B w w' ∧ ∀ x, B' x → B x := by
  obtain ⟨mb, H, sl, kv, h1, h2, h3⟩ := W.ex
  have hT : isTime (to : Int) = true := by
    unfold advE at h
    cases hid : isTime (to : Int) with
    | true => rfl
    | false => rw [hid] at h; simp at h
  have hle : now ≤ to := by
    unfold advE at h
    rw [hT] at h
    simp only [if_true] at h
    split at h
    · cases h
    · omega
  obtain ⟨m', hm', hto⟩ := isTime_nat hT
  obtain rfl : to = m' := by omega
  have hmv : level to now ≤ 6 := level_small (by have := hto; omega) (by have := h1.nw; omega)
  generalize hmE : level to now = m at hmv
  refine ret_of (vs := [_, _]) Try.func15 rfl Try.ntmps15 rfl fun _ => ?_
  refine q_seq (q_reg (s_get rfl (e_assign rfl) (s_get rfl (e_assign rfl) (s_end (x_then ?_)))))
  refine q_scope ?_
  refine q_seq (q_block ?_)
  refine q_seq (q_reg (s_get rfl (e_move rfl) (s_get rfl (e_pnil rfl rfl) (s_get rfl (e_assign rfl) (s_end (x_then ?_))))))
  refine q_no rfl ?_
  refine q_seq (q_reg (s_get rfl (e_move rfl) (s_call rfl (e_fn rfl) (isTime_ret to w) ?_)))
  rintro _ w ⟨rfl, rfl⟩
  refine s_get rfl (e_not rfl) (s_get rfl (e_assign rfl) (s_end (x_then ?_)))
  rw [hT]
  refine q_no rfl ?_
  refine q_seq (q_reg (s_get rfl (e_move rfl) (s_get rfl (e_move rfl) (s_get rfl (e_nil rfl) (s_get rfl (e_fld rfl) (s_get rfl (e_ld rfl h1.R.blk.c0) (s_get rfl (e_lss rfl rfl) (s_get rfl (e_assign rfl) (s_end (x_then ?_))))))))))
  refine q_neg rfl (by omega) ?_
  refine q_skip (x_block_normal (x_then ?_))
  have hcall := level_ret to now w (by omega) (by have := h1.nw; omega)
  refine q_seq (q_reg (s_get rfl (e_move rfl) (s_get rfl (e_move rfl) (s_get rfl (e_nil rfl) (s_get rfl (e_fld rfl) (s_get rfl (e_ld rfl h1.R.blk.c0) (s_call rfl (e_fn rfl) hcall ?_)))))))
  rintro _ w ⟨rfl, rfl⟩
  rw [hmE]
  refine s_get rfl (e_assign rfl) (s_end (x_then ?_))
  refine q_seq (q_reg (s_get rfl (e_assign rfl) (s_end (x_then ?_))))
  refine q_seq (q_label (x_then ?_))
  refine q_seq (q_seq (q_reg (s_get rfl (e_assign rfl) (s_end (x_then ?_)))))
  have hn := h1.R.nd
  have hlt : ∀ t ∈ H, t.b < w.heap.size := fun t ht => h1.R.lt_t ht
  have hwb := h1.lt_wb
  have hHl := h1.ln
  refine q_block ?_
  refine q_loop (α := Nat × List Tm × Option Addr × Nat) (fun x => [(0, .pointer (some ⟨wb, 0, none⟩)), (1, .int .i64 (to : Nat)), (6, .int .i64 (m : Nat)), (7, .slice x.2.2.1 x.2.1.length x.2.2.2), (8, .int .i64 (x.1 : Nat))])
    (fun x w' => ∃ Hc slc, Ph1 w w' wb mb now H x.2.1 x.2.2.1 x.2.2.2 Hc slc ∧ x.1 ≤ m + 1 ∧ past to m x.1 Hc) (fun x => m + 1 - x.1) (0, [], none, 0) ⟨rfl, rfl, rfl, rfl, rfl, trivial⟩ ⟨H, sl, Ph1.start h1, by omega, fun t _ => ⟨fun _ => Nat.zero_le _, fun h => (by omega)⟩⟩ ?_
  rintro ⟨r, F, fa, fcap⟩ w1 ⟨Hc, slc, ph, hr, hpast⟩
  simp only at ph hr hpast
  refine q_seq (q_seq (q_reg (s_get rfl (e_move rfl) (s_get rfl (e_move rfl) (s_get rfl (e_leq rfl rfl) (s_end (x_then ?_)))))))
  refine q_dec rfl (fun hrm => ?_) fun hrm => ?_
  · have hrm : r ≤ m := by omega
    have hr7 : r < 7 := by omega
    refine q_skip (x_then ?_)
    refine q_seq (q_block ?_)
    refine q_seq (q_seq (q_reg (s_get rfl (e_move rfl) (s_get rfl (e_move rfl) (s_get rfl (e_nil rfl) (s_get rfl (e_fld rfl) (s_get rfl (e_idxaAt (449+r) rfl rfl (by first | omega | (dsimp only; omega)) (by first | omega | (dsimp only; omega)) (by first | omega | (dsimp only; omega))) (s_get rfl (e_ld rfl (ph.R.blk.cn hr7)) (s_get rfl (e_eql rfl rfl) (s_end (x_then ?_)))))))))))
    refine q_dec rfl (fun hz => ?_) fun hz => ?_
    · refine q_exit (x_then_exit (x_block_exit (x_then ?_)))
      refine q_reg (s_get rfl (e_move rfl) (s_get rfl (e_add rfl rfl (by first | omega | (dsimp only; omega))) (s_get rfl (e_assign rfl) (s_end ?_))))
      exact x_again (r + 1, F, fa, fcap) ⟨rfl, rfl, rfl, rfl, rfl, trivial⟩ ⟨Hc, slc, ph, by simp only []; omega, past_skip hrm hpast hz⟩ (by simp only []; omega)
    · refine q_skip (x_then ?_)
      refine q_seq (q_reg (s_get rfl (e_assign rfl) (s_end (x_then ?_))))
      refine q_seq (q_seq (q_reg (s_get rfl (e_move rfl) (s_get rfl (e_move rfl) (s_get rfl (e_eql rfl rfl) (s_end (x_then ?_)))))))
      obtain ⟨last, hlast⟩ : ∃ last, last = if r = m then digit m to else 63 := ⟨_, rfl⟩
      have hl64 : last < 64 := by
        have := digit_lt m to
        split at hlast <;> omega
      refine q_join [(0, .pointer (some ⟨wb, 0, none⟩)), (1, .int .i64 (to : Nat)), (6, .int .i64 (m : Nat)), (7, .slice fa F.length fcap), (8, .int .i64 (r : Nat)), (9, .int .i64 (last : Nat))] w1 ?_ ?_
      · refine q_dec rfl (fun e => ?_) fun e => ?_
        · have e : r = m := by omega
          subst e
          rw [if_pos rfl] at hlast
          have hd := digit_i64 r to (by omega)
          refine q_reg (s_get rfl (e_move rfl) (s_get rfl (e_move rfl) (s_get rfl (e_mul rfl rfl (by first | omega | (dsimp only; omega))) (s_get rfl (e_shr64 rfl rfl (by first | omega | (dsimp only; omega)) (by first | omega | (dsimp only; omega))) (s_get rfl ((e_bits rfl rfl (by simp)).to (congrArg _ hd)) (s_get rfl (e_assign rfl) (s_end (x_join ⟨rfl, rfl, rfl, rfl, rfl, by rw [hlast]; rfl, trivial⟩))))))))
        · have e : r ≠ m := by omega
          rw [if_neg e] at hlast
          exact q_skip (x_join ⟨rfl, rfl, rfl, rfl, rfl, by rw [hlast]; rfl, trivial⟩)
      refine q_seq (q_reg (s_get rfl (e_assign rfl) (s_end (x_then ?_))))
      refine q_block ?_
      refine q_loop (α := Nat × List Tm × Option Addr × Nat) (fun x => [(0, .pointer (some ⟨wb, 0, none⟩)), (1, .int .i64 (to : Nat)), (6, .int .i64 (m : Nat)), (7, .slice x.2.2.1 x.2.1.length x.2.2.2), (8, .int .i64 (r : Nat)), (9, .int .i64 (last : Nat)), (10, .int .i64 (x.1 : Nat))])
        (fun x w' => ∃ Hc slc, Ph1 w w' wb mb now H x.2.1 x.2.2.1 x.2.2.2 Hc slc ∧ x.1 ≤ last + 1 ∧ mid r x.1 Hc) (fun x => last + 1 - x.1) (0, F, fa, fcap) ⟨rfl, rfl, rfl, rfl, rfl, rfl, rfl, trivial⟩ ⟨Hc, slc, ph, by omega, fun t ht => ⟨(hpast t ht).1 hrm, fun _ => Nat.zero_le _⟩⟩ ?_
      clear ph hpast
      rintro ⟨k, F, fa, fcap⟩ w1 ⟨Hc, slc, ph, hk, hmid⟩
      simp only at ph hk hmid
      refine q_seq (q_seq (q_reg (s_get rfl (e_move rfl) (s_get rfl (e_move rfl) (s_get rfl (e_leq rfl rfl) (s_end (x_then ?_)))))))
      refine q_dec rfl (fun hkl => ?_) fun hkl => ?_
      · have hk64 : k < 64 := by omega
        refine q_skip (x_then ?_)
        refine q_seq (q_block ?_)
        refine q_seq (q_reg (s_get rfl (e_move rfl) (s_get rfl (e_move rfl) (s_get rfl (e_move rfl) (s_get rfl (e_nil rfl) (s_get rfl (e_fld rfl) (s_get rfl (e_idxaAt (1+r*64) rfl rfl (by first | omega | (dsimp only; omega)) (by first | omega | (dsimp only; omega)) (by first | omega | (dsimp only; omega))) (s_get rfl (e_idxaAt (1+r*64+k) rfl rfl (by first | omega | (dsimp only; omega)) (by first | omega | (dsimp only; omega)) (by first | omega | (dsimp only; omega))) (s_get rfl (e_fld rfl) (s_get rfl (e_ld rfl (ph.R.blk.cs hr7 hk64)) (s_get rfl (e_assign rfl) (s_end (x_then ?_)))))))))))))
        refine q_block ?_
        refine q_loop (α := List Tm × Option Addr × Nat × Option Nat) (fun x => [(0, .pointer (some ⟨wb, 0, none⟩)), (1, .int .i64 (to : Nat)), (6, .int .i64 (m : Nat)), (7, .slice x.2.1 x.1.length x.2.2.1), (8, .int .i64 (r : Nat)), (9, .int .i64 (last : Nat)), (10, .int .i64 (k : Nat)), (11, ptr x.2.2.2)])
          (fun x w' => ∃ Hc slc, Ph1 w w' wb mb now H x.1 x.2.1 x.2.2.1 Hc slc ∧ x.2.2.2 = nx (slc r k) none ∧ mid r k Hc) (fun x => 4097 - x.1.length) (F, fa, fcap, nx (slc r k) none) ⟨rfl, rfl, rfl, rfl, rfl, rfl, rfl, rfl, trivial⟩ ⟨Hc, slc, ph, rfl, hmid⟩ ?_
        clear ph hmid
        rintro ⟨F, fa, fcap, o⟩ w1 ⟨Hc, slc, ph, ho, hmid⟩
        simp only at ph ho hmid
        subst ho
        have hFl := ph.len
        have hmem : ∀ t, t ∈ slc r k → t ∈ Hc := fun t ht => ((ph.R.slot_mem hr7 hk64).1 ht).1
        cases hL : slc r k with
        | nil =>
          refine q_seq (q_seq (q_reg (s_get rfl (e_move rfl) (s_get rfl (e_pnnil rfl rfl) (s_end (x_then ?_))))))
          refine q_no rfl ?_
          refine q_exit (x_then_exit (x_then_exit (x_block_exit (x_block_normal (x_then ?_)))))
          refine q_reg (s_get rfl (e_move rfl) (s_get rfl (e_add rfl rfl (by first | omega | (dsimp only; omega))) (s_get rfl (e_assign rfl) (s_end ?_))))
          refine x_again (k + 1, F, fa, fcap) ⟨rfl, rfl, rfl, rfl, rfl, rfl, rfl, trivial⟩ ⟨Hc, slc, ph, by simp only []; omega, fun t ht => ?_⟩ (by simp only []; omega)
          obtain ⟨g1, g2⟩ := hmid t ht
          refine ⟨g1, fun e => ?_⟩
          have g3 := g2 e
          have g4 : digit r t.at_ ≠ k := fun e2 => by
            have := (ph.R.slot_mem hr7 hk64).2 ⟨ht, e, e2⟩
            rw [hL] at this; cases this
          show k + 1 ≤ _
          omega
        | cons t L =>
          have ht : t ∈ Hc := hmem t (by rw [hL]; exact List.mem_cons_self)
          refine q_seq (q_seq (q_reg (s_get rfl (e_move rfl) (s_get rfl (e_pnnil rfl rfl) (s_end (x_then ?_))))))
          refine q_yes rfl ?_
          refine q_skip (x_then ?_)
          refine q_seq (q_block ?_)
          have hcall := unhang_ok ph.R ht (by omega)
          refine q_seq (q_reg (s_get rfl (e_move rfl) (s_get rfl (e_move rfl) (s_call rfl (e_fn rfl) hcall ?_))))
          rintro _ w2 ⟨rfl, R2, T2, K2⟩
          refine s_end (x_then ?_)
          obtain ⟨b, s1, hb⟩ := ph.s
          have s2 := s1.kept K2 fun x hx e => by
            have := hb x hx
            rcases e with e | ⟨u, hu, e⟩
            · omega
            · have := hlt u (ph.p.mem_iff.2 (List.mem_append.2 (.inr hu))); omega
          have X3 : Ext w2 (w2.alloc (.cells [ptr (some t.b)].toArray 62)) := (Ext.refl w2).alloc _
          have s3 := s2.ext X3
          have s4 := Sl.made (w := w2) (e := 62) (sz := 1) (cs := ptrs [t]) (len := 1) rfl (ptrs_one [t])
          refine q_reg (s_get rfl (e_move rfl) (s_get rfl (e_move rfl) (s_val rfl (e_buildSlice [ptr (some t.b)] rfl rfl rfl rfl (fill_one rfl rfl)) (s_rel rfl (e_append rfl rfl s3 s4 (by simp only []; omega)) ?_))))
          rintro _ w4 ⟨a', cap', b', rfl, s5, k5, e5⟩
          have ph' := ph.pop hn hlt hwb ht R2 T2 K2 X3 hb s5 k5 e5
          rw [show F.length + 1 = (F ++ [t]).length from by simp]
          refine s_get rfl (e_assign rfl) (s_end (x_block_normal (x_then ?_)))
          refine q_reg (s_get rfl (e_move rfl) (s_get rfl (e_move rfl) (s_get rfl (e_move rfl) (s_get rfl (e_nil rfl) (s_get rfl (e_fld rfl) (s_get rfl (e_idxaAt (1+r*64) rfl rfl (by first | omega | (dsimp only; omega)) (by first | omega | (dsimp only; omega)) (by first | omega | (dsimp only; omega))) (s_get rfl (e_idxaAt (1+r*64+k) rfl rfl (by first | omega | (dsimp only; omega)) (by first | omega | (dsimp only; omega)) (by first | omega | (dsimp only; omega))) (s_get rfl (e_fld rfl) (s_get rfl (e_ld rfl (ph'.R.blk.cs hr7 hk64)) (s_get rfl (e_assign rfl) (s_end ?_)))))))))))
          have hcl : 0 < Hc.length := List.length_pos_of_mem ht
          exact x_again (F ++ [t], a', cap', nx ((slc r k).filter (notB t.b)) none) ⟨rfl, rfl, rfl, rfl, rfl, rfl, rfl, rfl, trivial⟩ ⟨_, _, ph', rfl, fun u hu => hmid u (List.mem_filter.1 hu).1⟩ (by simp only [List.length_append, List.length_singleton]; omega)
      · refine q_exit (x_then_exit (x_then_exit (x_block_exit (x_block_normal (x_then ?_)))))
        refine q_reg (s_get rfl (e_move rfl) (s_get rfl (e_add rfl rfl (by first | omega | (dsimp only; omega))) (s_get rfl (e_assign rfl) (s_end ?_))))
        have hk : k = last + 1 := by omega
        subst hk
        exact x_again (r + 1, F, fa, fcap) ⟨rfl, rfl, rfl, rfl, rfl, trivial⟩ ⟨Hc, slc, ph, by simp only []; omega, mid_end hlast hrm hmid⟩ (by simp only []; omega)
  · refine q_exit (x_then_exit (x_then_exit (x_block_exit (x_then ?_))))
    have hrm : r = m + 1 := by omega
    subst hrm
    have hst := ph.stays h1 hle (by
      intro t ht
      have h := (hpast t ht).2 (by omega)
      rw [hmE]; exact h)
    have S := h1.ph0 ph.p hto hst
    have P2 := Ph2.start S h1 ph
    refine q_seq (q_reg (s_get rfl (e_move rfl) (s_get rfl (e_move rfl) (s_get rfl (e_nil rfl) (s_get rfl (e_fld rfl) (s_set (e_st rfl rfl rfl ph.R.blk.c0 (ph.R.blk.free 0)) (s_end (x_then ?_))))))))
    refine q_seq (q_reg (s_get rfl (e_assign rfl) (s_end (x_then ?_))))
    refine q_seq (q_seq (q_reg (s_get rfl (e_move rfl) (s_get rfl (e_len rfl) (s_get rfl (e_move rfl) (s_end (x_then ?_)))))))
    clear ph hpast
    have hFl := S.p.length_eq
    rw [List.length_append] at hFl
    refine q_block ?_
    refine q_loop (α := List Tm × List Tm × Option Addr × Nat) (fun x => [(0, .pointer (some ⟨wb, 0, none⟩)), (1, .int .i64 (to : Nat)), (94, .slice fa F.length fcap), (95, .int .i64 (F.length : Nat)), (96, .int .i64 (x.1.length : Nat)), (12, .slice x.2.2.1 (x.1.filter (lapsed to)).length x.2.2.2)])
      (fun x w' => F = x.1 ++ x.2.1 ∧ ∃ H2 sl2 kv2, Ph2 w w' wb mb to H x.1 x.2.1 Hc fa fcap x.2.2.1 x.2.2.2 H2 sl2 kv2) (fun x => x.2.1.length) ([], F, none, 0) ⟨rfl, rfl, rfl, rfl, rfl, rfl, trivial⟩ ⟨rfl, Hc, slc, kv, P2⟩ ?_
    clear P2
    rintro ⟨F1, F2, a, cap⟩ w1 ⟨hF, H2, sl2, kv2, P2⟩
    simp only at hF P2
    subst hF
    refine q_seq (q_reg (s_get rfl (e_lss rfl rfl) (s_end (x_then ?_))))
    cases F2 with
    | nil =>
      refine q_seq (q_neg rfl (by simp) ?_)
      refine q_exit (x_then_exit (x_then_exit (x_block_exit (x_then ?_))))
      obtain ⟨W', hown, hD⟩ := P2.done S h2 W.srt rfl
      obtain ⟨fb, db, s1, s2, s3, s4⟩ := P2.s
      have hold : ∀ x, x < w.heap.size → ¬ db = some x := fun x hx e => by
        have := s4 x e; omega
      have hDH : ∀ t ∈ F1.filter (lapsed to), t ∈ H := fun t ht => S.inH (List.mem_append.2 (.inl (List.mem_filter.1 ht).1))
      have hMn : (M.map (·.1)).Nodup := names_of h1.idn h2
      have htn : (M.takeWhile fun e => decide (e.2 ≤ to)).Nodup := (List.takeWhile_sublist _).nodup (map_nodup hMn)
      have hlD : (F1.filter (lapsed to)).length ≤ F1.length := List.length_filter_le _ _
      have hl0 : (F1 ++ ([] : List Tm)).length = F1.length := by simp
      have hcall := sortT_ret s2 P2.d (fun t ht => hold _ (hlt t (hDH t ht))) (hD.nodup_iff.2 htn) (by omega)
      refine q_seq (q_reg (s_get rfl (e_move rfl) (s_call rfl (e_fn rfl) hcall ?_)))
      rintro _ w2 ⟨rfl, D', hp, hsrt, s5, k5⟩
      refine s_end (x_then ?_)
      refine q_seq (q_reg (s_get rfl (e_assign rfl) (s_end (x_then ?_))))
      refine q_seq (q_seq (q_reg (s_get rfl (e_move rfl) (s_get rfl (e_len rfl) (s_get rfl (e_move rfl) (s_end (x_then ?_)))))))
      have hM' : D'.map pr = M.takeWhile fun e => decide (e.2 ≤ to) := srt_eq hsrt (List.Pairwise.sublist (List.takeWhile_sublist _) W.srt) ((hp.map pr).trans hD)
      have hT5 : ∀ t ∈ D', ∃ p q, TBlk w2 t p q := fun t ht => by
        obtain ⟨p, q, hT⟩ := P2.d t (hp.mem_iff.1 ht)
        refine ⟨p, q, ?_⟩
        unfold TBlk at *
        exact k5.at hT (hold _ (hlt t (hDH t (hp.mem_iff.1 ht))))
      have W2 := W'.kept k5 fun x hx => hold x (S.lt x (hown x hx))
      have hlen' := hp.length_eq
      have K2 : Kept B w w2 := (P2.k.mono fun x _ hx => (h3 x).2 hx).trans k5 fun x hx e => (hold x hx e).elim
      have hsz2 : w.heap.size ≤ w2.heap.size := K2.size
      refine q_block ?_
      refine q_loop (α := List Tm × List Tm × Option Addr × Nat) (fun x => [(124, .slice a D'.length cap), (125, .int .i64 (D'.length : Nat)), (126, .int .i64 (x.1.length : Nat)), (15, .slice x.2.2.1 x.1.length x.2.2.2)])
        (fun x w' => D' = x.1 ++ x.2.1 ∧ Ext w2 w' ∧ ∃ ob, Sl w' 9 1 x.2.2.1 x.1.length x.2.2.2 (strs (x.1.map (·.id))) ob ∧ ∀ y ∈ ob, w2.heap.size ≤ y) (fun x => x.2.1.length) ([], D', none, 0) ⟨by rw [hlen']; rfl, by rw [hlen']; rfl, rfl, rfl, trivial⟩ ⟨rfl, Ext.refl _, none, .nil, fun y hy => by cases hy⟩ ?_
      rintro ⟨D1, D2, oa, ocap⟩ w3 ⟨hDD, X3, ob, s6, hob⟩
      dsimp only at hDD s6
      have hld : D'.length = D1.length + D2.length := by rw [hDD]; simp
      refine q_seq (q_reg (s_get rfl (e_lss rfl rfl) (s_end (x_then ?_))))
      cases D2 with
      | nil =>
        rw [List.append_nil] at hDD
        rw [List.length_nil] at hld
        refine q_seq (q_neg rfl (by dsimp only; omega) ?_)
        refine q_exit (x_then_exit (x_then_exit (x_block_exit (x_then ?_))))
        refine q_seq (q_reg (s_get rfl (e_move rfl) (s_get rfl (e_assign rfl) (s_get rfl (e_assign rfl) (s_end (x_then ?_))))))
        refine q_ret (x_scope_ret (x_ret2 (.inl rfl) rfl rfl rfl ⟨oa, D1.length, ocap, ob, own wb mb H2, rfl, ?_, ?_, fun y hy => ?_, W2.kept X3 fun _ _ h => h, K2.trans X3 fun _ _ h => h.elim, fun x hx => (h3 x).2 (hown x hx)⟩))
        · rw [← hM', List.length_map, hDD]
        · rw [← hM', List.map_map, hDD]
          exact s6
        · have := hob y hy; omega
      | cons t D3 =>
        rw [List.length_cons] at hld
        refine q_seq (q_pos rfl (by dsimp only; omega) ?_)
        refine q_skip (x_then ?_)
        refine q_seq (q_block ?_)
        have htD : t ∈ D' := by rw [hDD]; simp
        obtain ⟨p, q, hTt⟩ := hT5 t htD
        have hT3 : TBlk w3 t p q := by unfold TBlk at *; exact X3.at hTt
        obtain ⟨kb, off, rfl, hdb, hc, hfr⟩ := (s5.ext X3).pos (by omega)
        have hct : w3.cell? ⟨kb, off + D1.length, none⟩ = some (ptr (some t.b)) := hc _ _ (by rw [hDD]; simp [ptrs])
        refine q_seq (q_reg (s_get rfl (e_idxAt (off+D1.length) rfl rfl (by first | omega | (dsimp only; omega)) (by first | omega | (dsimp only; omega)) (by first | omega | (dsimp only; omega))) (s_get rfl (e_ld rfl hct) (s_get rfl (e_assign rfl) (s_end (x_then ?_))))))
        have X4 : Ext w3 (w3.alloc (.cells [.string t.id].toArray 9)) := (Ext.refl w3).alloc _
        have s7 := s6.ext X4
        have s8 := Sl.made (w := w3) (e := 9) (sz := 1) (cs := strs [t.id]) (len := 1) rfl (strs_one [t.id])
        refine q_reg (s_get rfl (e_move rfl) (s_get rfl (e_move rfl) (s_get rfl (e_nil rfl) (s_get rfl (e_fld rfl) (s_get rfl (e_ld rfl hT3.c.1) (s_val rfl (e_buildSlice [.string t.id] rfl rfl rfl rfl (fill_one rfl rfl)) (s_rel rfl (e_append rfl rfl s7 s8 (by first | omega | (dsimp only; omega))) ?_)))))))
        rintro _ w4 ⟨a', cap', b', rfl, s9, k9, e9⟩
        have X5 : Ext w2 w4 := Kept.trans (X3.trans X4) k9 fun x hx h => by
          have := hob x h; omega
        refine s_get rfl (e_assign rfl) (s_end (x_block_normal (x_then ?_)))
        refine q_reg (s_get rfl (e_add rfl rfl (by first | omega | (dsimp only; omega))) (s_get rfl (e_move rfl) (s_end ?_)))
        refine x_again (D1 ++ [t], D3, a', cap') ⟨rfl, rfl, ?_, ?_, trivial⟩ ⟨by rw [hDD]; simp, X5, b', ?_, fun y hy => ?_⟩ (by simp)
        · simp [Eng.look]
        · show some _ = some (Value.slice a' (D1 ++ [t]).length cap')
          rw [List.length_append]; rfl
        · simpa [strs] using s9
        · rcases e9 with rfl | ⟨rfl, _⟩
          · exact hob y hy
          · cases hy
            exact Nat.le_trans X3.size X4.size
    | cons t F3 =>
      have hl2 : (F1 ++ t :: F3).length = F1.length + F3.length + 1 := by simp; omega
      refine q_seq (q_pos rfl (by rw [hl2]; dsimp only; omega) ?_)
      refine q_skip (x_then ?_)
      refine q_seq (q_block ?_)
      obtain ⟨fb, db, s1, s2, s3, s4⟩ := P2.s
      obtain ⟨kb, off, rfl, rfl, hc, hfr⟩ := s1.pos (by omega)
      have hct : w1.cell? ⟨kb, off + F1.length, none⟩ = some (ptr (some t.b)) := hc _ _ (by simp [ptrs])
      refine q_seq (q_reg (s_get rfl (e_idxAt (off+F1.length) rfl rfl (by first | omega | (dsimp only; omega)) (by first | omega | (dsimp only; omega)) (by first | omega | (dsimp only; omega))) (s_get rfl (e_ld rfl hct) (s_get rfl (e_assign rfl) (s_end (x_then ?_))))))
      have htH := S.inH (t := t) (by simp)
      obtain ⟨p, q, hTt⟩ := P2.f2 t List.mem_cons_self
      have hH2 := P2.len2 S
      refine q_seq (q_seq (q_reg (s_get rfl (e_move rfl) (s_get rfl (e_nil rfl) (s_get rfl (e_fld rfl) (s_get rfl (e_ld rfl hTt.c.2.1) (s_get rfl (e_move rfl) (s_get rfl (e_leq rfl rfl) (s_end (x_then ?_))))))))))
      refine q_dec rfl (fun hl => ?_) fun hl => ?_
      · have hl : t.at_ ≤ to := by omega
        have X3 : Ext w1 (w1.alloc (.cells [ptr (some t.b)].toArray 62)) := (Ext.refl w1).alloc _
        have s5 := s2.ext X3
        have s6 := Sl.made (w := w1) (e := 62) (sz := 1) (cs := ptrs [t]) (len := 1) rfl (ptrs_one [t])
        have hf1 : (F1.filter (lapsed to)).length ≤ F1.length := List.length_filter_le _ _
        refine q_seq (q_reg (s_get rfl (e_move rfl) (s_get rfl (e_move rfl) (s_val rfl (e_buildSlice [ptr (some t.b)] rfl rfl rfl rfl (fill_one rfl rfl)) (s_rel rfl (e_append rfl rfl s5 s6 (by simp only []; omega)) ?_)))))
        rintro _ w2 ⟨a', cap', b', rfl, s7, k7, e7⟩
        have hold : ∀ x, x < w.heap.size → ¬ db = some x := fun x hx e => by
          have := s4 x e; omega
        have K2 : Kept (fun i => db = some i) w1 w2 := (X3.kept _).trans k7 fun _ _ h => h
        have hf2 : (F1 ++ [t]).filter (lapsed to) = F1.filter (lapsed to) ++ [t] := by
          rw [List.filter_append]; simp [lapsed, hl]
        rw [show (F1.filter (lapsed to)).length + 1 = ((F1 ++ [t]).filter (lapsed to)).length from by rw [hf2]; simp]
        refine s_get rfl (e_assign rfl) (s_end (x_then ?_))
        have R2 := P2.R.kept K2 (hold wb hwb) fun u hu => hold _ (S.lt _ (P2.own2 S hu))
        have hT2 : TBlk w2 t p q := by
          unfold TBlk at *
          exact K2.at hTt (hold _ (hlt t htH))
        have m2 := P2.m.kept K2 (hold mb h1.m.lt)
        obtain ⟨o, hset, m3⟩ := dele_ex (P := Try.prog) (T := 74) m2 t.id
        have P3 := P2.lapse S hl s1 s3 s4 X3 s7 k7 e7 rfl m3
        refine q_seq (d_begin (Ext _) [3, 7] (d_pure (i := 0) rfl rfl rfl (by kernel_rfl) (fun w' => (e_move rfl)) (d_pure (i := 1) rfl rfl rfl (by kernel_rfl) (fun w' => (e_nil rfl)) (d_pure (i := 2) rfl rfl rfl (by kernel_rfl) (fun w' => (e_fld rfl)) (d_head (i := 3) rfl rfl rfl (by kernel_rfl) (by kernel_rfl) (Ext.refl _) (fun w' hS => (e_ld rfl (hS.cell R2.blk.cm))) (d_pure (i := 4) rfl rfl rfl (by kernel_rfl) (fun w' => (e_move rfl)) (d_pure (i := 5) rfl rfl rfl (by kernel_rfl) (fun w' => (e_nil rfl)) (d_pure (i := 6) rfl rfl rfl (by kernel_rfl) (fun w' => (e_fld rfl)) (d_head (i := 7) rfl rfl rfl (by kernel_rfl) (by kernel_rfl) (Ext.refl _) (fun w' hS => (e_ld rfl (hS.cell hT2.c.1))) (d_val0 (i := 8) rfl rfl (by kernel_rfl) (e_del rfl rfl hset) (.inl (by kernel_rfl)) (d_end (by kernel_rfl) (x_then ?_))))))))))))
        refine q_exit (x_then_exit (x_block_exit (x_then ?_)))
        refine q_reg (s_get rfl (e_add rfl rfl (by first | omega | (dsimp only; omega))) (s_get rfl (e_move rfl) (s_end ?_)))
        refine x_again (F1 ++ [t], F3, a', cap') ⟨rfl, rfl, rfl, rfl, ?_, rfl, trivial⟩ ⟨by simp, H2, sl2, _, P3⟩ (by simp)
        simp [Eng.look]
      · have hl : ¬ t.at_ ≤ to := by omega
        have hf2 : (F1 ++ [t]).filter (lapsed to) = F1.filter (lapsed to) := by
          rw [List.filter_append]; simp [lapsed, hl]
        refine q_skip (x_then ?_)
        have hap := S.ap t htH
        have hcall := hang_ok P2.R hTt (fun u hu => (P2.apart S hu (.inl List.mem_cons_self)).1) hap.1 hap.2.1 hap.2.2.1 hto (by omega)
        refine q_reg (s_get rfl (e_move rfl) (s_get rfl (e_move rfl) (s_call rfl (e_fn rfl) hcall ?_)))
        rintro _ w2 ⟨rfl, R2, K2⟩
        refine s_end (x_block_normal (x_then ?_))
        refine q_reg (s_get rfl (e_add rfl rfl (by first | omega | (dsimp only; omega))) (s_get rfl (e_move rfl) (s_end ?_)))
        refine x_again (F1 ++ [t], F3, a, cap) ⟨rfl, rfl, rfl, rfl, ?_, ?_, trivial⟩ ⟨by simp, _, _, _, P2.hang S hl R2 K2⟩ (by simp)
        · simp [Eng.look]
        · show _ = some _
          rw [hf2]; rfl
end Go.Proofs.Ytogfllhbgkeinaa.Wheel

/-
  Next.
-/
import Derived.Test.YtogfllhbgkeinaaWh4
set_option linter.unusedVariables false
set_option linter.unusedSimpArgs false
namespace Go.Proofs.Ytogfllhbgkeinaa.Wheel
open Go.RowKit Base Lev Wa Eng Wb Spc
open Go.ChangeMaps (setBlock)
variable {w : World} {wb mb now : Nat} {H : List Tm} {sl : Nat → Nat → List Tm} {kv : KV} {M : List Ent} {B : Nat → Prop}

def minL : Nat → List Tm → Nat
  | b, [] => b
  | b, t :: L => minL (if t.at_ < b then t.at_ else b) L
theorem minL_le : ∀ (L : List Tm) (b : Nat), minL b L ≤ b ∧ (∀ t ∈ L, minL b L ≤ t.at_) ∧ (minL b L = b ∨ ∃ t ∈ L, t.at_ = minL b L)
  | [], b => ⟨Nat.le_refl _, fun t h => (by cases h), .inl rfl⟩
  | t :: L, b => by
    obtain ⟨h1, h2, h3⟩ := minL_le L (if t.at_ < b then t.at_ else b)
    unfold minL
    refine ⟨?_, fun u hu => ?_, ?_⟩
    · split at h1 <;> rename_i hs <;> simp only [hs, if_true, if_false] <;> omega
    · rcases List.mem_cons.1 hu with rfl | hu
      · split at h1 <;> rename_i hs <;> simp only [hs, if_true, if_false] <;> omega
      · exact h2 u hu
    · rcases h3 with h3 | ⟨u, hu, h3⟩
      · by_cases hs : t.at_ < b
        · rw [if_pos hs] at h3 ⊢
          exact .inr ⟨t, List.mem_cons_self, h3.symm⟩
        · rw [if_neg hs] at h3 ⊢
          exact .inl h3
      · exact .inr ⟨u, List.mem_cons_of_mem _ hu, h3⟩
def nextR : List Ent → Nat × Bool
  | [] => (0, false)
  | e :: _ => (e.2, true)
theorem next_of (p : (H.map pr).Perm M) (hs : Srt M) {t : Tm} (ht : t ∈ H) (hm : ∀ u ∈ H, t.at_ ≤ u.at_) : nextR M = (t.at_, true) := by
  cases M with
  | nil => have := p.mem_iff.1 (List.mem_map.2 ⟨t, ht, rfl⟩); cases this
  | cons e M =>
    unfold Srt at hs
    rw [List.pairwise_cons] at hs
    have h1 : e.2 ≤ t.at_ := by
      rcases List.mem_cons.1 (p.mem_iff.1 (List.mem_map.2 ⟨t, ht, rfl⟩)) with h | h
      · rw [← h]; exact Nat.le_refl _
      · have := elt_iff.1 (hs.1 _ h)
        show e.2 ≤ (pr t).2
        omega
    obtain ⟨u, hu, rfl⟩ := List.mem_map.1 (p.mem_iff.2 List.mem_cons_self)
    have := hm u hu
    show ((pr u).2, true) = _
    have e1 : (pr u).2 = u.at_ := rfl
    rw [e1] at h1 ⊢
    rw [Nat.le_antisymm h1 this]
theorem next_none (h1 : Whl w wb mb now H sl kv) (p : (H.map pr).Perm M) (hz : ∀ r, r < 7 → cnt now M r = 0) : nextR M = (0, false) := by
  cases M with
  | nil => rfl
  | cons e M =>
    exfalso
    obtain ⟨t, ht, rfl⟩ := List.mem_map.1 (p.mem_iff.2 List.mem_cons_self)
    have hr := (h1.R.ap t ht).2.2.1
    have := hz _ hr
    rw [← h1.cnt p] at this
    have h : t ∈ H.filter (inRing t.ring) := List.mem_filter.2 ⟨ht, by simp [inRing]⟩
    rw [List.eq_nil_of_length_eq_zero this] at h
    cases h
/-- the least of the lowest ring's first slot is the least of all -/
theorem least (h1 : Whl w wb mb now H sl kv) {r k : Nat} (hr : r < 7) (hk : k < 64) (hz : ∀ r', r' < r → cnt now M r' = 0) (p : (H.map pr).Perm M) (hzk : ∀ k', k' < k → sl r k' = []) {t : Tm} (ht : t ∈ sl r k) (hm : ∀ u ∈ sl r k, t.at_ ≤ u.at_) :
    t ∈ H ∧ ∀ u ∈ H, t.at_ ≤ u.at_ := by
  obtain ⟨a1, a2, a3⟩ := (h1.R.slot_mem hr hk).1 ht
  refine ⟨a1, fun u hu => ?_⟩
  obtain ⟨b1, b2, b3⟩ := h1.al u hu
  obtain ⟨c1, c2, c3⟩ := h1.al t a1
  have hur := (h1.R.ap u hu).2.2.1
  rcases Nat.lt_trichotomy u.ring r with h | h | h
  · exfalso
    have := hz _ h
    rw [← h1.cnt p] at this
    have h : u ∈ H.filter (inRing u.ring) := List.mem_filter.2 ⟨hu, by simp [inRing]⟩
    rw [List.eq_nil_of_length_eq_zero this] at h
    cases h
  · rcases Nat.lt_trichotomy (digit r u.at_) k with g | g | g
    · exfalso
      have := (h1.R.slot_mem hr (k := digit r u.at_) (by omega)).2 ⟨hu, h, rfl⟩
      rw [hzk _ g] at this
      cases this
    · exact hm u ((h1.R.slot_mem hr hk).2 ⟨hu, h, g⟩)
    · have hl : level t.at_ now = level u.at_ now := by rw [← c1, ← b1, a2, h]
      refine Nat.le_of_lt (slot_lt (now := now) hl ?_)
      rw [← c1, a2, a3]; exact g
  · refine Nat.le_of_lt (ring_lt (now := now) b2 ?_)
    rw [← c1, ← b1, a2]; exact h

theorem next_ret (W : IsW w wb now M B) : Ret Try.prog 18 #[.pointer (some ⟨wb, 0, none⟩)] w fun v w' => v = .tuple #[.int .i64 (nextR M).1, .bool (nextR M).2] ∧ w' = w := by
  obtain ⟨mb, H, sl, kv, h1, h2, h3⟩ := W.ex
  refine ret_of (vs := [_]) Try.func18 rfl Try.ntmps18 rfl fun _ => ?_
  refine q_seq (q_reg (s_get rfl (e_assign rfl) (s_get rfl (e_assign rfl) (s_end (x_then ?_)))))
  refine q_seq (q_seq (q_reg (s_get rfl (e_move rfl) (s_get rfl (e_pnil rfl rfl) (s_end (x_then ?_))))))
  refine q_no rfl (q_skip (x_then ?_))
  refine q_seq (q_seq (q_reg (s_get rfl (e_move rfl) (s_end (x_then ?_)))))
  refine q_block ?_
  refine q_loop (α := Nat) (fun r => [(0, .pointer (some ⟨wb, 0, none⟩)), (11, .int .i64 (r : Nat))]) (fun r w' => w' = w ∧ r ≤ 7 ∧ ∀ r', r' < r → cnt now M r' = 0) (fun r => 7 - r) 0 ⟨rfl, rfl, trivial⟩ ⟨rfl, by omega, by omega⟩ ?_
  rintro r w ⟨rfl, hr, hz⟩
  refine q_seq (q_reg (s_get rfl (e_lss rfl rfl) (s_end (x_then ?_))))
  refine q_seq (q_dec rfl (fun h => ?_) fun h => ?_)
  · have hr7 : r < 7 := by omega
    refine q_skip (x_then ?_)
    refine q_seq (q_block ?_)
    refine q_seq (q_reg (s_get rfl (e_move rfl) (s_get rfl (e_assign rfl) (s_end (x_then ?_)))))
    have hc := h1.R.blk.cn hr7
    rw [h1.cnt h2] at hc
    refine q_seq (q_seq (q_reg (s_get rfl (e_move rfl) (s_get rfl (e_move rfl) (s_get rfl (e_nil rfl) (s_get rfl (e_fld rfl) (s_get rfl (e_idxaAt (449+r) rfl rfl (by first | omega | (dsimp only; omega)) (by first | omega | (dsimp only; omega)) (by first | omega | (dsimp only; omega))) (s_get rfl (e_ld rfl hc) (s_get rfl (e_eql rfl rfl) (s_end (x_then ?_)))))))))))
    refine q_dec rfl (fun h => ?_) fun h => ?_
    · refine q_exit (x_then_exit (x_block_exit (x_then ?_)))
      refine q_reg (s_get rfl (e_add rfl rfl (by first | omega | (dsimp only; omega))) (s_get rfl (e_move rfl) (s_end ?_)))
      refine x_again (r + 1) ⟨rfl, rfl, trivial⟩ ⟨rfl, by omega, fun r' hr' => ?_⟩ (by omega)
      by_cases e : r' = r
      · rw [e]; omega
      · exact hz r' (by omega)
    · refine q_skip (x_then ?_)
      refine q_seq (q_reg (s_get rfl (e_move rfl) (s_end (x_then ?_))))
      refine q_block ?_
      refine q_loop (α := Nat) (fun k => [(0, .pointer (some ⟨wb, 0, none⟩)), (11, .int .i64 (r : Nat)), (4, .int .i64 (r : Nat)), (21, .int .i64 (k : Nat))]) (fun k w' => w' = w ∧ k ≤ 64 ∧ ∀ k', k' < k → sl r k' = []) (fun k => 64 - k) 0 ⟨rfl, rfl, rfl, rfl, trivial⟩ ⟨rfl, by omega, by omega⟩ ?_
      rintro k w ⟨rfl, hk, hzk⟩
      refine q_seq (q_reg (s_get rfl (e_lss rfl rfl) (s_end (x_then ?_))))
      refine q_seq (q_dec rfl (fun h => ?_) fun h => ?_)
      · have hk64 : k < 64 := by omega
        refine q_skip (x_then ?_)
        refine q_seq (q_block ?_)
        refine q_seq (q_reg (s_get rfl (e_move rfl) (s_get rfl (e_assign rfl) (s_end (x_then ?_)))))
        have hs := h1.R.blk.cs hr7 hk64
        have hch := h1.R.ch r hr7 k hk64
        refine q_seq (q_reg (s_get rfl (e_move rfl) (s_get rfl (e_move rfl) (s_get rfl (e_move rfl) (s_get rfl (e_nil rfl) (s_get rfl (e_fld rfl) (s_get rfl (e_idxaAt (1+r*64) rfl rfl (by first | omega | (dsimp only; omega)) (by first | omega | (dsimp only; omega)) (by first | omega | (dsimp only; omega))) (s_get rfl (e_idxaAt (1+r*64+k) rfl rfl (by first | omega | (dsimp only; omega)) (by first | omega | (dsimp only; omega)) (by first | omega | (dsimp only; omega))) (s_get rfl (e_fld rfl) (s_get rfl (e_ld rfl hs) (s_get rfl (e_assign rfl) (s_end (x_then ?_)))))))))))))
        cases hL : sl r k with
        | nil =>
          refine q_seq (q_seq (q_reg (s_get rfl (e_move rfl) (s_get rfl (e_pnil rfl rfl) (s_end (x_then ?_))))))
          refine q_yes rfl ?_
          refine q_exit (x_then_exit (x_block_exit (x_then ?_)))
          refine q_reg (s_get rfl (e_add rfl rfl (by first | omega | (dsimp only; omega))) (s_get rfl (e_move rfl) (s_end ?_)))
          refine x_again (k + 1) ⟨rfl, rfl, rfl, rfl, trivial⟩ ⟨rfl, by omega, fun k' hk' => ?_⟩ (by omega)
          by_cases e : k' = k
          · rw [e]; exact hL
          · exact hzk k' (by omega)
        | cons t L =>
          rw [hL] at hch
          have hT := hch.1.c
          refine q_seq (q_seq (q_reg (s_get rfl (e_move rfl) (s_get rfl (e_pnil rfl rfl) (s_end (x_then ?_))))))
          refine q_no rfl ?_
          refine q_skip (x_then ?_)
          refine q_seq (q_reg (s_get rfl (e_move rfl) (s_get rfl (e_nil rfl) (s_get rfl (e_fld rfl) (s_get rfl (e_ld rfl hT.2.1) (s_get rfl (e_assign rfl) (s_end (x_then ?_))))))))
          refine q_seq (q_seq (q_reg (s_get rfl (e_move rfl) (s_get rfl (e_nil rfl) (s_get rfl (e_fld rfl) (s_get rfl (e_ld rfl hT.2.2.2.2.1) (s_get rfl (e_assign rfl) (s_end (x_then ?_)))))))))
          refine q_block ?_
          refine q_loop (α := Nat × Option Nat × List Tm) (fun x => [(7, .int .i64 (x.1 : Nat)), (8, ptr (nx x.2.2 none))]) (fun x w' => w' = w ∧ Ch w x.2.1 x.2.2 none ∧ minL x.1 x.2.2 = minL t.at_ L) (fun x => x.2.2.length) (t.at_, some t.b, L) ⟨rfl, rfl, trivial⟩ ⟨rfl, hch.2, rfl⟩ ?_
          rintro ⟨b, p, A⟩ w ⟨rfl, hA, hm⟩
          simp only at hA hm
          cases A with
          | nil =>
            refine q_seq (q_seq (q_reg (s_get rfl (e_move rfl) (s_get rfl (e_pnnil rfl rfl) (s_end (x_then ?_))))))
            refine q_no rfl ?_
            refine q_exit (x_then_exit (x_then_exit (x_block_exit (x_then ?_))))
            refine q_seq (q_reg (s_get rfl (e_move rfl) (s_get rfl (e_assign rfl) (s_get rfl (e_assign rfl) (s_end (x_then ?_))))))
            refine q_ret (x_block_ret (x_then_ret (x_then_ret (x_block_ret (x_block_ret (x_then_ret (x_then_ret (x_block_ret (x_then_ret (x_ret2 (.inl rfl) rfl rfl rfl ⟨?_, rfl⟩))))))))))
            obtain ⟨m1, m2, m3⟩ := minL_le L t.at_
            simp only [minL] at hm
            rw [hm]
            have : ∃ u ∈ sl r k, u.at_ = minL t.at_ L ∧ ∀ v ∈ sl r k, u.at_ ≤ v.at_ := by
              rw [hL]
              rcases m3 with m3 | ⟨u, hu, m3⟩
              · refine ⟨t, List.mem_cons_self, m3.symm, fun v hv => ?_⟩
                rcases List.mem_cons.1 hv with rfl | hv
                · exact Nat.le_refl _
                · rw [← m3]; exact m2 v hv
              · refine ⟨u, List.mem_cons_of_mem _ hu, m3, fun v hv => ?_⟩
                rw [m3]
                rcases List.mem_cons.1 hv with rfl | hv
                · exact m1
                · exact m2 v hv
            obtain ⟨u, hu, e, hle⟩ := this
            obtain ⟨g1, g2⟩ := least h1 hr7 hk64 hz h2 hzk hu hle
            rw [next_of h2 W.srt g1 g2, e]
          | cons u A =>
            have hU := hA.1.c
            refine q_seq (q_seq (q_reg (s_get rfl (e_move rfl) (s_get rfl (e_pnnil rfl rfl) (s_end (x_then ?_))))))
            refine q_yes rfl ?_
            refine q_skip (x_then ?_)
            refine q_seq (q_block ?_)
            refine q_reg (s_get rfl (e_move rfl) (s_get rfl (e_move rfl) (s_get rfl (e_nil rfl) (s_get rfl (e_fld rfl) (s_get rfl (e_ld rfl hU.2.1) (s_get rfl (e_min rfl rfl) (s_get rfl (e_assign rfl) (s_end (x_block_normal (x_then ?_))))))))))
            refine q_reg (s_get rfl (e_move rfl) (s_get rfl (e_nil rfl) (s_get rfl (e_fld rfl) (s_get rfl (e_ld rfl hU.2.2.2.2.1) (s_get rfl (e_assign rfl) (s_end ?_))))))
            refine x_again (if u.at_ < b then u.at_ else b, some u.b, A) ⟨?_, rfl, trivial⟩ ⟨rfl, hA.2, hm⟩ (by simp)
            show some _ = some _
            by_cases hs : u.at_ < b
            · have : (u.at_ : Int) < b := by omega
              rw [if_pos hs, if_pos this]
            · have : ¬ (u.at_ : Int) < b := by omega
              rw [if_neg hs, if_neg this]
      · exfalso
        have e : k = 64 := by omega
        subst e
        have hp : 0 < (H.filter (inRing r)).length := by rw [h1.cnt h2]; omega
        obtain ⟨u, hu⟩ := List.exists_mem_of_length_pos hp
        obtain ⟨g1, g2⟩ := List.mem_filter.1 hu
        have g3 : u.ring = r := by simpa [inRing] using g2
        have := (h1.R.slot_mem hr7 (digit_lt r u.at_)).2 ⟨g1, g3, rfl⟩
        rw [hzk _ (digit_lt r u.at_)] at this
        cases this
  · refine q_exit (x_then_exit (x_then_exit (x_block_exit (x_then ?_))))
    refine q_seq (q_reg (s_get rfl (e_assign rfl) (s_get rfl (e_assign rfl) (s_end (x_then ?_)))))
    have : r = 7 := by omega
    subst this
    exact q_ret (x_ret2 (.inl rfl) rfl rfl rfl ⟨by rw [next_none h1 h2 hz]; rfl, rfl⟩)
end Go.Proofs.Ytogfllhbgkeinaa.Wheel

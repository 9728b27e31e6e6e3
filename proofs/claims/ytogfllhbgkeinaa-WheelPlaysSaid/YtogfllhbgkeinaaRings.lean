/-
  The rings of a wheel: what hang and unhang do to the lists that hang in them.
-/
import Derived.Test.YtogfllhbgkeinaaWheel
set_option linter.unusedVariables false
set_option linter.unusedSimpArgs false
namespace Go.Proofs.Ytogfllhbgkeinaa.Wheel
open Go.RowKit Base Lev Wa Eng Wb

def inRing (r : Nat) (t : Tm) : Bool := decide (t.ring = r)
def inSlot (r k : Nat) (t : Tm) : Bool := decide (t.ring = r) && decide (digit r t.at_ = k)
def notB (b : Nat) (t : Tm) : Bool := !decide (t.b = b)
/-- the timers H hang in the rings of the wheel at wb, its names lie at mb -/
structure Rings (w : World) (wb mb now : Nat) (H : List Tm) (sl : Nat → Nat → List Tm) : Prop where
  blk : WBlk w wb now (fun r k => nx (sl r k) none) (fun r => (H.filter (inRing r)).length) mb
  ch : ∀ r, r < 7 → ∀ k, k < 64 → Ch w none (sl r k) none
  perm : ∀ r, r < 7 → ∀ k, k < 64 → (sl r k).Perm (H.filter (inSlot r k))
  nd : (H.map (·.b)).Nodup
  ap : ∀ t ∈ H, t.b ≠ wb ∧ t.b ≠ mb ∧ t.ring < 7 ∧ t.at_ ≤ 1099511627776
  wm : wb ≠ mb

theorem inj_of {H : List Tm} (hn : (H.map (·.b)).Nodup) {t u : Tm} (ht : t ∈ H) (hu : u ∈ H) (e : t.b = u.b) : t = u := by
  induction H with
  | nil => cases ht
  | cons x H ih =>
    simp only [List.map_cons, List.nodup_cons] at hn
    rcases List.mem_cons.1 ht with h1 | h1 <;> rcases List.mem_cons.1 hu with h2 | h2
    · rw [h1, h2]
    · exact (hn.1 (List.mem_map.2 ⟨u, h2, by rw [← e, h1]⟩)).elim
    · exact (hn.1 (List.mem_map.2 ⟨t, h1, by rw [e, h2]⟩)).elim
    · exact ih hn.2 h1 h2
theorem filter_notB {A B : List Tm} {t : Tm} (hn : ((A ++ t :: B).map (·.b)).Nodup) : (A ++ t :: B).filter (notB t.b) = A ++ B := by
  have h1 : ∀ u ∈ A, notB t.b u = true := fun u hu => by
    simp only [List.map_append, List.map_cons, List.nodup_append] at hn
    have := hn.2.2 u.b (List.mem_map.2 ⟨u, hu, rfl⟩) t.b List.mem_cons_self
    simp [notB, this]
  have h2 : ∀ u ∈ B, notB t.b u = true := fun u hu => by
    simp only [List.map_append, List.map_cons, List.nodup_append, List.nodup_cons] at hn
    have : u.b ≠ t.b := fun e => hn.2.1.1 (List.mem_map.2 ⟨u, hu, e⟩)
    simp [notB, this]
  rw [List.filter_append, List.filter_cons, List.filter_eq_self.2 h1, List.filter_eq_self.2 h2]
  simp [notB]
theorem filter_notB_none {A : List Tm} {b : Nat} (h : ∀ u ∈ A, u.b ≠ b) : A.filter (notB b) = A := List.filter_eq_self.2 fun u hu => by simp [notB, h u hu]
theorem filter_len {H : List Tm} {t : Tm} (hn : (H.map (·.b)).Nodup) (ht : t ∈ H) (p : Tm → Bool) : (H.filter p).length = ((H.filter (notB t.b)).filter p).length + if p t = true then 1 else 0 := by
  obtain ⟨A, B, rfl⟩ := List.append_of_mem ht
  rw [filter_notB hn, List.filter_append, List.filter_append, List.filter_cons]
  split <;> simp <;> omega

variable {w : World} {wb mb now : Nat} {H : List Tm} {sl : Nat → Nat → List Tm}
theorem Rings.slot_mem (R : Rings w wb mb now H sl) {t : Tm} {r k : Nat} (hr : r < 7) (hk : k < 64) : t ∈ sl r k ↔ t ∈ H ∧ t.ring = r ∧ digit r t.at_ = k := by
  rw [(R.perm r hr k hk).mem_iff, List.mem_filter]
  simp [inSlot]
theorem Rings.slot_nd (R : Rings w wb mb now H sl) {r k : Nat} (hr : r < 7) (hk : k < 64) : ((sl r k).map (·.b)).Nodup :=
  ((R.perm r hr k hk).map _).nodup_iff.2 ((List.filter_sublist.map _).nodup R.nd)
/-- a block that is none of the wheel's may change -/
theorem Rings.same {w' : World} (R : Rings w wb mb now H sl) (e : w'.heap[wb]? = w.heap[wb]?) (f : ∀ t ∈ H, w'.heap[t.b]? = w.heap[t.b]?) : Rings w' wb mb now H sl :=
  ⟨R.blk.same e, fun r hr k hk => (R.ch r hr k hk).same fun t ht => f t ((R.slot_mem hr hk).1 ht).1, R.perm, R.nd, R.ap, R.wm⟩
def isB (wb : Nat) (H : List Tm) (b : Nat) : Prop := b = wb ∨ ∃ u ∈ H, u.b = b

theorem unhung_ok (R : Rings w wb mb now H sl) {t : Tm} (ht : t ∈ H) {A B : List Tm} (hs : sl t.ring (digit t.ring t.at_) = A ++ t :: B) :
    let w' := unhung w wb t.ring t.at_ (lst none A) (nx B none) (H.filter (inRing t.ring)).length
    Rings w' wb mb now (H.filter (notB t.b)) (fun r k => (sl r k).filter (notB t.b)) ∧ TBlk w' t (lst none A) (nx B none) ∧ Kept (isB wb H) w w' := by
  intro w'
  obtain ⟨htw, htm, hr, hta⟩ := R.ap t ht
  have hk := digit_lt t.ring t.at_
  have hch := R.ch _ hr _ hk
  have hnd := R.slot_nd hr hk
  rw [hs] at hch hnd
  rw [Ch.append] at hch
  obtain ⟨hA, hT, hB⟩ := hch
  have hH : ∀ u, u ∈ A ++ t :: B → u ∈ H := fun u hu => ((R.slot_mem hr hk).1 (hs ▸ hu)).1
  have hAB : ∀ u ∈ A, ∀ v ∈ t :: B, u.b ≠ v.b := fun u hu v hv e => by
    rw [List.map_append, List.nodup_append] at hnd
    exact hnd.2.2 u.b (List.mem_map.2 ⟨u, hu, rfl⟩) v.b (List.mem_map.2 ⟨v, hv, rfl⟩) e
  have hndA : (A.map (·.b)).Nodup := by rw [List.map_append, List.nodup_append] at hnd; exact hnd.1
  have hndB : (B.map (·.b)).Nodup := by
    rw [List.map_append, List.nodup_append, List.map_cons, List.nodup_cons] at hnd; exact hnd.2.1.2
  have htB : ∀ u ∈ B, u.b ≠ t.b := fun u hu e => by
    rw [List.map_append, List.nodup_append, List.map_cons, List.nodup_cons] at hnd; exact hnd.2.1.1 (List.mem_map.2 ⟨u, hu, e⟩)
  have hw : ∀ u ∈ A ++ t :: B, u.b ≠ wb := fun u hu => (R.ap u (hH u hu)).1
  -- first step: the one behind
  let w1 : World := match nx B none with
    | none => w
    | some b => w.setCell ⟨b, 3, none⟩ (ptr (lst none A))
  have k1 : ∀ b, (∀ u ∈ B, u.b ≠ b) → w1.heap[b]? = w.heap[b]? := fun b hb => by
    cases B with
    | nil => rfl
    | cons u B => exact Base.heap_setCell_other _ fun e => hb u List.mem_cons_self e.symm
  have hB1 : Ch w1 (lst none A) B none := by
    cases B with
    | nil => trivial
    | cons u B => exact hB.first hndB
  have K1 : Kept (isB wb H) w w1 := by
    cases hB0 : B with
    | nil => simp only [w1, hB0, nx]; exact Kept.refl _ _
    | cons u B' => simp only [w1, hB0, nx]; exact Kept.setCell _ _ _ (.inr ⟨u, hH u (by rw [hB0]; simp), rfl⟩)
  have hA1 : Ch w1 none A (some t.b) := hA.same fun u hu => k1 u.b fun v hv => (hAB u hu v (List.mem_cons_of_mem _ hv)).symm
  have hT1 : TBlk w1 t (lst none A) (nx B none) := by unfold TBlk at *; rw [k1 t.b htB]; exact hT
  have hW1 := R.blk.same (k1 wb fun u hu => hw u (by simp [hu]))
  -- second step: the one ahead, or the slot
  let w2 : World := match lst none A with
    | none => w1.setCell ⟨wb, 1 + t.ring * 64 + digit t.ring t.at_, none⟩ (ptr (nx B none))
    | some b => w1.setCell ⟨b, 4, none⟩ (ptr (nx B none))
  have step2 : Ch w2 none A (nx B none) ∧ Ch w2 (lst none A) B none ∧ TBlk w2 t (lst none A) (nx B none) ∧ Kept (isB wb H) w1 w2 ∧ (∀ b, b ≠ wb → (∀ u ∈ A, u.b ≠ b) → w2.heap[b]? = w1.heap[b]?) ∧
      WBlk w2 wb now (fun r k => nx ((sl r k).filter (notB t.b)) none) (fun r => (H.filter (inRing r)).length) mb := by
    have hother : ∀ r, r < 7 → ∀ k, k < 64 → ¬ (r = t.ring ∧ k = digit t.ring t.at_) → (sl r k).filter (notB t.b) = sl r k := fun r hr' k hk' hne => filter_notB_none fun u hu e => by
      obtain ⟨h1, h2, h3⟩ := (R.slot_mem hr' hk').1 hu
      have := inj_of R.nd h1 ht e
      subst this
      exact hne ⟨h2.symm, by rw [← h3, h2]⟩
    by_cases hA0 : A = []
    · subst hA0
      have hl : lst none ([] : List Tm) = none := rfl
      simp only [w2, hl]
      refine ⟨trivial, hB1.same fun u hu => Base.heap_setCell_other _ (hw u (by simp [hu])), hT1.other htw, Kept.setCell _ _ _ (.inl rfl), fun b hb _ => Base.heap_setCell_other _ hb, ?_⟩
      refine (hW1.slot hr hk (nx B none)).congr (fun r hr' k hk' => ?_) fun _ _ => rfl
      by_cases e : r = t.ring ∧ k = digit t.ring t.at_
      · obtain ⟨rfl, rfl⟩ := e
        rw [if_pos ⟨rfl, rfl⟩, hs, filter_notB hnd]; rfl
      · rw [if_neg e, hother r hr' k hk' e]
    · obtain ⟨u, hu, hl⟩ := lst_some (p := none) hA0
      simp only [w2, hl]
      have huw : u.b ≠ wb := hw u (by simp [hu])
      refine ⟨hA1.last hndA u.b hl hA0, ?_, ?_, Kept.setCell _ _ _ (.inr ⟨u, hH u (by simp [hu]), rfl⟩), fun b _ hb => Base.heap_setCell_other _ fun e => hb u hu e.symm, ?_⟩
      · rw [← hl]; exact hB1.same fun v hv => Base.heap_setCell_other _ fun e => hAB u hu v (List.mem_cons_of_mem _ hv) e.symm
      · rw [← hl]; exact hT1.other fun e => hAB u hu t List.mem_cons_self e.symm
      refine (hW1.same (Base.heap_setCell_other _ (Ne.symm huw))).congr (fun r hr' k hk' => ?_) fun _ _ => rfl
      by_cases e : r = t.ring ∧ k = digit t.ring t.at_
      · obtain ⟨rfl, rfl⟩ := e
        rw [hs, filter_notB hnd]
        cases A with
        | nil => exact absurd rfl hA0
        | cons v A => rfl
      · rw [hother r hr' k hk' e]
  obtain ⟨hA2, hB2, hT2, K2, k2, hW2⟩ := step2
  have hw' : w' = w2.setCell ⟨wb, 449 + t.ring, none⟩ (.int .i64 (((H.filter (inRing t.ring)).length : Int) - 1)) := rfl
  have hlen := filter_len R.nd ht (inRing t.ring)
  have hself : inRing t.ring t = true := by simp [inRing]
  rw [if_pos hself] at hlen
  have hc : (((H.filter (inRing t.ring)).length : Int) - 1) = (((H.filter (notB t.b)).filter (inRing t.ring)).length : Nat) := by omega
  rw [hc] at hw'
  rw [hw']
  refine ⟨⟨?_, fun r hr' k hk' => ?_, fun r hr' k hk' => (R.perm r hr' k hk').filter _ |>.trans ?_, (List.filter_sublist.map _).nodup R.nd, fun u hu => R.ap u (List.mem_filter.1 hu).1, R.wm⟩, hT2.other htw, (K1.trans K2 fun _ _ h => h).trans (Kept.setCell _ _ _ (.inl rfl)) fun _ _ h => h⟩
  · refine (hW2.count hr _).congr (fun _ _ _ _ => rfl) fun r hr' => ?_
    by_cases e : r = t.ring
    · rw [if_pos e, e]
    · rw [if_neg e]
      have := filter_len R.nd ht (inRing r)
      have hf : inRing r t = false := by simp [inRing, Ne.symm e]
      rw [hf] at this
      simpa using this
  · by_cases e : r = t.ring ∧ k = digit t.ring t.at_
    · obtain ⟨rfl, rfl⟩ := e
      rw [hs, filter_notB hnd]
      refine Ch.same ?_ fun u hu => Base.heap_setCell_other _ (hw u (by
        rcases List.mem_append.1 hu with h | h
        · simp [h]
        · simp [h]))
      rw [Ch.append]
      exact ⟨hA2, hB2⟩
    · have hmem : ∀ u ∈ sl r k, u ∈ H ∧ u ∉ A ++ t :: B := fun u hu => by
        obtain ⟨h1, h2, h3⟩ := (R.slot_mem hr' hk').1 hu
        refine ⟨h1, fun hin => ?_⟩
        obtain ⟨_, g2, g3⟩ := (R.slot_mem hr hk).1 (hs ▸ hin)
        exact e ⟨h2.symm.trans g2, by rw [← h3, ← h2, g2]; exact g3⟩
      have hno : ∀ u ∈ sl r k, ∀ v ∈ A ++ t :: B, v.b ≠ u.b := fun u hu v hv he => (hmem u hu).2 (inj_of R.nd (hH v hv) (hmem u hu).1 he ▸ hv)
      have hfil : (sl r k).filter (notB t.b) = sl r k := filter_notB_none fun u hu he => hno u hu t (by simp) he.symm
      rw [hfil]
      refine (R.ch r hr' k hk').same fun u hu => ?_
      have huw : u.b ≠ wb := (R.ap u (hmem u hu).1).1
      rw [Base.heap_setCell_other _ huw, k2 u.b huw fun v hv => hno u hu v (by simp [hv]), k1 u.b fun v hv => hno u hu v (by simp [hv])]
  · rw [List.filter_filter, List.filter_filter]
    have : (fun a => notB t.b a && inSlot r k a) = fun a => inSlot r k a && notB t.b a := by funext a; exact Bool.and_comm _ _
    rw [this]

theorem unhang_ok (R : Rings w wb mb now H sl) {t : Tm} (ht : t ∈ H) (hlen : H.length ≤ 4096) :
    Ret Try.prog 28 #[.pointer (some ⟨wb, 0, none⟩), .pointer (some ⟨t.b, 0, none⟩)] w fun v w' => v = .tuple #[] ∧
      Rings w' wb mb now (H.filter (notB t.b)) (fun r k => (sl r k).filter (notB t.b)) ∧ (∃ p q, TBlk w' t p q) ∧ Kept (isB wb H) w w' := by
  obtain ⟨htw, htm, hr, hta⟩ := R.ap t ht
  have hk := digit_lt t.ring t.at_
  obtain ⟨A, B, hs⟩ := List.append_of_mem ((R.slot_mem hr hk).2 ⟨ht, rfl, rfl⟩)
  have hch := R.ch _ hr _ hk
  have hnd := R.slot_nd hr hk
  rw [hs] at hch hnd
  rw [Ch.append] at hch
  obtain ⟨hA, hT, hB⟩ := hch
  have hH : ∀ u, u ∈ A ++ t :: B → u ∈ H := fun u hu => ((R.slot_mem hr hk).1 (hs ▸ hu)).1
  obtain ⟨_, c1, c2, c3, c4, _⟩ := hT.c
  have hcnt : (H.filter (inRing t.ring)).length ≤ 4096 := Nat.le_trans (List.length_filter_le _ _) hlen
  have hne : ∀ u ∈ A ++ B, u.b ≠ t.b := fun u hu e => by
    rw [List.map_append, List.nodup_append, List.map_cons, List.nodup_cons] at hnd
    rcases List.mem_append.1 hu with h | h
    · exact hnd.2.2 u.b (List.mem_map.2 ⟨u, h, rfl⟩) t.b List.mem_cons_self e
    · exact hnd.2.1.1 (List.mem_map.2 ⟨u, h, e⟩)
  refine (unhang_ret wb t.b t.at_ t.ring (H.filter (inRing t.ring)).length (lst none A) (nx B none) (ptr (some t.b)) (ptr (some t.b)) _ w htw ?_ ?_ hta hr c1 c2 c3 c4 (fun i => R.blk.free i) ?_ ?_ (R.blk.cs hr hk) (R.blk.cn hr) (by omega)).mono fun v w' ⟨hv, hw'⟩ => ?_
  · intro b hb
    cases B with
    | nil => cases hb
    | cons u B =>
      obtain rfl : u.b = b := Option.some.inj hb
      exact ⟨(R.ap u (hH u (by simp))).1, hne u (by simp)⟩
  · intro b hb
    by_cases hA0 : A = []
    · subst hA0; cases hb
    · obtain ⟨u, hu, hl⟩ := lst_some (p := none) hA0
      rw [hl] at hb
      obtain rfl : u.b = b := Option.some.inj hb
      exact ⟨(R.ap u (hH u (by simp [hu]))).1, hne u (by simp [hu])⟩
  · intro b hb
    cases B with
    | nil => cases hb
    | cons u B =>
      obtain rfl : u.b = b := Option.some.inj hb
      obtain ⟨_, _, _, g3, _, g⟩ := hB.1.c
      exact ⟨g3, g 3⟩
  · intro b hb
    have key : ∀ (A : List Tm) (p : Option Nat), A ≠ [] → Ch w p A (some t.b) → lst p A = some b → w.cell? ⟨b, 4, none⟩ = some (ptr (some t.b)) ∧ w.frozen? ⟨b, 4, none⟩ = false := by
      intro A
      induction A with
      | nil => intro p h; exact absurd rfl h
      | cons u A ih =>
        intro p _ hc hl
        cases A with
        | nil =>
          obtain rfl : u.b = b := Option.some.inj hl
          obtain ⟨_, _, _, _, g4, g⟩ := hc.1.c
          exact ⟨g4, g 4⟩
        | cons v A => exact ih (some u.b) (by simp) hc.2 hl
    by_cases hA0 : A = []
    · subst hA0; cases hb
    · exact key A none hA0 hA hb
  · subst hw'
    obtain ⟨h1, h2, h3⟩ := unhung_ok R ht hs
    exact ⟨hv, h1, ⟨_, _, h2⟩, h3⟩

def setRing (t : Tm) (r : Nat) : Tm := { t with ring := r }
/-- a timer at a slot's head -/
def slAdd (sl : Nat → Nat → List Tm) (t : Tm) : Nat → Nat → List Tm := fun r k => if r = t.ring ∧ k = digit t.ring t.at_ then t :: sl r k else sl r k

/-- the last two writes of hang -/
theorem hung_core (R : Rings w wb mb now H sl) {t : Tm} {w4 : World} {r k : Nat} {L : List Tm} (hnt : ∀ u ∈ H, u.b ≠ t.b) (htw : t.b ≠ wb) (htm : t.b ≠ mb) (hta : t.at_ ≤ 1099511627776) (hr : r < 7) (hk : k = digit r t.at_) (hL : sl r k = L) (e : t.ring = r)
    (hW4 : WBlk w4 wb now (fun r k => nx (sl r k) none) (fun r => (H.filter (inRing r)).length) mb) (hT4 : TBlk w4 t none (nx L none)) (hC4 : Ch w4 (some t.b) L none) (ho : ∀ u ∈ H, u ∉ L → w4.heap[u.b]? = w.heap[u.b]?) {w' : World}
    (hw' : w' = (w4.setCell ⟨wb, 1 + r * 64 + k, none⟩ (ptr (some t.b))).setCell ⟨wb, 449 + r, none⟩ (.int .i64 (((H.filter (inRing r)).length : Int) + 1))) :
    Rings w' wb mb now (t :: H) (slAdd sl t) := by
  have hk64 : k < 64 := hk ▸ digit_lt r t.at_
  have hS : ∀ u ∈ L, u ∈ H := fun u hu => ((R.slot_mem hr hk64).1 (hL ▸ hu)).1
  have hb : ∀ b, b ≠ wb → w'.heap[b]? = w4.heap[b]? := fun b hb => by
    rw [hw', Base.heap_setCell_other _ hb, Base.heap_setCell_other _ hb]
  have hc : (((H.filter (inRing r)).length : Int) + 1) = (((H.filter (inRing r)).length + 1 : Nat) : Int) := by omega
  refine ⟨?_, fun r' hr' k' hk' => ?_, fun r' hr' k' hk' => ?_, ?_, ?_, R.wm⟩
  · rw [hw', hc]
    refine ((hW4.slot hr hk64 (some t.b)).count hr _).congr (fun r' hr' k' hk' => ?_) fun r' hr' => ?_
    · unfold slAdd
      rw [e, ← hk]
      by_cases h : r' = r ∧ k' = k
      · rw [if_pos h, if_pos h]; rfl
      · rw [if_neg h, if_neg h]
    · by_cases h : r' = r
      · rw [if_pos h, h, List.filter_cons, if_pos (by simp [inRing, e])]; rfl
      · rw [if_neg h, List.filter_cons, if_neg (by simp [inRing, e]; exact fun g => h g.symm)]
  · unfold slAdd
    rw [e, ← hk]
    by_cases h : r' = r ∧ k' = k
    · rw [if_pos h, h.1, h.2, hL]
      refine Ch.same (w := w4) ⟨hT4, hC4⟩ fun u hu => hb u.b ?_
      rcases List.mem_cons.1 hu with rfl | hu
      · exact htw
      · exact (R.ap u (hS u hu)).1
    · rw [if_neg h]
      refine (R.ch r' hr' k' hk').same fun u hu => ?_
      obtain ⟨h1, h2, h3⟩ := (R.slot_mem hr' hk').1 hu
      rw [hb u.b (R.ap u h1).1]
      refine ho u h1 fun hu' => ?_
      obtain ⟨_, g2, g3⟩ := (R.slot_mem hr hk64).1 (hL ▸ hu')
      exact h ⟨h2.symm.trans g2, by rw [← h3, ← h2, g2]; exact g3⟩
  · unfold slAdd
    rw [e, ← hk]
    by_cases h : r' = r ∧ k' = k
    · rw [if_pos h, List.filter_cons, if_pos (by simp [inSlot, e, h.1, h.2, hk])]
      exact (R.perm r' hr' k' hk').cons _
    · rw [if_neg h, List.filter_cons, if_neg]
      · exact R.perm r' hr' k' hk'
      · simp only [inSlot, Bool.and_eq_true, decide_eq_true_eq]
        rintro ⟨h1, h2⟩
        exact h ⟨h1.symm.trans e, by rw [← h2, hk, ← h1, e]⟩
  · simp only [List.map_cons, List.nodup_cons]
    refine ⟨fun h => ?_, R.nd⟩
    obtain ⟨u, hu, g⟩ := List.mem_map.1 h
    exact hnt u hu g
  · intro u hu
    rcases List.mem_cons.1 hu with rfl | hu
    · exact ⟨htw, htm, e ▸ hr, hta⟩
    · exact R.ap u hu

theorem hung3 {t : Tm} {p q : Option Nat} (hT : TBlk w t p q) (r : Nat) (o : Option Nat) {w3 : World}
    (hw : w3 = ((w.setCell ⟨t.b, 2, none⟩ (.int .i64 r)).setCell ⟨t.b, 3, none⟩ (ptr none)).setCell ⟨t.b, 4, none⟩ (ptr o)) :
    TBlk w3 (setRing t r) none o ∧ (∀ b, b ≠ t.b → w3.heap[b]? = w.heap[b]?) ∧ ∀ S : Nat → Prop, S t.b → Kept S w w3 := by
  subst hw
  refine ⟨((hT.ring r).prev none).next _, fun b hb => ?_, fun S hS => ((Kept.setCell (S := S) _ _ _ hS).trans (Kept.setCell _ _ _ hS) fun _ _ h => h).trans (Kept.setCell _ _ _ hS) fun _ _ h => h⟩
  rw [Base.heap_setCell_other _ hb, Base.heap_setCell_other _ hb, Base.heap_setCell_other _ hb]
theorem Kept.two {S : Nat → Prop} {w w4 : World} (K : Kept S w w4) {b : Nat} (hS : S b) (i j : Nat) (u v : Value) : Kept S w ((w4.setCell ⟨b, i, none⟩ u).setCell ⟨b, j, none⟩ v) :=
  (K.trans (Kept.setCell _ _ _ hS) fun _ _ h => h).trans (Kept.setCell _ _ _ hS) fun _ _ h => h

theorem hung_nil_ok (R : Rings w wb mb now H sl) {t : Tm} {p q : Option Nat} (hT : TBlk w t p q) (hnt : ∀ u ∈ H, u.b ≠ t.b) (htw : t.b ≠ wb) (htm : t.b ≠ mb) (hta : t.at_ ≤ 1099511627776) {r k : Nat} (hr : r < 7) (hk : k = digit r t.at_) (hL : sl r k = []) {w3 w' : World}
    (hw3 : w3 = ((w.setCell ⟨t.b, 2, none⟩ (.int .i64 r)).setCell ⟨t.b, 3, none⟩ (ptr none)).setCell ⟨t.b, 4, none⟩ (ptr none))
    (hw' : w' = (w3.setCell ⟨wb, 1 + r * 64 + k, none⟩ (ptr (some t.b))).setCell ⟨wb, 449 + r, none⟩ (.int .i64 (((H.filter (inRing r)).length : Int) + 1))) :
    Rings w' wb mb now (setRing t r :: H) (slAdd sl (setRing t r)) ∧ Kept (fun b => isB wb H b ∨ b = t.b) w w' := by
  obtain ⟨h1, h2, h3⟩ := hung3 hT r none hw3
  refine ⟨hung_core (t := setRing t r) R hnt htw htm hta hr hk hL rfl (R.blk.same (h2 wb (Ne.symm htw))) h1 trivial (fun u hu _ => h2 u.b (hnt u hu)) hw', ?_⟩
  rw [hw']
  exact Kept.two (h3 _ (.inr rfl)) (.inl (.inl rfl)) _ _ _ _

theorem hung_cons_ok (R : Rings w wb mb now H sl) {t : Tm} {p q : Option Nat} (hT : TBlk w t p q) (hnt : ∀ u ∈ H, u.b ≠ t.b) (htw : t.b ≠ wb) (htm : t.b ≠ mb) (hta : t.at_ ≤ 1099511627776) {r k : Nat} (hr : r < 7) (hk : k = digit r t.at_) {u : Tm} {L : List Tm} (hL : sl r k = u :: L) {w3 w' : World}
    (hw3 : w3 = ((w.setCell ⟨t.b, 2, none⟩ (.int .i64 r)).setCell ⟨t.b, 3, none⟩ (ptr none)).setCell ⟨t.b, 4, none⟩ (ptr (some u.b)))
    (hw' : w' = ((w3.setCell ⟨u.b, 3, none⟩ (ptr (some t.b))).setCell ⟨wb, 1 + r * 64 + k, none⟩ (ptr (some t.b))).setCell ⟨wb, 449 + r, none⟩ (.int .i64 (((H.filter (inRing r)).length : Int) + 1))) :
    Rings w' wb mb now (setRing t r :: H) (slAdd sl (setRing t r)) ∧ Kept (fun b => isB wb H b ∨ b = t.b) w w' := by
  obtain ⟨h1, h2, h3⟩ := hung3 hT r _ hw3
  have hk64 : k < 64 := hk ▸ digit_lt r t.at_
  have hu : u ∈ H := ((R.slot_mem hr hk64).1 (by rw [hL]; simp)).1
  have hC := R.ch r hr k hk64
  have hN := R.slot_nd hr hk64
  rw [hL] at hC hN
  have hC3 : Ch w3 none (u :: L) none := hC.same fun v hv => h2 v.b (hnt v ((R.slot_mem hr hk64).1 (hL ▸ hv)).1)
  have huw := (R.ap u hu).1
  refine ⟨hung_core (t := setRing t r) R hnt htw htm hta hr hk hL rfl ?_ ?_ (hC3.first hN) ?_ hw', ?_⟩
  · exact R.blk.same ((Base.heap_setCell_other _ (Ne.symm huw)).trans (h2 wb (Ne.symm htw)))
  · exact TBlk.other h1 (Ne.symm (hnt u hu))
  · intro v hv hvl
    rw [Base.heap_setCell_other _ fun e => hvl (inj_of R.nd hv hu e ▸ List.mem_cons_self)]
    exact h2 v.b (hnt v hv)
  · rw [hw']
    exact Kept.two ((h3 _ (.inr rfl)).trans (Kept.setCell _ _ _ (.inl (.inr ⟨u, hu, rfl⟩))) fun _ _ h => h) (.inl (.inl rfl)) _ _ _ _

theorem hang_ok (R : Rings w wb mb now H sl) {t : Tm} {p q : Option Nat} (hT : TBlk w t p q) (hnt : ∀ u ∈ H, u.b ≠ t.b) (htw : t.b ≠ wb) (htm : t.b ≠ mb) (hta : t.at_ ≤ 1099511627776) (hnow : now ≤ 1099511627776) (hlen : H.length ≤ 4096) :
    Ret Try.prog 29 #[.pointer (some ⟨wb, 0, none⟩), .pointer (some ⟨t.b, 0, none⟩)] w fun v w' => v = .tuple #[] ∧
      Rings w' wb mb now (setRing t (level t.at_ now) :: H) (slAdd sl (setRing t (level t.at_ now))) ∧ Kept (fun b => isB wb H b ∨ b = t.b) w w' := by
  have hr : level t.at_ now < 7 := by
    have := level_small (a := t.at_) (b := now) (by omega) (by omega); omega
  generalize hre : level t.at_ now = r at hr ⊢
  have hk := digit_lt r t.at_
  generalize hke : digit r t.at_ = k at hk
  obtain ⟨_, c1, c2, c3, c4, f⟩ := hT.c
  have hcnt : (H.filter (inRing r)).length ≤ 4096 := Nat.le_trans (List.length_filter_le _ _) hlen
  have hsl := R.blk.cs hr hk
  have hch := R.ch r hr k hk
  cases hL : sl r k with
  | nil =>
    rw [hL] at hsl
    refine (hang_nil wb t.b now t.at_ r _ _ _ _ w htw hta hnow hre R.blk.c0 c1 c2 c3 c4 f (fun i => R.blk.free i) (by rw [hke]; exact hsl) (R.blk.cn hr) (by omega)).mono fun v w' ⟨hv, hw'⟩ => ⟨hv, ?_⟩
    refine hung_nil_ok R hT hnt htw htm hta hr hke.symm hL rfl (hw'.trans ?_)
    unfold hung
    rw [hke]; rfl
  | cons u L =>
    rw [hL] at hsl hch
    have hu : u ∈ H := ((R.slot_mem hr hk).1 (by rw [hL]; simp)).1
    obtain ⟨_, _, _, g3, _, g⟩ := hch.1.c
    refine (hang_cons wb t.b u.b now t.at_ r _ _ _ _ _ w htw (R.ap u hu).1 (hnt u hu) hta hnow hre R.blk.c0 c1 c2 c3 c4 f (fun i => R.blk.free i) g3 (g 3) (by rw [hke]; exact hsl) (R.blk.cn hr) (by omega)).mono fun v w' ⟨hv, hw'⟩ => ⟨hv, ?_⟩
    refine hung_cons_ok R hT hnt htw htm hta hr hke.symm hL rfl (hw'.trans ?_)
    unfold hung
    rw [hke]; rfl
end Go.Proofs.Ytogfllhbgkeinaa.Wheel

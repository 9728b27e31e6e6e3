/-
  Advance, its second part: those that have lapsed leave, the others hang anew.
-/
import Derived.Test.YtogfllhbgkeinaaAdv
set_option linter.unusedVariables false
set_option linter.unusedSimpArgs false
namespace Go.Proofs.Ytogfllhbgkeinaa.Wheel
open Go.RowKit Base Lev Wa Eng Wb Spc
open Go.ChangeMaps (setBlock)
variable {w w0 : World} {wb mb now to : Nat} {H F F1 F2 D Hs H2 : List Tm} {sl sl2 : Nat → Nat → List Tm} {kv kv2 : KV} {M : List Ent} {B : Nat → Prop} {a fa : Option Addr} {cap fcap : Nat}

def lapsed (to : Nat) (t : Tm) : Bool := decide (t.at_ ≤ to)
def live (to : Nat) (t : Tm) : Bool := !decide (t.at_ ≤ to)
def again (to : Nat) (t : Tm) : Tm := setRing t (level t.at_ to)
/-- F = F1 ++ F2 were taken out, Hs stayed; of F1 each one has lapsed or hangs anew -/
structure Ph2 (w0 w : World) (wb mb to : Nat) (H F1 F2 Hs : List Tm) (fa : Option Addr) (fcap : Nat) (a : Option Addr) (cap : Nat) (H2 : List Tm) (sl2 : Nat → Nat → List Tm) (kv2 : KV) : Prop where
  R : Rings w wb mb to H2 sl2
  m : SMap w mb kv2
  kp : kv2.Perm ((F2 ++ H2).map kvOf)
  p : H2.Perm ((F1.filter (live to)).map (again to) ++ Hs)
  f2 : ∀ t ∈ F2, ∃ p q, TBlk w t p q
  d : ∀ t ∈ F1.filter (lapsed to), ∃ p q, TBlk w t p q
  s : ∃ fb db, Sl w 62 1 fa (F1 ++ F2).length fcap (ptrs (F1 ++ F2)) fb ∧ Sl w 62 1 a (F1.filter (lapsed to)).length cap (ptrs (F1.filter (lapsed to))) db ∧ (∀ x ∈ fb, w0.heap.size ≤ x ∧ db ≠ some x) ∧ ∀ x ∈ db, w0.heap.size ≤ x
  k : Kept (own wb mb H) w0 w
/-- what does not change meanwhile -/
structure Ph0 (w0 : World) (wb mb now to : Nat) (H F Hs : List Tm) : Prop where
  p : H.Perm (F ++ Hs)
  nd : (H.map (·.b)).Nodup
  idn : (H.map (·.id)).Nodup
  lt : ∀ x, own wb mb H x → x < w0.heap.size
  ap : ∀ t ∈ H, t.b ≠ wb ∧ t.b ≠ mb ∧ t.at_ ≤ 1099511627776 ∧ isName t.id = true
  hs : ∀ t ∈ Hs, t.ring = level t.at_ to ∧ to < t.at_
  nw : to ≤ 1099511627776
  wm : wb ≠ mb
  ln : H.length ≤ 4096

theorem Ph0.nd2 (S : Ph0 w0 wb mb now to H F Hs) : ((F ++ Hs).map (·.b)).Nodup := (S.p.map _).nodup_iff.1 S.nd
theorem Ph0.id2 (S : Ph0 w0 wb mb now to H F Hs) : ((F ++ Hs).map (·.id)).Nodup := (S.p.map _).nodup_iff.1 S.idn
theorem Ph0.inH (S : Ph0 w0 wb mb now to H F Hs) {t : Tm} (h : t ∈ F) : t ∈ H := S.p.mem_iff.2 (List.mem_append.2 (.inl h))
theorem Ph0.inS (S : Ph0 w0 wb mb now to H F Hs) {t : Tm} (h : t ∈ Hs) : t ∈ H := S.p.mem_iff.2 (List.mem_append.2 (.inr h))
theorem again_b (to : Nat) (t : Tm) : (again to t).b = t.b := rfl
theorem kvOf_again (to : Nat) (t : Tm) : kvOf (again to t) = kvOf t := rfl
theorem pr_again (to : Nat) (t : Tm) : pr (again to t) = pr t := rfl
/-- one that hangs now was one of H -/
theorem Ph2.src (S : Ph0 w0 wb mb now to H (F1 ++ F2) Hs) (h : Ph2 w0 w wb mb to H F1 F2 Hs fa fcap a cap H2 sl2 kv2) {u : Tm} (hu : u ∈ H2) : ∃ t, (t ∈ F1 ∧ live to t = true ∨ t ∈ Hs) ∧ u.b = t.b ∧ u.id = t.id ∧ u.at_ = t.at_ ∧ u.ring = level t.at_ to ∧ to < t.at_ := by
  rcases List.mem_append.1 (h.p.mem_iff.1 hu) with hu | hu
  · obtain ⟨t, ht, rfl⟩ := List.mem_map.1 hu
    obtain ⟨h1, h2⟩ := List.mem_filter.1 ht
    refine ⟨t, .inl ⟨h1, h2⟩, rfl, rfl, rfl, rfl, ?_⟩
    simp [live] at h2; omega
  · exact ⟨u, .inr hu, rfl, rfl, rfl, S.hs u hu⟩
theorem Ph2.own2 (S : Ph0 w0 wb mb now to H (F1 ++ F2) Hs) (h : Ph2 w0 w wb mb to H F1 F2 Hs fa fcap a cap H2 sl2 kv2) {u : Tm} (hu : u ∈ H2) : own wb mb H u.b := by
  obtain ⟨t, ht, e, _⟩ := h.src S hu
  refine .inr (.inr ⟨t, ?_, e.symm⟩)
  rcases ht with ⟨ht, _⟩ | ht
  · exact S.inH (List.mem_append.2 (.inl ht))
  · exact S.inS ht
theorem Ph2.len2 (S : Ph0 w0 wb mb now to H (F1 ++ F2) Hs) (h : Ph2 w0 w wb mb to H F1 F2 Hs fa fcap a cap H2 sl2 kv2) : H2.length + F2.length ≤ H.length := by
  have h1 := h.p.length_eq
  have h2 := S.p.length_eq
  have h3 := List.length_filter_le (live to) F1
  rw [List.length_append, List.length_map] at h1
  rw [List.length_append, List.length_append] at h2
  omega
/-- the blocks of those that hang are not those of one that was taken out and is yet to come, nor of one that has lapsed -/
theorem Ph2.apart (S : Ph0 w0 wb mb now to H (F1 ++ F2) Hs) (h : Ph2 w0 w wb mb to H F1 F2 Hs fa fcap a cap H2 sl2 kv2) {u v : Tm} (hu : u ∈ H2) (hv : v ∈ F2 ∨ v ∈ F1.filter (lapsed to)) : u.b ≠ v.b ∧ u.id ≠ v.id := by
  obtain ⟨t, ht, e1, e2, _⟩ := h.src S hu
  rw [e1, e2]
  have hv' : v ∈ H := by
    rcases hv with hv | hv
    · exact S.inH (List.mem_append.2 (.inr hv))
    · exact S.inH (List.mem_append.2 (.inl (List.mem_filter.1 hv).1))
  have ht' : t ∈ H := by
    rcases ht with ⟨ht, _⟩ | ht
    · exact S.inH (List.mem_append.2 (.inl ht))
    · exact S.inS ht
  have hne : t ≠ v := by
    rintro rfl
    have nd : (F1 ++ F2 ++ Hs).Nodup := map_nodup S.nd2
    rcases ht with ⟨ht, hl⟩ | ht
    · rcases hv with hv | hv
      · rw [List.append_assoc, List.nodup_append] at nd
        exact nd.2.2 t ht t (List.mem_append.2 (.inl hv)) rfl
      · have := (List.mem_filter.1 hv).2
        simp [live, lapsed] at hl this
        omega
    · rw [List.nodup_append] at nd
      refine nd.2.2 t ?_ t ht rfl
      rcases hv with hv | hv
      · exact List.mem_append.2 (.inr hv)
      · exact List.mem_append.2 (.inl (List.mem_filter.1 hv).1)
  have key : ∀ (f : Tm → ByteArray), (H.map f).Nodup → f t ≠ f v := fun f hn e => by
    have : ∀ (L : List Tm), (L.map f).Nodup → t ∈ L → v ∈ L → t = v := by
      intro L
      induction L with
      | nil => intro _ h; cases h
      | cons x L ih =>
        intro hn h1 h2
        simp only [List.map_cons, List.nodup_cons] at hn
        rcases List.mem_cons.1 h1 with g1 | g1 <;> rcases List.mem_cons.1 h2 with g2 | g2
        · rw [g1, g2]
        · exact (hn.1 (List.mem_map.2 ⟨v, g2, by rw [← e, g1]⟩)).elim
        · exact (hn.1 (List.mem_map.2 ⟨t, g1, by rw [e, g2]⟩)).elim
        · exact ih hn.2 g1 g2
    exact hne (this H hn ht' hv')
  exact ⟨fun e => hne (inj_of S.nd ht' hv' e), key _ S.idn⟩

/-- the next one hangs anew -/
theorem Ph2.hang {t : Tm} {F3 : List Tm} (S : Ph0 w0 wb mb now to H (F1 ++ t :: F3) Hs) (h : Ph2 w0 w wb mb to H F1 (t :: F3) Hs fa fcap a cap H2 sl2 kv2) (hl : ¬ t.at_ ≤ to) {w' : World} {sl' : Nat → Nat → List Tm}
    (R' : Rings w' wb mb to (again to t :: H2) sl') (K' : Kept (fun b => isB wb H2 b ∨ b = t.b) w w') : Ph2 w0 w' wb mb to H (F1 ++ [t]) F3 Hs fa fcap a cap (again to t :: H2) sl' kv2 := by
  have hap := S.ap t (S.inH (List.mem_append.2 (.inr List.mem_cons_self)))
  have hno : ∀ v : Tm, v ∈ F3 ∨ v ∈ F1.filter (lapsed to) → ¬ (isB wb H2 v.b ∨ v.b = t.b) := fun v hv e => by
    have hv' : v ∈ t :: F3 ∨ v ∈ F1.filter (lapsed to) := by
      rcases hv with hv | hv
      · exact .inl (List.mem_cons_of_mem _ hv)
      · exact .inr hv
    have hvH : v ∈ H := by
      rcases hv' with hv | hv
      · exact S.inH (List.mem_append.2 (.inr hv))
      · exact S.inH (List.mem_append.2 (.inl (List.mem_filter.1 hv).1))
    rcases e with (e | ⟨u, hu, e⟩) | e
    · exact (S.ap v hvH).1 e
    · exact (h.apart S hu hv').1 e
    · have nd := S.nd2
      have hvt := inj_of S.nd hvH (S.inH (List.mem_append.2 (.inr List.mem_cons_self))) e
      subst hvt
      have nd : (F1 ++ v :: F3 ++ Hs).Nodup := map_nodup S.nd2
      rw [List.append_assoc, List.nodup_append] at nd
      rcases hv with hv | hv
      · have := nd.2.1
        rw [List.cons_append, List.nodup_cons] at this
        exact this.1 (List.mem_append.2 (.inl hv))
      · exact nd.2.2 v (List.mem_filter.1 hv).1 v (by simp) rfl
  have hf1 : (F1 ++ [t]).filter (lapsed to) = F1.filter (lapsed to) := by
    rw [List.filter_append]; simp [lapsed, hl]
  have hf2 : (F1 ++ [t]).filter (live to) = F1.filter (live to) ++ [t] := by
    rw [List.filter_append]; simp [live, hl]
  have hold : ∀ x, w0.heap.size ≤ x → ¬ (isB wb H2 x ∨ x = t.b) := fun x hx e => by
    have := S.lt x (by
      rcases e with (e | ⟨u, hu, e⟩) | e
      · exact .inl e
      · exact e ▸ h.own2 S hu
      · exact .inr (.inr ⟨t, S.inH (List.mem_append.2 (.inr List.mem_cons_self)), e.symm⟩))
    omega
  obtain ⟨fb, db, s1, s2, s3, s4⟩ := h.s
  refine ⟨R', h.m.kept K' fun e => ?_, h.kp.trans ?_, ?_, fun v hv => ?_, fun v hv => ?_, ⟨fb, db, ?_, ?_, s3, s4⟩, h.k.trans K' fun x _ e => ?_⟩
  · rcases e with (e | ⟨u, hu, e⟩) | e
    · exact S.wm e.symm
    · exact (h.R.ap u hu).2.1 e
    · exact hap.2.1 e.symm
  · show ((t :: F3 ++ H2).map kvOf).Perm ((F3 ++ again to t :: H2).map kvOf)
    have : (again to t :: (F3 ++ H2)).map kvOf = (t :: F3 ++ H2).map kvOf := by simp [kvOf_again]
    rw [← this]
    exact (List.perm_middle (l₁ := F3) (l₂ := H2)).symm.map kvOf
  · rw [hf2, List.map_append, List.append_assoc]
    exact (h.p.cons _).trans (List.perm_middle (l₁ := (F1.filter (live to)).map (again to))).symm
  · obtain ⟨p, q, hT⟩ := h.f2 v (List.mem_cons_of_mem _ hv)
    refine ⟨p, q, ?_⟩
    unfold TBlk at *
    exact K'.at hT (hno v (.inl hv))
  · rw [hf1] at hv
    obtain ⟨p, q, hT⟩ := h.d v hv
    refine ⟨p, q, ?_⟩
    unfold TBlk at *
    exact K'.at hT (hno v (.inr hv))
  · have := s1.kept K' fun x hx => hold x (s3 x hx).1
    simpa using this
  · rw [hf1]
    exact s2.kept K' fun x hx => hold x (s4 x hx)
  · rcases e with (e | ⟨u, hu, e⟩) | e
    · exact .inl e
    · exact e ▸ h.own2 S hu
    · exact .inr (.inr ⟨t, S.inH (List.mem_append.2 (.inr List.mem_cons_self)), e.symm⟩)

/-- the next one has lapsed -/
theorem Ph2.lapse {t : Tm} {F3 : List Tm} (S : Ph0 w0 wb mb now to H (F1 ++ t :: F3) Hs) (h : Ph2 w0 w wb mb to H F1 (t :: F3) Hs fa fcap a cap H2 sl2 kv2) (hl : t.at_ ≤ to) {db : Option Nat} {fb : Option Nat}
    (s1 : Sl w 62 1 fa (F1 ++ t :: F3).length fcap (ptrs (F1 ++ t :: F3)) fb) (s3 : ∀ x ∈ fb, w0.heap.size ≤ x ∧ db ≠ some x) (s4 : ∀ x ∈ db, w0.heap.size ≤ x) {w1 w2 w3 : World} (X1 : Ext w w1) {b' : Option Nat} {a' : Option Addr} {cap' : Nat}
    (g2 : Sl w2 62 1 a' ((F1.filter (lapsed to)).length + 1) cap' (ptrs (F1.filter (lapsed to)) ++ ptrs [t]) b') (k2 : Kept (fun i => db = some i) w1 w2) (e2 : b' = db ∨ b' = some w1.heap.size ∧ w1.heap.size < w2.heap.size) {o : Obj}
    (hw3 : w3 = setBlock w2 mb o) (m3 : SMap w3 mb (del kv2 t.id)) : Ph2 w0 w3 wb mb to H (F1 ++ [t]) F3 Hs fa fcap a' cap' H2 sl2 (del kv2 t.id) := by
  have htH : t ∈ H := S.inH (List.mem_append.2 (.inr List.mem_cons_self))
  have hap := S.ap t htH
  have hold : ∀ x, x < w0.heap.size → ¬ db = some x := fun x hx e => by
    have := s4 x e; omega
  have hmb : mb < w0.heap.size := S.lt mb (.inr (.inl rfl))
  have hwb : wb < w0.heap.size := S.lt wb (.inl rfl)
  have K2 : Kept (fun i => db = some i) w w2 := (X1.kept _).trans k2 fun _ _ h => h
  have K3 : Kept (fun i => i = mb) w2 w3 := by rw [hw3]; exact Kept.setBlock _ _ _ rfl
  have hsz1 : w0.heap.size ≤ w1.heap.size := Nat.le_trans h.k.size X1.size
  have hf1 : (F1 ++ [t]).filter (lapsed to) = F1.filter (lapsed to) ++ [t] := by
    rw [List.filter_append]; simp [lapsed, hl]
  have hf2 : (F1 ++ [t]).filter (live to) = F1.filter (live to) := by
    rw [List.filter_append]; simp [live, hl]
  have tb : ∀ {v : Tm}, v ∈ H → ∀ {p q}, TBlk w v p q → TBlk w3 v p q := fun {v} hv {p q} hT => by
    unfold TBlk at *
    exact K3.at (K2.at hT (hold _ (S.lt _ (.inr (.inr ⟨v, hv, rfl⟩))))) (S.ap v hv).2.1
  have hidn : ((t :: F3 ++ H2).map (·.id)).Nodup := by
    have h1 := S.id2
    have h2 : (((F1.filter (live to)).map (again to) ++ Hs) ++ t :: F3).map (·.id) = ((F1.filter (live to)) ++ (Hs ++ t :: F3)).map (·.id) := by
      simp [List.map_append, again, setRing]
    have h3 : ((t :: F3 ++ H2).map (·.id)).Perm (((F1.filter (live to)).map (again to) ++ Hs) ++ t :: F3 |>.map (·.id)) := (List.perm_append_comm.trans (List.Perm.append_right _ h.p)).map _
    rw [h3.nodup_iff, h2]
    have h4 : ((F1.filter (live to)) ++ (Hs ++ t :: F3)).map (·.id) |>.Perm (((F1.filter (live to)) ++ (t :: F3 ++ Hs)).map (·.id)) := (List.Perm.append_left _ List.perm_append_comm).map _
    rw [h4.nodup_iff]
    rw [List.append_assoc] at h1
    exact ((List.filter_sublist.append_right _).map _).nodup h1
  refine ⟨?_, m3, ?_, by rw [hf2]; exact h.p, fun v hv => ?_, fun v hv => ?_, ⟨fb, b', ?_, ?_, fun x hx => ⟨(s3 x hx).1, ?_⟩, fun x hx => ?_⟩, (h.k.trans K2 fun x hx e => (hold x hx e).elim).trans K3 fun x _ e => .inr (.inl e)⟩
  · refine (h.R.kept K2 (hold wb hwb) fun u hu => hold _ (S.lt _ (h.own2 S hu))).kept K3 S.wm fun u hu => (h.R.ap u hu).2.1
  · have hh := h.kp.filter (fun p => !decide (p.1 = t.id))
    unfold del
    refine hh.trans ?_
    rw [List.filter_map]
    have : ((fun p : ByteArray × Value => !decide (p.1 = t.id)) ∘ kvOf) = fun u => !decide (u.id = t.id) := rfl
    rw [this, List.cons_append, List.filter_cons]
    rw [List.cons_append, List.map_cons, List.nodup_cons] at hidn
    have : (F3 ++ H2).filter (fun u => !decide (u.id = t.id)) = F3 ++ H2 := List.filter_eq_self.2 fun u hu => by
      have : u.id ≠ t.id := fun e => hidn.1 (List.mem_map.2 ⟨u, hu, e⟩)
      simp [this]
    rw [this]
    simp
  · obtain ⟨p, q, hT⟩ := h.f2 v (List.mem_cons_of_mem _ hv)
    exact ⟨p, q, tb (S.inH (List.mem_append.2 (.inr (List.mem_cons_of_mem _ hv)))) hT⟩
  · rw [hf1] at hv
    rcases List.mem_append.1 hv with hv | hv
    · obtain ⟨p, q, hT⟩ := h.d v hv
      exact ⟨p, q, tb (S.inH (List.mem_append.2 (.inl (List.mem_filter.1 hv).1))) hT⟩
    · obtain rfl := List.mem_singleton.1 hv
      obtain ⟨p, q, hT⟩ := h.f2 v List.mem_cons_self
      exact ⟨p, q, tb htH hT⟩
  · have := (s1.kept K2 fun x hx => (s3 x hx).2).kept K3 fun x hx e => by
      have := (s3 x hx).1; omega
    simpa using this
  · rw [hf1]
    have := g2.kept K3 fun x hx e => by
      rcases e2 with rfl | ⟨rfl, _⟩
      · have := s4 x hx; omega
      · cases hx; omega
    simpa [ptrs] using this
  · rcases e2 with rfl | ⟨rfl, _⟩
    · exact (s3 x hx).2
    · have := s1.lt hx
      intro e
      cases e
      have := X1.size
      omega
  · rcases e2 with rfl | ⟨rfl, _⟩
    · exact s4 x hx
    · cases hx; exact hsz1
end Go.Proofs.Ytogfllhbgkeinaa.Wheel

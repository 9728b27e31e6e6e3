/-
  Advance, its first part: the slots that the time has come to are emptied.
-/
import Derived.Test.YtogfllhbgkeinaaWh5
set_option linter.unusedVariables false
set_option linter.unusedSimpArgs false
namespace Go.Proofs.Ytogfllhbgkeinaa.Wheel
open Go.RowKit Base Lev Wa Eng Wb Spc
open Go.ChangeMaps (setBlock)
variable {w w0 : World} {wb mb now to : Nat} {H F Hc : List Tm} {sl slc : Nat → Nat → List Tm} {kv : KV} {M : List Ent} {B : Nat → Prop} {a : Option Addr} {cap : Nat}

def ptrs (F : List Tm) : List Value := F.map fun t => ptr (some t.b)
theorem ptrs_len (F : List Tm) : (ptrs F).length = F.length * 1 := by simp [ptrs]
theorem ptrs_one (F : List Tm) : ∀ v ∈ ptrs F, v.oneCell' = true := fun v hv => by
  obtain ⟨t, _, rfl⟩ := List.mem_map.1 hv; rfl
/-- the timers F taken out, Hc still hanging -/
structure Ph1 (w0 w : World) (wb mb now : Nat) (H F : List Tm) (a : Option Addr) (cap : Nat) (Hc : List Tm) (slc : Nat → Nat → List Tm) : Prop where
  R : Rings w wb mb now Hc slc
  p : H.Perm (F ++ Hc)
  f : ∀ t ∈ F, ∃ p q, TBlk w t p q
  s : ∃ b, Sl w 62 1 a F.length cap (ptrs F) b ∧ ∀ x ∈ b, w0.heap.size ≤ x
  k : Kept (isB wb H) w0 w
theorem Ph1.start (h1 : Whl w wb mb now H sl kv) : Ph1 w w wb mb now H [] none 0 H sl :=
  ⟨h1.R, .refl _, fun t h => (by cases h), ⟨none, .nil, fun x h => (by cases h)⟩, Kept.refl _ _⟩
theorem Ph1.len (h : Ph1 w0 w wb mb now H F a cap Hc slc) : H.length = F.length + Hc.length := by rw [h.p.length_eq, List.length_append]
theorem Ph1.nd (h : Ph1 w0 w wb mb now H F a cap Hc slc) (hn : (H.map (·.b)).Nodup) : ((F ++ Hc).map (·.b)).Nodup := (h.p.map _).nodup_iff.1 hn
/-- one more -/
theorem Ph1.pop (h : Ph1 w0 w wb mb now H F a cap Hc slc) (hn : (H.map (·.b)).Nodup) (hlt : ∀ t ∈ H, t.b < w0.heap.size) (hwb : wb < w0.heap.size) {t : Tm} (ht : t ∈ Hc) {w1 w2 w3 : World} {sl1 : Nat → Nat → List Tm} (R1 : Rings w1 wb mb now (Hc.filter (notB t.b)) sl1) (T1 : ∃ p q, TBlk w1 t p q)
    (K1 : Kept (isB wb Hc) w w1) (X2 : Ext w1 w2) {b b' : Option Nat} {a' : Option Addr} {cap' : Nat} (hb : ∀ x ∈ b, w0.heap.size ≤ x)
    (s3 : Sl w3 62 1 a' (F.length + 1) cap' (ptrs F ++ ptrs [t]) b') (k3 : Kept (fun i => b = some i) w2 w3) (e3 : b' = b ∨ b' = some w2.heap.size ∧ w2.heap.size < w3.heap.size) :
    Ph1 w0 w3 wb mb now H (F ++ [t]) a' cap' (Hc.filter (notB t.b)) sl1 := by
  have hHc : ∀ u ∈ Hc, u ∈ H := fun u hu => h.p.mem_iff.2 (List.mem_append.2 (.inr hu))
  have hF : ∀ u ∈ F, u ∈ H := fun u hu => h.p.mem_iff.2 (List.mem_append.2 (.inl hu))
  have nd := h.nd hn
  have K3 : Kept (fun i => b = some i) w1 w3 := (X2.kept _).trans k3 fun _ _ h => h
  have hold : ∀ x, x < w0.heap.size → ¬ b = some x := fun x hx e => by
    have := hb x e; omega
  have hsz : w0.heap.size ≤ w2.heap.size := Nat.le_trans h.k.size (Nat.le_trans K1.size X2.size)
  refine ⟨R1.kept K3 (hold wb hwb) fun u hu => hold u.b (hlt u (hHc u (List.mem_filter.1 hu).1)), ?_, ?_, ⟨b', by simpa [ptrs] using s3, ?_⟩, (h.k.trans (K1.mono fun x _ hx => ?_) fun _ _ h => h).trans K3 fun x hx e => (hold x hx e).elim⟩
  · obtain ⟨A, C, rfl⟩ := List.append_of_mem ht
    have nd2 : ((A ++ t :: C).map (·.b)).Nodup := by
      rw [List.map_append, List.nodup_append] at nd; exact nd.2.1
    rw [filter_notB nd2]
    refine h.p.trans ?_
    rw [List.append_assoc]
    exact List.Perm.append_left F List.perm_middle
  · intro u hu
    rcases List.mem_append.1 hu with hu | hu
    · obtain ⟨p, q, hT⟩ := h.f u hu
      refine ⟨p, q, ?_⟩
      unfold TBlk at *
      refine K3.at (K1.at hT fun hx => ?_) (hold _ (hlt u (hF u hu)))
      rcases hx with e | ⟨v, hv, e⟩
      · exact (R1.ap t (by exfalso; exact absurd e (by
          have := (h.R.ap t ht).1
          intro e'
          obtain ⟨c, hb, _⟩ := h.R.blk.ex
          rw [← e', hT] at hb
          simp at hb))).1 (by exfalso; exact absurd e (by
          intro e'
          obtain ⟨c, hb, _⟩ := h.R.blk.ex
          rw [← e', hT] at hb
          simp at hb))
      · rw [List.map_append, List.nodup_append] at nd
        exact nd.2.2 u.b (List.mem_map.2 ⟨u, hu, rfl⟩) v.b (List.mem_map.2 ⟨v, hv, rfl⟩) e.symm
    · obtain rfl := List.mem_singleton.1 hu
      obtain ⟨p, q, hT⟩ := T1
      refine ⟨p, q, ?_⟩
      unfold TBlk at *
      exact K3.at hT (hold _ (hlt u (hHc u ht)))
  · intro x hx
    rcases e3 with rfl | ⟨rfl, _⟩
    · exact hb x hx
    · cases hx; exact hsz
  · rcases hx with e | ⟨v, hv, e⟩
    · exact .inl e
    · exact .inr ⟨v, hHc v hv, e⟩

/-- what is taken out: moved is the ring whose digit turns -/
def took (to m : Nat) (t : Tm) : Prop := t.ring < m ∨ (t.ring = m ∧ digit m t.at_ ≤ digit m to)
def stays (to m : Nat) (t : Tm) : Prop := m < t.ring ∨ (t.ring = m ∧ digit m to < digit m t.at_)
def past (to m r : Nat) (Hc : List Tm) : Prop := ∀ t ∈ Hc, (r ≤ m → r ≤ t.ring) ∧ (m < r → stays to m t)

end Go.Proofs.Ytogfllhbgkeinaa.Wheel

/-
  What a wheel is in memory: a block of 457 cells, sixty-four lists in each of seven rings, a map of names; what hang and unhang make of it. No walk here.
-/
import Derived.Test.YtogfllhbgkeinaaWb
set_option linter.unusedVariables false
set_option linter.unusedSimpArgs false
namespace Go.Proofs.Ytogfllhbgkeinaa.Wheel
open Go.RowKit Base Lev Wa Eng Wb

structure Tm where
  b : Nat
  id : ByteArray
  at_ : Nat
  ring : Nat

def ptr (o : Option Nat) : Value := .pointer (o.map fun b => ⟨b, 0, none⟩)
def nx (L : List Tm) (q : Option Nat) : Option Nat := match L with
  | [] => q
  | t :: _ => some t.b
def lst (p : Option Nat) : List Tm → Option Nat
  | [] => p
  | t :: L => lst (some t.b) L
def tcells (t : Tm) (p q : Option Nat) : Array Value := #[.string t.id, .int .i64 t.at_, .int .i64 t.ring, ptr p, ptr q]
def TBlk (w : World) (t : Tm) (p q : Option Nat) : Prop := w.heap[t.b]? = some (.cells (tcells t p q) 68 (0, 0))
def Ch (w : World) : Option Nat → List Tm → Option Nat → Prop
  | _, [], _ => True
  | p, t :: L, q => TBlk w t p (nx L q) ∧ Ch w (some t.b) L q
theorem nx_append (A B : List Tm) (q : Option Nat) : nx (A ++ B) q = nx A (nx B q) := by cases A <;> rfl
theorem Ch.append {w : World} {q : Option Nat} {A B : List Tm} : ∀ {p : Option Nat}, Ch w p (A ++ B) q ↔ Ch w p A (nx B q) ∧ Ch w (lst p A) B q := by
  induction A with
  | nil => intro p; simp [Ch, lst]
  | cons t A ih => intro p; simp only [List.cons_append, Ch, lst, nx_append, ih, and_assoc]
theorem Ch.same {w w' : World} {q : Option Nat} {A : List Tm} : ∀ {p : Option Nat}, Ch w p A q → (∀ t ∈ A, w'.heap[t.b]? = w.heap[t.b]?) → Ch w' p A q := by
  induction A with
  | nil => intro p _ _; trivial
  | cons t A ih =>
    intro p h k
    exact ⟨by unfold TBlk; rw [k t List.mem_cons_self]; exact h.1, ih h.2 fun u hu => k u (List.mem_cons_of_mem _ hu)⟩
theorem Ch.mem {w : World} {q : Option Nat} {A : List Tm} : ∀ {p : Option Nat}, Ch w p A q → ∀ t ∈ A, ∃ p' q', TBlk w t p' q' := by
  induction A with
  | nil => intro p _ t ht; cases ht
  | cons u A ih =>
    intro p h t ht
    rcases List.mem_cons.1 ht with rfl | ht
    · exact ⟨_, _, h.1⟩
    · exact ih h.2 t ht
theorem TBlk.prev {w : World} {t : Tm} {p q : Option Nat} (h : TBlk w t p q) (p' : Option Nat) : TBlk (w.setCell ⟨t.b, 3, none⟩ (ptr p')) t p' q := by
  unfold TBlk at *
  rw [Base.heap_setCell_same h]; rfl
theorem TBlk.next {w : World} {t : Tm} {p q : Option Nat} (h : TBlk w t p q) (q' : Option Nat) : TBlk (w.setCell ⟨t.b, 4, none⟩ (ptr q')) t p q' := by
  unfold TBlk at *
  rw [Base.heap_setCell_same h]; rfl
theorem TBlk.ring {w : World} {t : Tm} {p q : Option Nat} (h : TBlk w t p q) (r : Nat) : TBlk (w.setCell ⟨t.b, 2, none⟩ (.int .i64 r)) { t with ring := r } p q := by
  unfold TBlk at *
  rw [Base.heap_setCell_same h]; rfl
theorem TBlk.other {w : World} {t : Tm} {p q : Option Nat} (h : TBlk w t p q) {b i : Nat} {v : Value} (hb : t.b ≠ b) : TBlk (w.setCell ⟨b, i, none⟩ v) t p q := by
  unfold TBlk at *
  rw [Base.heap_setCell_other v hb]; exact h
theorem TBlk.c {w : World} {t : Tm} {p q : Option Nat} (h : TBlk w t p q) :
    w.cell? ⟨t.b, 0, none⟩ = some (.string t.id) ∧ w.cell? ⟨t.b, 1, none⟩ = some (.int .i64 t.at_) ∧ w.cell? ⟨t.b, 2, none⟩ = some (.int .i64 t.ring) ∧ w.cell? ⟨t.b, 3, none⟩ = some (ptr p) ∧ w.cell? ⟨t.b, 4, none⟩ = some (ptr q) ∧ ∀ i, w.frozen? ⟨t.b, i, none⟩ = false :=
  ⟨by rw [cell_of h]; rfl, by rw [cell_of h]; rfl, by rw [cell_of h]; rfl, by rw [cell_of h]; rfl, by rw [cell_of h]; rfl, fun i => free_of h i⟩
/-- the last one's next -/
theorem Ch.last {w : World} {q q' : Option Nat} {A : List Tm} : ∀ {p : Option Nat}, Ch w p A q → (A.map (·.b)).Nodup → ∀ b, lst p A = some b → A ≠ [] → Ch (w.setCell ⟨b, 4, none⟩ (ptr q')) p A q' := by
  induction A with
  | nil => intro p _ _ b _ h; exact absurd rfl h
  | cons t A ih =>
    intro p h hn b hb _
    simp only [List.map_cons, List.nodup_cons] at hn
    cases A with
    | nil =>
      simp only [lst, Option.some.injEq] at hb
      subst hb
      exact ⟨h.1.next q', trivial⟩
    | cons u A =>
      have hne : t.b ≠ b := by
        intro e
        have key : ∀ (L : List Tm) (p : Option Nat) (u : Tm), lst (some u.b) L = some b → b ∈ (u :: L).map (·.b) := by
          intro L
          induction L with
          | nil => intro p u h; simp only [lst, Option.some.injEq] at h; simp [h]
          | cons v L ih => intro p u h; exact List.mem_cons_of_mem _ (ih none v h)
        exact hn.1 (e ▸ key A none u hb)
      exact ⟨h.1.other hne, ih h.2 hn.2 b hb (by simp)⟩
/-- the first one's prev -/
theorem Ch.first {w : World} {p p' q : Option Nat} {t : Tm} {A : List Tm} (h : Ch w p (t :: A) q) (hn : ((t :: A).map (·.b)).Nodup) : Ch (w.setCell ⟨t.b, 3, none⟩ (ptr p')) p' (t :: A) q := by
  simp only [List.map_cons, List.nodup_cons] at hn
  refine ⟨h.1.prev p', h.2.same fun u hu => Base.heap_setCell_other _ fun e => hn.1 (List.mem_map.2 ⟨u, hu, e⟩)⟩
theorem lst_some {p : Option Nat} {A : List Tm} (h : A ≠ []) : ∃ t ∈ A, lst p A = some t.b := by
  induction A generalizing p with
  | nil => exact absurd rfl h
  | cons t A ih =>
    cases A with
    | nil => exact ⟨t, List.mem_cons_self, rfl⟩
    | cons u A =>
      obtain ⟨v, hv, e⟩ := ih (p := some t.b) (by simp)
      exact ⟨v, List.mem_cons_of_mem _ hv, e⟩

/-- the wheel's block -/
structure WBlk (w : World) (wb now : Nat) (hd : Nat → Nat → Option Nat) (cnt : Nat → Nat) (mb : Nat) : Prop where
  ex : ∃ c, w.heap[wb]? = some (.cells c 76 (0, 0)) ∧ c.size = 457 ∧ c[0]? = some (.int .i64 now) ∧ (∀ r, r < 7 → ∀ k, k < 64 → c[1 + r * 64 + k]? = some (ptr (hd r k))) ∧
    (∀ r, r < 7 → c[449 + r]? = some (.int .i64 (cnt r))) ∧ c[456]? = some (.map (some mb))
theorem WBlk.c0 {w : World} {wb now mb : Nat} {hd : Nat → Nat → Option Nat} {cnt : Nat → Nat} (h : WBlk w wb now hd cnt mb) : w.cell? ⟨wb, 0, none⟩ = some (.int .i64 now) := by
  obtain ⟨c, hb, _, h0, _⟩ := h.ex; rw [cell_of hb, h0]
theorem WBlk.cs {w : World} {wb now mb : Nat} {hd : Nat → Nat → Option Nat} {cnt : Nat → Nat} (h : WBlk w wb now hd cnt mb) {r k : Nat} (hr : r < 7) (hk : k < 64) : w.cell? ⟨wb, 1 + r * 64 + k, none⟩ = some (ptr (hd r k)) := by
  obtain ⟨c, hb, _, _, h1, _⟩ := h.ex; rw [cell_of hb, h1 r hr k hk]
theorem WBlk.cn {w : World} {wb now mb : Nat} {hd : Nat → Nat → Option Nat} {cnt : Nat → Nat} (h : WBlk w wb now hd cnt mb) {r : Nat} (hr : r < 7) : w.cell? ⟨wb, 449 + r, none⟩ = some (.int .i64 (cnt r)) := by
  obtain ⟨c, hb, _, _, _, h2, _⟩ := h.ex; rw [cell_of hb, h2 r hr]
theorem WBlk.cm {w : World} {wb now mb : Nat} {hd : Nat → Nat → Option Nat} {cnt : Nat → Nat} (h : WBlk w wb now hd cnt mb) : w.cell? ⟨wb, 456, none⟩ = some (.map (some mb)) := by
  obtain ⟨c, hb, _, _, _, _, h3⟩ := h.ex; rw [cell_of hb, h3]
theorem WBlk.free {w : World} {wb now mb : Nat} {hd : Nat → Nat → Option Nat} {cnt : Nat → Nat} (h : WBlk w wb now hd cnt mb) (i : Nat) : w.frozen? ⟨wb, i, none⟩ = false := by
  obtain ⟨c, hb, _⟩ := h.ex; exact free_of hb i
theorem WBlk.same {w w' : World} {wb now mb : Nat} {hd : Nat → Nat → Option Nat} {cnt : Nat → Nat} (h : WBlk w wb now hd cnt mb) (e : w'.heap[wb]? = w.heap[wb]?) : WBlk w' wb now hd cnt mb := by
  obtain ⟨c, hb, r⟩ := h.ex; exact ⟨c, e.trans hb, r⟩
theorem WBlk.congr {w : World} {wb now mb : Nat} {hd hd' : Nat → Nat → Option Nat} {cnt cnt' : Nat → Nat} (h : WBlk w wb now hd cnt mb) (e1 : ∀ r, r < 7 → ∀ k, k < 64 → hd r k = hd' r k) (e2 : ∀ r, r < 7 → cnt r = cnt' r) : WBlk w wb now hd' cnt' mb := by
  obtain ⟨c, hb, hs, h0, h1, h2, h3⟩ := h.ex
  exact ⟨c, hb, hs, h0, fun r hr k hk => by rw [h1 r hr k hk, e1 r hr k hk], fun r hr => by rw [h2 r hr, e2 r hr], h3⟩
theorem WBlk.slot {w : World} {wb now mb : Nat} {hd : Nat → Nat → Option Nat} {cnt : Nat → Nat} (h : WBlk w wb now hd cnt mb) {r k : Nat} (hr : r < 7) (hk : k < 64) (q : Option Nat) :
    WBlk (w.setCell ⟨wb, 1 + r * 64 + k, none⟩ (ptr q)) wb now (fun r' k' => if r' = r ∧ k' = k then q else hd r' k') cnt mb := by
  obtain ⟨c, hb, hs, h0, h1, h2, h3⟩ := h.ex
  refine ⟨_, Base.heap_setCell_same hb _ _, by simp [hs], ?_, fun r' hr' k' hk' => ?_, fun r' hr' => ?_, ?_⟩
  · rw [Array.getElem?_setIfInBounds_ne (by omega)]; exact h0
  · by_cases e : r' = r ∧ k' = k
    · obtain ⟨rfl, rfl⟩ := e
      simp only [and_self, if_true]
      rw [Array.getElem?_setIfInBounds_self_of_lt (by omega)]
    · rw [if_neg e, Array.getElem?_setIfInBounds_ne (by omega)]; exact h1 r' hr' k' hk'
  · rw [Array.getElem?_setIfInBounds_ne (by omega)]; exact h2 r' hr'
  · rw [Array.getElem?_setIfInBounds_ne (by omega)]; exact h3
theorem WBlk.count {w : World} {wb now mb : Nat} {hd : Nat → Nat → Option Nat} {cnt : Nat → Nat} (h : WBlk w wb now hd cnt mb) {r : Nat} (hr : r < 7) (m : Nat) :
    WBlk (w.setCell ⟨wb, 449 + r, none⟩ (.int .i64 m)) wb now hd (fun r' => if r' = r then m else cnt r') mb := by
  obtain ⟨c, hb, hs, h0, h1, h2, h3⟩ := h.ex
  refine ⟨_, Base.heap_setCell_same hb _ _, by simp [hs], ?_, fun r' hr' k' hk' => ?_, fun r' hr' => ?_, ?_⟩
  · rw [Array.getElem?_setIfInBounds_ne (by omega)]; exact h0
  · rw [Array.getElem?_setIfInBounds_ne (by omega)]; exact h1 r' hr' k' hk'
  · by_cases e : r' = r
    · subst e
      simp only [if_true]
      rw [Array.getElem?_setIfInBounds_self_of_lt (by omega)]
    · rw [if_neg e, Array.getElem?_setIfInBounds_ne (by omega)]; exact h2 r' hr'
  · rw [Array.getElem?_setIfInBounds_ne (by omega)]; exact h3
theorem WBlk.clock {w : World} {wb now mb : Nat} {hd : Nat → Nat → Option Nat} {cnt : Nat → Nat} (h : WBlk w wb now hd cnt mb) (m : Nat) : WBlk (w.setCell ⟨wb, 0, none⟩ (.int .i64 m)) wb m hd cnt mb := by
  obtain ⟨c, hb, hs, h0, h1, h2, h3⟩ := h.ex
  refine ⟨_, Base.heap_setCell_same hb _ _, by simp [hs], ?_, fun r' hr' k' hk' => ?_, fun r' hr' => ?_, ?_⟩
  · rw [Array.getElem?_setIfInBounds_self_of_lt (by omega)]
  · rw [Array.getElem?_setIfInBounds_ne (by omega)]; exact h1 r' hr' k' hk'
  · rw [Array.getElem?_setIfInBounds_ne (by omega)]; exact h2 r' hr'
  · rw [Array.getElem?_setIfInBounds_ne (by omega)]; exact h3
end Go.Proofs.Ytogfllhbgkeinaa.Wheel

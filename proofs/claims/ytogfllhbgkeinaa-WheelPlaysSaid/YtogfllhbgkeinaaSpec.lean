/-
  Lists of names with their times, by time and name: what a wheel holds, told without Go.
-/
import Derived.Test.YtogfllhbgkeinaaLev
import Derived.Test.YtogfllhbgkeinaaBase
set_option linter.unusedVariables false
set_option linter.unusedSimpArgs false
namespace Go.Proofs.Ytogfllhbgkeinaa.Spc
open Go Go.RowKit

/-! ### Order of strings -/
theorem bl_irrefl : ∀ x : List UInt8, Op.bytesLess x x = false
  | [] => by simp [Op.bytesLess]
  | a :: x => by simp [Op.bytesLess, bl_irrefl x]
theorem bl_cons {a b : UInt8} {x y : List UInt8} : Op.bytesLess (a :: x) (b :: y) = true ↔ a < b ∨ a = b ∧ Op.bytesLess x y = true := by
  rw [Op.bytesLess]
  by_cases h1 : a < b
  · simp [h1]
  · by_cases h2 : a = b
    · subst h2; simp
    · simp [h1, h2]
theorem bl_trans : ∀ x y z : List UInt8, Op.bytesLess x y = true → Op.bytesLess y z = true → Op.bytesLess x z = true
  | [], _, [], _, h => by cases ‹List UInt8› <;> simp [Op.bytesLess] at h
  | [], _, _ :: _, _, _ => by simp [Op.bytesLess]
  | _ :: _, [], _, h, _ => by simp [Op.bytesLess] at h
  | _ :: _, _ :: _, [], _, h => by simp [Op.bytesLess] at h
  | a :: x, b :: y, c :: z, h, k => by
    rw [bl_cons] at h k ⊢
    rcases h with h | ⟨rfl, h⟩
    · rcases k with k | ⟨rfl, k⟩
      · exact .inl (UInt8.lt_trans h k)
      · exact .inl h
    · rcases k with k | ⟨rfl, k⟩
      · exact .inl k
      · exact .inr ⟨rfl, bl_trans x y z h k⟩
theorem bl_tri : ∀ x y : List UInt8, Op.bytesLess x y = true ∨ x = y ∨ Op.bytesLess y x = true
  | [], [] => by simp
  | [], _ :: _ => by simp [Op.bytesLess]
  | _ :: _, [] => by simp [Op.bytesLess]
  | a :: x, b :: y => by
    rw [bl_cons, bl_cons]
    have : a < b ∨ a = b ∨ b < a := by
      have h := UInt8.lt_or_lt_of_ne (a := a) (b := b)
      by_cases e : a = b
      · exact .inr (.inl e)
      · rcases h e with h | h
        · exact .inl h
        · exact .inr (.inr h)
    rcases this with h | rfl | h
    · exact .inl (.inl h)
    · rcases bl_tri x y with h | rfl | h
      · exact .inl (.inr ⟨rfl, h⟩)
      · exact .inr (.inl rfl)
      · exact .inr (.inr (.inr ⟨rfl, h⟩))
    · exact .inr (.inr (.inl h))

def slt (a b : ByteArray) : Bool := Op.bytesLess a.toList b.toList
theorem toList_inj {a b : ByteArray} (h : a.toList = b.toList) : a = b := by
  have e : (a == b) = true := by rw [beq_toListBytes]; simp [h]
  rwa [MapKept.bytes_beq] at e
theorem slt_irrefl (a : ByteArray) : slt a a = false := bl_irrefl _
theorem slt_trans {a b c : ByteArray} (h : slt a b = true) (k : slt b c = true) : slt a c = true := bl_trans _ _ _ h k
theorem slt_tri (a b : ByteArray) : slt a b = true ∨ a = b ∨ slt b a = true := by
  rcases bl_tri a.toList b.toList with h | h | h
  · exact .inl h
  · exact .inr (.inl (toList_inj h))
  · exact .inr (.inr h)

/-! ### Names with times -/
abbrev Ent := ByteArray × Nat
def elt (a b : Ent) : Bool := decide (a.2 < b.2) || (decide (a.2 = b.2) && slt a.1 b.1)
theorem elt_iff {a b : Ent} : elt a b = true ↔ a.2 < b.2 ∨ a.2 = b.2 ∧ slt a.1 b.1 = true := by simp [elt]
theorem elt_irrefl (a : Ent) : elt a a = false := by simp [elt, slt_irrefl]
theorem elt_trans {a b c : Ent} (h : elt a b = true) (k : elt b c = true) : elt a c = true := by
  rw [elt_iff] at *
  rcases h with h | ⟨h, h'⟩ <;> rcases k with k | ⟨k, k'⟩
  · exact .inl (by omega)
  · exact .inl (by omega)
  · exact .inl (by omega)
  · exact .inr ⟨by omega, slt_trans h' k'⟩
theorem elt_tri (a b : Ent) : elt a b = true ∨ a = b ∨ elt b a = true := by
  simp only [elt_iff]
  rcases Nat.lt_trichotomy a.2 b.2 with h | h | h
  · exact .inl (.inl h)
  · rcases slt_tri a.1 b.1 with g | g | g
    · exact .inl (.inr ⟨h, g⟩)
    · exact .inr (.inl (Prod.ext g h))
    · exact .inr (.inr (.inr ⟨h.symm, g⟩))
  · exact .inr (.inr (.inl h))
def Srt (M : List Ent) : Prop := M.Pairwise fun a b => elt a b = true
def ins (e : Ent) : List Ent → List Ent
  | [] => [e]
  | x :: l => if elt x e = true then x :: ins e l else e :: x :: l
def cut (id : ByteArray) (M : List Ent) : List Ent := M.filter fun e => !decide (e.1 = id)
def atOf (id : ByteArray) : List Ent → Option Nat
  | [] => none
  | x :: l => if x.1 = id then some x.2 else atOf id l
theorem ins_perm (e : Ent) (M : List Ent) : (ins e M).Perm (e :: M) := by
  induction M with
  | nil => exact .refl _
  | cons x l ih =>
    unfold ins
    split
    · exact (ih.cons x).trans (.swap _ _ _)
    · exact .refl _
theorem ins_srt {e : Ent} {M : List Ent} (h : Srt M) (hn : e ∉ M) : Srt (ins e M) := by
  induction M with
  | nil => exact List.pairwise_singleton _ _
  | cons x l ih =>
    unfold Srt at h ih ⊢
    rw [List.pairwise_cons] at h
    simp only [List.mem_cons, not_or] at hn
    unfold ins
    split
    · rename_i hx
      rw [List.pairwise_cons]
      refine ⟨fun y hy => ?_, ih h.2 hn.2⟩
      rcases List.mem_cons.1 ((ins_perm e l).mem_iff.1 hy) with rfl | hy
      · exact hx
      · exact h.1 y hy
    · rename_i hx
      have hex : elt e x = true := by
        rcases elt_tri e x with g | g | g
        · exact g
        · exact absurd g hn.1
        · exact absurd g hx
      rw [List.pairwise_cons, List.pairwise_cons]
      refine ⟨fun y hy => ?_, h.1, h.2⟩
      rcases List.mem_cons.1 hy with rfl | hy
      · exact hex
      · exact elt_trans hex (h.1 y hy)
theorem srt_eq {A B : List Ent} (ha : Srt A) (hb : Srt B) (h : A.Perm B) : A = B := by
  induction A generalizing B with
  | nil => exact h.nil_eq
  | cons a A ih =>
    cases B with
    | nil => exact absurd h.symm (by intro h; exact absurd h.nil_eq (by simp))
    | cons b B =>
      unfold Srt at ha hb ih
      rw [List.pairwise_cons] at ha hb
      have : a = b := by
        have h1 : a ∈ b :: B := h.mem_iff.1 List.mem_cons_self
        have h2 : b ∈ a :: A := h.mem_iff.2 List.mem_cons_self
        rcases List.mem_cons.1 h1 with e | e
        · exact e
        · rcases List.mem_cons.1 h2 with g | g
          · exact g.symm
          · have := elt_trans (ha.1 b g) (hb.1 a e)
            rw [elt_irrefl] at this; cases this
      subst this
      rw [ih ha.2 hb.2 h.cons_inv]
theorem cut_srt {id : ByteArray} {M : List Ent} (h : Srt M) : Srt (cut id M) := List.Pairwise.filter _ h
theorem atOf_none {id : ByteArray} {M : List Ent} : atOf id M = none ↔ ∀ e ∈ M, e.1 ≠ id := by
  induction M with
  | nil => simp [atOf]
  | cons x l ih =>
    unfold atOf
    by_cases h : x.1 = id
    · simp [h]
    · simp [h, ih]
theorem atOf_some {id : ByteArray} {M : List Ent} {t : Nat} (h : atOf id M = some t) : (id, t) ∈ M := by
  induction M with
  | nil => cases h
  | cons x l ih =>
    unfold atOf at h
    by_cases e : x.1 = id
    · rw [if_pos e] at h
      obtain ⟨a, b⟩ := x
      simp only at e
      subst e
      simp only [Option.some.injEq] at h
      subst h
      exact List.mem_cons_self
    · rw [if_neg e] at h
      exact List.mem_cons_of_mem _ (ih h)
theorem atOf_mem {id : ByteArray} {M : List Ent} {t : Nat} (hn : (M.map (·.1)).Nodup) (h : (id, t) ∈ M) : atOf id M = some t := by
  induction M with
  | nil => cases h
  | cons x l ih =>
    simp only [List.map_cons, List.nodup_cons] at hn
    unfold atOf
    rcases List.mem_cons.1 h with e | e
    · subst e; simp
    · have : x.1 ≠ id := fun g => hn.1 (List.mem_map.2 ⟨_, e, g.symm⟩)
      rw [if_neg this, ih hn.2 e]
theorem not_mem_of_none {id : ByteArray} {M : List Ent} (h : atOf id M = none) (t : Nat) : (id, t) ∉ M := fun k => atOf_none.1 h _ k rfl
theorem cut_none {id : ByteArray} {M : List Ent} (h : atOf id M = none) : cut id M = M := List.filter_eq_self.2 fun e he => by simp [atOf_none.1 h e he]
theorem atOf_cut_self (id : ByteArray) (M : List Ent) : atOf id (cut id M) = none := atOf_none.2 fun e he => by
  have := (List.mem_filter.1 he).2
  simpa using this
theorem cut_len {id : ByteArray} {M : List Ent} {t : Nat} (hn : (M.map (·.1)).Nodup) (h : atOf id M = some t) : (cut id M).length + 1 = M.length := by
  induction M with
  | nil => cases h
  | cons x l ih =>
    simp only [List.map_cons, List.nodup_cons] at hn
    unfold atOf at h
    by_cases e : x.1 = id
    · have : cut id l = l := cut_none (atOf_none.2 fun y hy g => hn.1 (List.mem_map.2 ⟨y, hy, g.trans e.symm⟩))
      unfold cut at this ⊢
      simp [List.filter_cons, e, this]
    · rw [if_neg e] at h
      have := ih hn.2 h
      unfold cut at this ⊢
      simp [List.filter_cons, e]; omega
theorem ins_len (e : Ent) (M : List Ent) : (ins e M).length = M.length + 1 := by rw [(ins_perm e M).length_eq]; rfl
theorem ins_names {e : Ent} {M : List Ent} (hn : (M.map (·.1)).Nodup) (h : atOf e.1 M = none) : ((ins e M).map (·.1)).Nodup := by
  rw [((ins_perm e M).map (·.1)).nodup_iff]
  simp only [List.map_cons, List.nodup_cons]
  refine ⟨fun k => ?_, hn⟩
  obtain ⟨y, hy, g⟩ := List.mem_map.1 k
  exact atOf_none.1 h y hy g
theorem cut_names {id : ByteArray} {M : List Ent} (hn : (M.map (·.1)).Nodup) : ((cut id M).map (·.1)).Nodup := (List.filter_sublist.map _).nodup hn
theorem map_nodup {α β : Type} {f : α → β} {l : List α} (h : (l.map f).Nodup) : l.Nodup := by
  unfold List.Nodup at h ⊢
  exact (List.pairwise_map.1 h).imp fun h e => h (congrArg f e)
/-- the ones that have lapsed are the first ones -/
theorem lapsed_take {M : List Ent} (h : Srt M) (to : Nat) : M.filter (fun e => decide (e.2 ≤ to)) = M.takeWhile fun e => decide (e.2 ≤ to) := by
  induction M with
  | nil => rfl
  | cons x l ih =>
    unfold Srt at h ih
    rw [List.pairwise_cons] at h
    by_cases e : x.2 ≤ to
    · simp [e, ih h.2]
    · have : l.filter (fun e => decide (e.2 ≤ to)) = [] := List.filter_eq_nil_iff.2 fun y hy => by
        have := elt_iff.1 (h.1 y hy)
        simp; omega
      simp [e, this]
theorem kept_drop {M : List Ent} (h : Srt M) (to : Nat) : M.filter (fun e => !decide (e.2 ≤ to)) = M.dropWhile fun e => decide (e.2 ≤ to) := by
  induction M with
  | nil => rfl
  | cons x l ih =>
    unfold Srt at h ih
    rw [List.pairwise_cons] at h
    by_cases e : x.2 ≤ to
    · simp [e, ih h.2]
    · have : l.filter (fun e => !decide (e.2 ≤ to)) = l := List.filter_eq_self.2 fun y hy => by
        have := elt_iff.1 (h.1 y hy)
        simp; omega
      simp [e]; simpa using this
end Go.Proofs.Ytogfllhbgkeinaa.Spc

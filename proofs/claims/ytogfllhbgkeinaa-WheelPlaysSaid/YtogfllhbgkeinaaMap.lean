/-
  A range over a map: the iterator's block, and what range, next and entry do; the tape picks which entry comes.
-/
import Derived.Test.YtogfllhbgkeinaaEq
set_option linter.unusedVariables false
set_option linter.unusedSimpArgs false
namespace Go.Proofs.Ytogfllhbgkeinaa.Eng
open Go.RowKit Go.MapKept Base
open Go.ChangeMaps (setBlock)

/-- block mb is a map of kv; block ib is an iterator over it that has given V and has L left -/
def MIter (w : World) (ib mb : Nat) (kv V L : KV) : Prop :=
  ∃ (es : Array MapEntry) (clock : Nat) (VE LE : List MapEntry), w.heap[mb]? = some (.map es clock) ∧ Stamped es clock ∧ es.toList.map rowOf = kv.map row ∧ ib ≠ mb ∧
    w.heap[ib]? = some (.mapIter (some mb) clock (VE.map (·.born)).toArray clock) ∧ es.toList.Perm (VE ++ LE) ∧ VE.map rowOf = V.map row ∧ LE.map rowOf = L.map row
variable {P : Program} {l : Fr} {w : World} {T : TypeId} {x y z : Operand} {v : Value} {ib mb : Nat} {kv V L : KV}
theorem MIter.kept {S : Nat → Prop} {w' : World} (h : MIter w ib mb kv V L) (k : Kept S w w') (h1 : ¬ S ib) (h2 : ¬ S mb) : MIter w' ib mb kv V L := by
  obtain ⟨es, clock, VE, LE, a1, a2, a3, a4, a5, a6, a7, a8⟩ := h
  exact ⟨es, clock, VE, LE, k.at a1 h2, a2, a3, a4, k.at a5 h1, a6, a7, a8⟩
theorem MIter.perm (h : MIter w ib mb kv V L) : (kv.map row).Perm ((V ++ L).map row) := by
  obtain ⟨es, clock, VE, LE, a1, a2, a3, a4, a5, a6, a7, a8⟩ := h
  rw [← a3, List.map_append, ← a7, ← a8, ← List.map_append]
  exact a6.map _
/-- what a range over a map lays: its iterator -/
def Rng (P : Program) (T : TypeId) (w : World) (mb : Nat) (o : Obj) : Prop := ∀ k, (Instr.range T (.map (some mb))).run P (dn w k) = .ok (.pointer (some ⟨w.heap.size, 0, none⟩)) (dn (w.alloc o) k)
theorem rng_ex {k e : TypeId} [c : TMap P T k e] (hm : SMap w mb kv) : ∃ o, Rng P T w mb o ∧ MIter (w.alloc o) w.heap.size mb kv [] kv := by
  obtain ⟨es, clock, h1, h2, h3⟩ := hm
  have hlt := lt_of_at h1
  refine ⟨.mapIter (some mb) clock #[] clock, fun k₀ => ?_, es, clock, [], es.toList, ?_, h2, h3, by omega, ?_, .refl _, rfl, h3⟩
  · have h1' : (dn w k₀).heap[mb]? = some (.map es clock) := h1
    simp [Instr.range, run_underlying c.h, MapKept.run_getObj_map h1', World.alloc_eq, Result.andThen]
  · rw [Base.heap_alloc_old _ hlt]; exact h1
  · exact Base.heap_alloc_new' _ _
theorem e_range {o : Obj} (hx : ev l x = some (.map (some mb))) (h1 : Rng P T w mb o) : Ev P l (.range T x) w (.pointer (some ⟨w.heap.size, 0, none⟩)) (w.alloc o) := fun ρ h d t p af g k₀ =>
  ⟨k₀, Nat.le_refl _, by simp [execOp, h x _ hx, h1 k₀, Result.andThen]⟩
theorem run_getObj_iter {r : Nat} {m : Option Nat} {a b : Nat} {seen : Array Nat} (h : w.heap[r]? = some (.mapIter m a seen b)) : (getObj r).run P w = .ok (.mapIter m a seen b) w := by
  simp [getObj, Sem.run, h]
theorem run_setObj_iter {r : Nat} {o : Obj} {m : Option Nat} {a b : Nat} {seen : Array Nat} (h : w.heap[r]? = some (.mapIter m a seen b)) : (setObj r o).run P w = .ok () (setBlock w r o) := by
  simp [setObj, Sem.run, h]; rfl
theorem filter_seen {es : Array MapEntry} {VE LE : List MapEntry} (hn : (es.toList.map (·.born)).Nodup) (hp : es.toList.Perm (VE ++ LE)) :
    (es.filter fun e => !(VE.map (·.born)).toArray.contains e.born).toList.Perm LE := by
  have hn2 : ((VE ++ LE).map (·.born)).Nodup := (hp.map (·.born)).nodup_iff.1 hn
  rw [Array.toList_filter]
  refine (hp.filter _).trans ?_
  rw [List.filter_append]
  have h1 : VE.filter (fun e => !(VE.map (·.born)).toArray.contains e.born) = [] := List.filter_eq_nil_iff.2 fun e he => by
    simp
    exact ⟨e, he, rfl⟩
  have h2 : LE.filter (fun e => !(VE.map (·.born)).toArray.contains e.born) = LE := List.filter_eq_self.2 fun e he => by
    rw [List.map_append, List.nodup_append] at hn2
    have := hn2.2.2
    simp
    intro u hu e2
    exact this u.born (List.mem_map.2 ⟨u, hu, rfl⟩) e.born (List.mem_map.2 ⟨e, he, rfl⟩) e2
  rw [h1, h2, List.nil_append]
theorem e_next (hx : ev l x = some (.pointer (some ⟨ib, 0, none⟩))) (hm : MIter w ib mb kv V L) :
    Er P l (.next x false) w fun v w' => (L = [] ∧ v = .tuple #[.bool false] ∧ w' = w) ∨
      ∃ p L1 L2, L = L1 ++ p :: L2 ∧ v = .tuple #[.bool true, .string p.1, p.2] ∧ MIter w' ib mb kv (V ++ [p]) (L1 ++ L2) ∧ Kept (fun i => i = ib) w w' := fun ρ h d t p af g k => by
  obtain ⟨es, clock, VE, LE, a1, a2, a3, a4, a5, a6, a7, a8⟩ := hm
  have a1' : (dn w k).heap[mb]? = some (.map es clock) := a1
  have a5' : (dn w k).heap[ib]? = some (.mapIter (some mb) clock (VE.map (·.born)).toArray clock) := a5
  have hleft := filter_seen a2.2.1 a6
  have hold : ∀ e ∈ es.toList, e.born < clock := a2.1
  have hlast : (!(VE.map (·.born)).toArray.isEmpty && !es.isEmpty && es.all (fun e => decide (e.born ≥ clock))) = false := by
    cases he : es.isEmpty with
    | true => simp
    | false =>
      have hne : 0 < es.size := by
        rcases Nat.eq_zero_or_pos es.size with h | h
        · rw [Array.isEmpty_eq_false_iff] at he; exact absurd (Array.eq_empty_of_size_eq_zero h) he
        · exact h
      have : es.all (fun e => decide (e.born ≥ clock)) = false := by
        rw [Array.all_eq_false]
        exact ⟨0, hne, by have := hold es[0] (by simp); simp; omega⟩
      simp [this]
  have hleft2 : ∀ left : Array MapEntry, left.toList.Perm LE → left.filter (fun e => decide (e.born < clock)) = left ∧ left.filter (fun e => decide (e.born ≥ clock)) = #[] := fun left hl => by
    have hb : ∀ e ∈ left, e.born < clock := fun e he => hold e (a6.mem_iff.2 (List.mem_append.2 (.inr (hl.mem_iff.1 (Array.mem_toList_iff.2 he)))))
    constructor
    · exact Array.filter_eq_self.2 fun e he => by simpa using hb e he
    · exact Array.filter_eq_empty_iff.2 fun e he => by have := hb e he; simp; omega
  generalize hlf : (es.filter fun e => !(VE.map (·.born)).toArray.contains e.born) = left at hleft
  obtain ⟨g1, g2⟩ := hleft2 left hleft
  have head : (Instr.next (.pointer (some ⟨ib, 0, none⟩)) false t).run P (dn w k) = (do
      match ((if left.isEmpty then #[none] else #[]) ++ left.map some)[← choose (.mapNext ((if left.isEmpty then #[none] else #[]) ++ left.map some).size)]? with
      | some (some e) =>
        setObj ib (.mapIter (some mb) clock ((VE.map (·.born)).toArray.push e.born) clock)
        pure (.tuple #[.bool true, e.key, e.val])
      | some none => pure (.tuple #[.bool false])
      | none => stuck "Next: no such candidate" : Sem Value).run P (dn w k) := by
    simp only [Instr.next, Sem.run_bind, run_getObj_iter a5', MapKept.run_getObj_map a1', Result.andThen_ok, hlast, hlf, g1, g2, Array.append_empty]
    simp only [Bool.false_eq_true, if_false, Sem.run_bind]
    rfl
  have hL : LE.length = L.length := by have := congrArg List.length a8; simpa using this
  cases hLE : LE with
  | nil =>
    rw [hLE] at hleft hL
    have hl0 : left = #[] := by
      have := hleft.symm.nil_eq
      exact Array.toList_inj.1 this.symm
    have hL0 : L = [] := List.eq_nil_of_length_eq_zero (by simpa using hL.symm)
    subst hl0
    refine ⟨.tuple #[.bool false], w, k, Nat.le_refl _, ?_, .inl ⟨hL0, rfl, rfl⟩⟩
    simp only [execOp, h x _ hx, Sem.run_bind]
    rw [head]
    simp [Question.forced, Result.andThen]
  | cons e0 LE0 =>
    have hpos : 0 < left.size := by
      have := hleft.length_eq
      rw [hLE] at this
      simp at this; omega
    have hne : left.isEmpty = false := by
      rw [Array.isEmpty_eq_false_iff]; intro e; rw [e] at hpos; simp at hpos
    obtain ⟨i, k', hk', hi, hrun⟩ : ∃ i k', k ≤ k' ∧ i < left.size ∧ (choose (.mapNext (left.map some).size)).run P (dn w k) = .ok i (dn w k') := by
      by_cases hf : left.size ≤ 1
      · exact ⟨0, k, Nat.le_refl _, hpos, by simp [run_choose_drew, Question.forced, hf]⟩
      · refine ⟨_, k + 1, Nat.le_succ _, ?_, by simp only [run_choose_drew, Question.forced, Array.size_map, hf, decide_false, Bool.false_eq_true, if_false, dn_drew]; rfl⟩
        exact Nat.mod_lt _ hpos
    have hmem : left[i] ∈ LE := hleft.mem_iff.1 (Array.mem_toList_iff.2 (Array.getElem_mem hi))
    obtain ⟨A, C, hAC⟩ := List.append_of_mem hmem
    have h8 := a8
    rw [hAC, List.map_append, List.map_cons] at h8
    obtain ⟨L1, L2', e1, e2, e3⟩ := List.map_eq_append_iff.1 h8.symm
    obtain ⟨p, L2, e4, e5, e6⟩ := List.map_eq_cons_iff.1 e3
    subst e4
    have hr : rowOf left[i] = row p := e5.symm
    simp only [rowOf, row, Prod.mk.injEq] at hr
    refine ⟨.tuple #[.bool true, .string p.1, p.2], setBlock w ib (.mapIter (some mb) clock ((VE.map (·.born)).toArray.push left[i].born) clock), k', hk', ?_, .inr ⟨p, L1, L2, e1, rfl, ⟨es, clock, VE ++ [left[i]], A ++ C, ?_, a2, a3, a4, ?_, ?_, ?_, ?_⟩, Kept.setBlock _ _ _ rfl⟩⟩
    · simp only [execOp, h x _ hx, Sem.run_bind]
      rw [head]
      simp only [Sem.run_bind, hne, Bool.false_eq_true, if_false, Array.empty_append, hrun, Result.andThen_ok, Array.getElem?_map, Array.getElem?_eq_getElem hi, Option.map_some]
      have a5'' : (dn w k').heap[ib]? = some (.mapIter (some mb) clock (VE.map (·.born)).toArray clock) := a5
      simp [run_setObj_iter a5'', Result.andThen, hr.1, hr.2]
    · rw [heap_setBlock_other _ a4.symm]; exact a1
    · rw [heap_setBlock_same a5]; simp
    · rw [hAC] at a6
      refine a6.trans ?_
      rw [List.append_assoc]
      exact List.Perm.append_left VE List.perm_middle
    · rw [List.map_append, a7, List.map_append]; simp [rowOf, row, hr.1, hr.2]
    · rw [List.map_append, List.map_append, e2, e6]
theorem e_entry (hx : ev l x = some (.pointer (some ⟨ib, 0, none⟩))) {p : ByteArray × Value} (hm : MIter w ib mb kv (V ++ [p]) L) : Eg P l (.entry x) w (.tuple #[.string p.1, p.2]) := fun ρ h d t q af g k => by
  obtain ⟨es, clock, VE, LE, a1, a2, a3, a4, a5, a6, a7, a8⟩ := hm
  have a1' : (dn w k).heap[mb]? = some (.map es clock) := a1
  have a5' : (dn w k).heap[ib]? = some (.mapIter (some mb) clock (VE.map (·.born)).toArray clock) := a5
  rw [List.map_append] at a7
  obtain ⟨VE1, VE2, rfl, e2, e3⟩ := List.map_eq_append_iff.1 a7
  obtain ⟨e, VE3, rfl, e5, e6⟩ := List.map_eq_cons_iff.1 e3
  have : VE3 = [] := by simpa using e6
  subst this
  have hr : rowOf e = row p := e5
  simp only [rowOf, row, Prod.mk.injEq] at hr
  have he : e ∈ es.toList := a6.mem_iff.2 (by simp)
  have hfind : es.find? (fun u => u.born == e.born) = some e := by
    have hn := a2.2.1
    rw [← Array.find?_toList]
    clear a6 a5 a5' a7 a1 a1' a3 a8
    generalize es.toList = E at *
    induction E with
    | nil => cases he
    | cons u E ih =>
      simp only [List.map_cons, List.nodup_cons] at hn
      rcases List.mem_cons.1 he with rfl | he
      · simp
      · have : (u.born == e.born) = false := by
          simp only [beq_eq_false_iff_ne]
          intro g
          exact hn.1 (List.mem_map.2 ⟨e, he, g.symm⟩)
        rw [List.find?_cons, this]
        exact ih he hn.2
  simp [execOp, h x _ hx, Instr.entry, run_getObj_iter a5', MapKept.run_getObj_map a1', hfind, Result.andThen, hr.1, hr.2]
end Go.Proofs.Ytogfllhbgkeinaa.Eng

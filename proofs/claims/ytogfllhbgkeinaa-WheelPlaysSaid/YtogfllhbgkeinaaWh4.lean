/-
  Spread; a nil wheel's methods.
-/
import Derived.Test.YtogfllhbgkeinaaWh3
set_option linter.unusedVariables false
set_option linter.unusedSimpArgs false
namespace Go.Proofs.Ytogfllhbgkeinaa.Wheel
open Go.RowKit Base Lev Wa Eng Wb Spc
open Go.ChangeMaps (setBlock)
variable {w : World} {wb mb now : Nat} {H : List Tm} {sl : Nat → Nat → List Tm} {kv : KV} {M : List Ent} {B : Nat → Prop}

def cnt (now : Nat) (M : List Ent) (r : Nat) : Nat := (M.filter fun e => decide (level e.2 now = r)).length
def spreadL (now : Nat) (M : List Ent) : List Nat := (List.range 7).map (cnt now M)
def ints (l : List Nat) : List Value := l.map fun (n : Nat) => Value.int .i64 (n : Int)
theorem ints_one (l : List Nat) : ∀ v ∈ ints l, v.oneCell' = true := fun v hv => by
  obtain ⟨n, _, rfl⟩ := List.mem_map.1 hv; rfl
theorem Whl.cnt (h1 : Whl w wb mb now H sl kv) (h2 : (H.map pr).Perm M) (r : Nat) : (H.filter (inRing r)).length = cnt now M r := by
  unfold Wheel.cnt
  have h := (h2.filter fun e => decide (level e.2 now = r)).length_eq
  rw [← h, List.filter_map, List.length_map]
  congr 1
  refine List.filter_congr fun t ht => ?_
  have := (h1.al t ht).1
  show decide (t.ring = r) = decide (level t.at_ now = r)
  rw [this]
theorem spread_cells (h1 : Whl w wb mb now H sl kv) (h2 : (H.map pr).Perm M) : Cells w wb 449 (ints (spreadL now M)) := fun j v hj => by
  unfold ints spreadL at hj
  rw [List.map_map, List.getElem?_map] at hj
  by_cases hj7 : j < 7
  · rw [List.getElem?_range hj7] at hj
    simp only [Option.map_some, Function.comp, Option.some.injEq] at hj
    rw [← hj, ← h1.cnt h2]
    exact h1.R.blk.cn hj7
  · rw [List.getElem?_eq_none (by simp; omega)] at hj
    cases hj
theorem stn_new {zs : Array Value} {T : TypeId} {cs : List Value} (h : cs.length = zs.size) (w : World) :
    (∀ j, j < cs.length → ((w.alloc (.cells zs T)).cell? ⟨w.heap.size, 0 + j, none⟩).isSome = true) ∧ (∀ j, j < cs.length → (w.alloc (.cells zs T)).frozen? ⟨w.heap.size, 0 + j, none⟩ = false) ∧
    Cells ((w.alloc (.cells zs T)).setCells w.heap.size 0 cs) w.heap.size 0 cs ∧ Ext w ((w.alloc (.cells zs T)).setCells w.heap.size 0 cs) := by
  have hb := Base.heap_alloc_new' w (.cells zs T)
  obtain ⟨arr', g1, g2, g3, g4⟩ := setCells_at cs 0 _ _ hb (by omega)
  refine ⟨fun j hj => ?_, fun j _ => free_of hb _, fun j v hj => ?_, ?_⟩
  · rw [cell_of hb, Nat.zero_add, Array.getElem?_eq_getElem (by omega)]; rfl
  · rw [cell_of g1]; exact g4 j v hj
  · exact ((Kept.alloc (fun k => w.heap.size ≤ k) w _).trans (kept_setCells (S := fun k => w.heap.size ≤ k) (Nat.le_refl _) _ _ _) fun _ _ h => h).mono fun k hk h => by omega
theorem spread_ret (W : IsW w wb now M B) : Ret Try.prog 17 #[.pointer (some ⟨wb, 0, none⟩)] w fun v w' => v = .agg (ints (spreadL now M)).toArray ∧ Ext w w' := by
  obtain ⟨mb, H, sl, kv, h1, h2, h3⟩ := W.ex
  have hlen : (ints (spreadL now M)).length = 7 := by simp [ints, spreadL]
  refine ret_of (vs := [_]) Try.func17 rfl Try.ntmps17 rfl fun _ => ?_
  refine q_seq (q_reg (s_val rfl e_alloc (s_end (x_then ?_))))
  have X := (Ext.refl w).alloc (.cells (Value.agg #[.int .i64 0, .int .i64 0, .int .i64 0, .int .i64 0, .int .i64 0, .int .i64 0, .int .i64 0]).cells 38)
  have hc := X.cells (spread_cells h1 h2)
  obtain ⟨g1, g2, g3, g4⟩ := stn_new (zs := (Value.agg #[.int .i64 0, .int .i64 0, .int .i64 0, .int .i64 0, .int .i64 0, .int .i64 0, .int .i64 0]).cells) (T := 38) hlen w
  refine q_seq (q_seq (q_reg (s_get rfl (e_move rfl) (s_get rfl (e_pnil rfl rfl) (s_end (x_then ?_))))))
  refine q_no rfl (q_skip (x_then ?_))
  refine q_seq (q_reg (s_get rfl (e_move rfl) (s_get rfl (e_nil rfl) (s_get rfl (e_fld rfl) (s_get rfl (e_ldn rfl hlen hc) (s_set (e_stn rfl rfl hlen (ints_one _) g1 g2) (s_end (x_then ?_))))))))
  exact q_ret (x_retc (T := 38) (.inl rfl) rfl rfl hlen g3 ⟨rfl, g4⟩)

/-! ### A nil wheel -/
theorem add_nil (id : ByteArray) (t : Int) (w : World) : Ret Try.prog 21 #[.pointer none, .string id, .int .i64 t] w fun v w' => v = .int .i64 0 ∧ w' = w := by
  refine ret_of (vs := [_, _, _]) Try.func21 rfl Try.ntmps21 rfl fun _ => ?_
  refine q_seq (q_reg (s_get rfl (e_assign rfl) (s_end (x_then ?_))))
  refine q_seq (q_seq (q_reg (s_get rfl (e_move rfl) (s_get rfl (e_pnil rfl rfl) (s_end (x_then ?_))))))
  refine q_yes rfl ?_
  refine q_seq (q_reg (s_get rfl (e_assign rfl) (s_end (x_then ?_))))
  exact q_ret (x_then_ret (x_ret1 (.inl rfl) rfl rfl ⟨rfl, rfl⟩))
theorem change_nil (id : ByteArray) (t : Int) (w : World) : Ret Try.prog 10 #[.pointer none, .string id, .int .i64 t] w fun v w' => v = .int .i64 0 ∧ w' = w := by
  refine ret_of (vs := [_, _, _]) Try.func10 rfl Try.ntmps10 rfl fun _ => ?_
  refine q_seq (q_reg (s_get rfl (e_assign rfl) (s_end (x_then ?_))))
  refine q_seq (q_seq (q_reg (s_get rfl (e_move rfl) (s_get rfl (e_pnil rfl rfl) (s_end (x_then ?_))))))
  refine q_yes rfl ?_
  refine q_seq (q_reg (s_get rfl (e_assign rfl) (s_end (x_then ?_))))
  exact q_ret (x_then_ret (x_ret1 (.inl rfl) rfl rfl ⟨rfl, rfl⟩))
theorem remove_nil (id : ByteArray) (w : World) : Ret Try.prog 11 #[.pointer none, .string id] w fun v w' => v = .int .i64 0 ∧ w' = w := by
  refine ret_of (vs := [_, _]) Try.func11 rfl Try.ntmps11 rfl fun _ => ?_
  refine q_seq (q_reg (s_get rfl (e_assign rfl) (s_end (x_then ?_))))
  refine q_seq (q_seq (q_reg (s_get rfl (e_move rfl) (s_get rfl (e_pnil rfl rfl) (s_end (x_then ?_))))))
  refine q_yes rfl ?_
  refine q_seq (q_reg (s_get rfl (e_assign rfl) (s_end (x_then ?_))))
  exact q_ret (x_then_ret (x_ret1 (.inl rfl) rfl rfl ⟨rfl, rfl⟩))
theorem at_nil (id : ByteArray) (w : World) : Ret Try.prog 13 #[.pointer none, .string id] w fun v w' => v = .tuple #[.int .i64 0, .int .i64 0] ∧ w' = w := by
  refine ret_of (vs := [_, _]) Try.func13 rfl Try.ntmps13 rfl fun _ => ?_
  refine q_seq (q_reg (s_get rfl (e_assign rfl) (s_get rfl (e_assign rfl) (s_end (x_then ?_)))))
  refine q_seq (q_seq (q_reg (s_get rfl (e_move rfl) (s_get rfl (e_pnil rfl rfl) (s_end (x_then ?_))))))
  refine q_yes rfl ?_
  refine q_seq (q_reg (s_get rfl (e_assign rfl) (s_get rfl (e_assign rfl) (s_end (x_then ?_)))))
  exact q_ret (x_then_ret (x_ret2 (.inl rfl) rfl rfl rfl ⟨rfl, rfl⟩))
theorem len_nil (w : World) : Ret Try.prog 14 #[.pointer none] w fun v w' => v = .int .i64 0 ∧ w' = w := by
  refine ret_of (vs := [_]) Try.func14 rfl Try.ntmps14 rfl fun _ => ?_
  refine q_seq (q_reg (s_get rfl (e_assign rfl) (s_end (x_then ?_))))
  refine q_seq (q_seq (q_reg (s_get rfl (e_move rfl) (s_get rfl (e_pnil rfl rfl) (s_end (x_then ?_))))))
  refine q_yes rfl ?_
  refine q_seq (q_reg (s_get rfl (e_assign rfl) (s_end (x_then ?_))))
  exact q_ret (x_then_ret (x_ret1 (.inl rfl) rfl rfl ⟨rfl, rfl⟩))
theorem now_nil (w : World) : Ret Try.prog 24 #[.pointer none] w fun v w' => v = .int .i64 0 ∧ w' = w := by
  refine ret_of (vs := [_]) Try.func24 rfl Try.ntmps24 rfl fun _ => ?_
  refine q_seq (q_reg (s_get rfl (e_assign rfl) (s_end (x_then ?_))))
  refine q_seq (q_seq (q_reg (s_get rfl (e_move rfl) (s_get rfl (e_pnil rfl rfl) (s_end (x_then ?_))))))
  refine q_yes rfl ?_
  refine q_seq (q_reg (s_get rfl (e_assign rfl) (s_end (x_then ?_))))
  exact q_ret (x_then_ret (x_ret1 (.inl rfl) rfl rfl ⟨rfl, rfl⟩))
theorem next_nil (w : World) : Ret Try.prog 18 #[.pointer none] w fun v w' => v = .tuple #[.int .i64 0, .bool false] ∧ w' = w := by
  refine ret_of (vs := [_]) Try.func18 rfl Try.ntmps18 rfl fun _ => ?_
  refine q_seq (q_reg (s_get rfl (e_assign rfl) (s_get rfl (e_assign rfl) (s_end (x_then ?_)))))
  refine q_seq (q_seq (q_reg (s_get rfl (e_move rfl) (s_get rfl (e_pnil rfl rfl) (s_end (x_then ?_))))))
  refine q_yes rfl ?_
  refine q_seq (q_reg (s_get rfl (e_assign rfl) (s_get rfl (e_assign rfl) (s_end (x_then ?_)))))
  exact q_ret (x_then_ret (x_ret2 (.inl rfl) rfl rfl rfl ⟨rfl, rfl⟩))
def zero7 : List Value := List.replicate 7 (.int .i64 0)
theorem spread_nil (w : World) : Ret Try.prog 17 #[.pointer none] w fun v w' => v = .agg zero7.toArray ∧ Ext w w' := by
  refine ret_of (vs := [_]) Try.func17 rfl Try.ntmps17 rfl fun _ => ?_
  refine q_seq (q_reg (s_val rfl e_alloc (s_end (x_then ?_))))
  obtain ⟨g1, g2, g3, g4⟩ := stn_new (zs := (Value.agg #[.int .i64 0, .int .i64 0, .int .i64 0, .int .i64 0, .int .i64 0, .int .i64 0, .int .i64 0]).cells) (T := 38) (cs := zero7) rfl w
  refine q_seq (q_seq (q_reg (s_get rfl (e_move rfl) (s_get rfl (e_pnil rfl rfl) (s_end (x_then ?_))))))
  refine q_yes rfl ?_
  refine q_seq (q_reg (s_get rfl (e_build zero7 rfl (by kernel_rfl)) (s_set (e_stn rfl rfl rfl (by decide) g1 g2) (s_end (x_then ?_)))))
  exact q_ret (x_then_ret (x_retc (T := 38) (.inl rfl) rfl rfl rfl g3 ⟨rfl, g4⟩))
end Go.Proofs.Ytogfllhbgkeinaa.Wheel

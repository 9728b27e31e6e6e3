/-
  The whole wheel: its rings and its names; find, ahead, At, Len, Now, Spread, Add, Change, Remove, New.
-/
import Derived.Test.YtogfllhbgkeinaaRings
import Derived.Test.YtogfllhbgkeinaaSpec
set_option linter.unusedVariables false
set_option linter.unusedSimpArgs false
namespace Go.Proofs.Ytogfllhbgkeinaa.Wheel
open Go.RowKit Base Lev Wa Eng Wb Spc
open Go.ChangeMaps (setBlock)

def pr (t : Tm) : Ent := (t.id, t.at_)
def kvOf (t : Tm) : ByteArray × Value := (t.id, ptr (some t.b))
structure Whl (w : World) (wb mb now : Nat) (H : List Tm) (sl : Nat → Nat → List Tm) (kv : KV) : Prop where
  R : Rings w wb mb now H sl
  m : SMap w mb kv
  kp : kv.Perm (H.map kvOf)
  idn : (H.map (·.id)).Nodup
  al : ∀ t ∈ H, t.ring = level t.at_ now ∧ now < t.at_ ∧ isName t.id = true
  nw : now ≤ 1099511627776
  ln : H.length ≤ 4096
def own (wb mb : Nat) (H : List Tm) (b : Nat) : Prop := b = wb ∨ b = mb ∨ ∃ t ∈ H, t.b = b

variable {w : World} {wb mb now : Nat} {H : List Tm} {sl : Nat → Nat → List Tm} {kv : KV}
theorem kv_names (kp : kv.Perm (H.map kvOf)) (idn : (H.map (·.id)).Nodup) : (kv.map (·.1)).Nodup := by
  rw [(kp.map (·.1)).nodup_iff, List.map_map]
  exact idn
theorem Whl.get_of (W : Whl w wb mb now H sl kv) {t : Tm} (ht : t ∈ H) : get kv t.id = some (ptr (some t.b)) :=
  get_of_mem (kv_names W.kp W.idn) (W.kp.mem_iff.2 (List.mem_map.2 ⟨t, ht, rfl⟩))
theorem get_no' (kp : kv.Perm (H.map kvOf)) {id : ByteArray} (h : ∀ t ∈ H, t.id ≠ id) : get kv id = none := get_none.2 fun p hp e => by
  obtain ⟨t, ht, rfl⟩ := List.mem_map.1 (kp.mem_iff.1 hp)
  exact h t ht e
theorem Whl.get_no (W : Whl w wb mb now H sl kv) {id : ByteArray} (h : ∀ t ∈ H, t.id ≠ id) : get kv id = none := get_no' W.kp h
theorem Whl.len (W : Whl w wb mb now H sl kv) : kv.length = H.length := by rw [W.kp.length_eq, List.length_map]
theorem Whl.lt_wb (W : Whl w wb mb now H sl kv) : wb < w.heap.size := by
  obtain ⟨c, h, _⟩ := W.R.blk.ex; exact lt_of_at h
theorem Rings.tblk (R : Rings w wb mb now H sl) {t : Tm} (ht : t ∈ H) : ∃ p q, TBlk w t p q := by
  obtain ⟨_, _, hr, _⟩ := R.ap t ht
  have hk := digit_lt t.ring t.at_
  exact (R.ch _ hr _ hk).mem t ((R.slot_mem hr hk).2 ⟨ht, rfl, rfl⟩)
theorem Rings.lt_t (R : Rings w wb mb now H sl) {t : Tm} (ht : t ∈ H) : t.b < w.heap.size := by
  obtain ⟨p, q, h⟩ := R.tblk ht; exact lt_of_at h
theorem Whl.lt (W : Whl w wb mb now H sl kv) {b : Nat} (h : own wb mb H b) : b < w.heap.size := by
  rcases h with rfl | rfl | ⟨t, ht, rfl⟩
  · exact W.lt_wb
  · exact W.m.lt
  · exact W.R.lt_t ht
theorem Rings.kept {S : Nat → Prop} {w' : World} (R : Rings w wb mb now H sl) (k : Kept S w w') (h1 : ¬ S wb) (h2 : ∀ t ∈ H, ¬ S t.b) : Rings w' wb mb now H sl := by
  refine R.same (k.block _ ?_ h1) fun t ht => k.block _ (R.lt_t ht) (h2 t ht)
  obtain ⟨c, h, _⟩ := R.blk.ex; exact lt_of_at h
theorem Whl.kept {S : Nat → Prop} {w' : World} (W : Whl w wb mb now H sl kv) (k : Kept S w w') (h : ∀ b, own wb mb H b → ¬ S b) : Whl w' wb mb now H sl kv :=
  ⟨W.R.kept k (h _ (.inl rfl)) fun t ht => h _ (.inr (.inr ⟨t, ht, rfl⟩)), W.m.kept k (h _ (.inr (.inl rfl))), W.kp, W.idn, W.al, W.nw, W.ln⟩
theorem Whl.in_or (W : Whl w wb mb now H sl kv) (id : ByteArray) : (∃ t ∈ H, t.id = id) ∨ ∀ t ∈ H, t.id ≠ id := by
  by_cases h : ∃ t ∈ H, t.id = id
  · exact .inl h
  · exact .inr fun t ht e => h ⟨t, ht, e⟩

/-! ### Steps -/
theorem kp_put {id : ByteArray} {t : Tm} (kp : kv.Perm (H.map kvOf)) (h : ∀ u ∈ H, u.id ≠ t.id) : (put kv t.id (ptr (some t.b))).Perm ((t :: H).map kvOf) := by
  rw [put_new (get_no' kp h)]
  exact (List.perm_append_comm (l₂ := [_])).trans (kp.cons _)
theorem kp_del {t : Tm} (kp : kv.Perm (H.map kvOf)) (idn : (H.map (·.id)).Nodup) (nd : (H.map (·.b)).Nodup) (ht : t ∈ H) : (del kv t.id).Perm ((H.filter (notB t.b)).map kvOf) := by
  have h1 : (H.filter (notB t.b)) = H.filter fun u => !decide (u.id = t.id) := by
    refine List.filter_congr fun u hu => ?_
    unfold notB
    congr 1
    by_cases e : u.b = t.b
    · rw [inj_of nd hu ht e]; simp
    · have : u.id ≠ t.id := fun g => e (by
        have key : ∀ (L : List Tm), (L.map (·.id)).Nodup → u ∈ L → t ∈ L → u = t := by
          intro L
          induction L with
          | nil => intro _ h; cases h
          | cons x L ih =>
            intro hn h1 h2
            simp only [List.map_cons, List.nodup_cons] at hn
            rcases List.mem_cons.1 h1 with g1 | g1 <;> rcases List.mem_cons.1 h2 with g2 | g2
            · rw [g1, g2]
            · exact (hn.1 (List.mem_map.2 ⟨t, g2, by rw [← g, g1]⟩)).elim
            · exact (hn.1 (List.mem_map.2 ⟨u, g1, by rw [g, g2]⟩)).elim
            · exact ih hn.2 g1 g2
        rw [key H idn hu ht])
      simp [e, this]
  rw [h1]
  have : (H.filter fun u => !decide (u.id = t.id)).map kvOf = (H.map kvOf).filter fun p => !decide (p.1 = t.id) := by
    rw [List.filter_map]; rfl
  rw [this]
  exact kp.filter _
/-- the wheel behind a hang of one that was not in it -/
theorem Whl.hung_in {w2 w3 : World} (kp : kv.Perm (H.map kvOf)) (idn : (H.map (·.id)).Nodup) (al : ∀ t ∈ H, t.ring = level t.at_ now ∧ now < t.at_ ∧ isName t.id = true) (nw : now ≤ 1099511627776) (ln : H.length < 4096)
    {t : Tm} {kv2 : KV} {sl' : Nat → Nat → List Tm} (hkv : kv2.Perm ((t :: H).map kvOf)) (hid : ∀ u ∈ H, u.id ≠ t.id) (hn : isName t.id = true) (hat : now < t.at_) (m : SMap w2 mb kv2)
    (K : Kept (fun b => isB wb H b ∨ b = t.b) w2 w3) (hm : ∀ b, isB wb H b ∨ b = t.b → b ≠ mb) (R : Rings w3 wb mb now (setRing t (level t.at_ now) :: H) sl') : Whl w3 wb mb now (setRing t (level t.at_ now) :: H) sl' kv2 := by
  refine ⟨R, m.kept K fun h => hm _ h rfl, hkv, ?_, ?_, nw, by simp; omega⟩
  · simp only [List.map_cons, List.nodup_cons]
    refine ⟨fun h => ?_, idn⟩
    obtain ⟨u, hu, e⟩ := List.mem_map.1 h
    exact hid u hu e
  · intro u hu
    rcases List.mem_cons.1 hu with rfl | hu
    · exact ⟨rfl, hat, hn⟩
    · exact al u hu

/-! ### find, ahead, At, Len, Now -/
def errno (n : Nat) : Value := .int .i64 n
theorem find_ret (W : Whl w wb mb now H sl kv) (id : ByteArray) :
    Ret Try.prog 26 #[.pointer (some ⟨wb, 0, none⟩), .string id] w fun v w' => w' = w ∧
      ((isName id = false ∧ v = .tuple #[ptr none, .int .i64 111]) ∨ (isName id = true ∧ (∀ t ∈ H, t.id ≠ id) ∧ v = .tuple #[ptr none, .int .i64 7]) ∨ (isName id = true ∧ ∃ t ∈ H, t.id = id ∧ v = .tuple #[ptr (some t.b), .int .i64 0])) := by
  refine ret_of (vs := [_, _]) Try.func26 rfl Try.ntmps26 rfl fun _ => ?_
  refine q_seq (q_reg (s_get rfl (e_assign rfl) (s_get rfl (e_assign rfl) (s_end (x_then ?_)))))
  refine q_seq (q_seq (q_reg (s_get rfl (e_move rfl) (s_call rfl (e_fn rfl) (isName_ret id w) ?_))))
  rintro _ _ ⟨rfl, rfl⟩
  refine s_get rfl (e_not rfl) (s_end (x_then ?_))
  cases hid : isName id with
  | false =>
    refine q_yes rfl ?_
    refine q_seq (q_reg (s_get rfl (e_assign rfl) (s_get rfl (e_assign rfl) (s_end (x_then ?_)))))
    exact q_ret (x_ret2 (.inl rfl) rfl rfl rfl ⟨rfl, .inl ⟨rfl, rfl⟩⟩)
  | true =>
    refine q_no rfl (q_skip (x_then ?_))
    rcases W.in_or id with ⟨t, ht, rfl⟩ | hno
    · refine q_seq (q_reg (s_get rfl (e_move rfl) (s_get rfl (e_nil rfl) (s_get rfl (e_fld rfl) (s_get rfl (e_ld rfl W.R.blk.cm) (s_get rfl (e_move rfl) (s_get rfl (e_lk rfl rfl W.m (W.get_of ht)) (s_get rfl (e_assign rfl) (s_end (x_then ?_))))))))))
      refine q_seq (q_seq (q_reg (s_get rfl (e_move rfl) (s_get rfl (e_pnil rfl rfl) (s_end (x_then ?_))))))
      refine q_no rfl (q_skip (x_then ?_))
      refine q_seq (q_reg (s_get rfl (e_move rfl) (s_get rfl (e_assign rfl) (s_get rfl (e_assign rfl) (s_end (x_then ?_))))))
      exact q_ret (x_ret2 (.inl rfl) rfl rfl rfl ⟨rfl, .inr (.inr ⟨rfl, t, ht, rfl, rfl⟩)⟩)
    · refine q_seq (q_reg (s_get rfl (e_move rfl) (s_get rfl (e_nil rfl) (s_get rfl (e_fld rfl) (s_get rfl (e_ld rfl W.R.blk.cm) (s_get rfl (e_move rfl) (s_get rfl (e_lkn rfl rfl W.m (W.get_no hno)) (s_get rfl (e_assign rfl) (s_end (x_then ?_))))))))))
      refine q_seq (q_seq (q_reg (s_get rfl (e_move rfl) (s_get rfl (e_pnil rfl rfl) (s_end (x_then ?_))))))
      refine q_yes rfl ?_
      refine q_seq (q_reg (s_get rfl (e_assign rfl) (s_get rfl (e_assign rfl) (s_end (x_then ?_)))))
      exact q_ret (x_ret2 (.inl rfl) rfl rfl rfl ⟨rfl, .inr (.inl ⟨rfl, hno, rfl⟩)⟩)

def aheadE (now : Nat) (t : Int) : Nat := if isTime t = true then if t ≤ now then 110 else 0 else 2
theorem ahead_ret (t : Int) (w : World) (c0 : w.cell? ⟨wb, 0, none⟩ = some (.int .i64 now)) :
    Ret Try.prog 27 #[.pointer (some ⟨wb, 0, none⟩), .int .i64 t] w fun v w' => v = .int .i64 (aheadE now t) ∧ w' = w := by
  refine ret_of (vs := [_, _]) Try.func27 rfl Try.ntmps27 rfl fun _ => ?_
  refine q_seq (q_reg (s_get rfl (e_assign rfl) (s_end (x_then ?_))))
  refine q_seq (q_block ?_)
  refine q_seq (q_reg (s_get rfl (e_move rfl) (s_call rfl (e_fn rfl) (isTime_ret t w) ?_)))
  rintro _ _ ⟨rfl, rfl⟩
  refine s_get rfl (e_not rfl) (s_get rfl (e_assign rfl) (s_end (x_then ?_)))
  unfold aheadE
  cases hid : isTime t with
  | false =>
    refine q_yes rfl ?_
    refine q_seq (q_reg (s_get rfl (e_assign rfl) (s_end (x_then ?_))))
    exact q_ret (x_block_ret (x_then_ret (x_ret1 (.inl rfl) rfl rfl ⟨by simp, rfl⟩)))
  | true =>
    refine q_no rfl ?_
    refine q_seq (q_reg (s_get rfl (e_move rfl) (s_get rfl (e_move rfl) (s_get rfl (e_nil rfl) (s_get rfl (e_fld rfl) (s_get rfl (e_ld rfl c0) (s_get rfl (e_leq rfl rfl) (s_get rfl (e_assign rfl) (s_end (x_then ?_))))))))))
    refine q_dec rfl (fun h => ?_) fun h => ?_
    ·
      refine q_seq (q_reg (s_get rfl (e_assign rfl) (s_end (x_then ?_))))
      exact q_ret (x_block_ret (x_then_ret (x_ret1 (.inl rfl) rfl rfl ⟨by simp [h], rfl⟩)))
    ·
      refine q_skip (x_block_normal (x_then ?_))
      refine q_seq (q_reg (s_get rfl (e_assign rfl) (s_end (x_then ?_))))
      exact q_ret (x_ret1 (.inl rfl) rfl rfl ⟨by simp [h], rfl⟩)
end Go.Proofs.Ytogfllhbgkeinaa.Wheel

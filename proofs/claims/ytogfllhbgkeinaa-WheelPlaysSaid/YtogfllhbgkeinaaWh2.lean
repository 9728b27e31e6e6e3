/-
  The wheel from without: what it holds is a list of names with their times ('IsW'); contracts of its methods but Advance, Next and Each.
-/
import Derived.Test.YtogfllhbgkeinaaWhl
set_option linter.unusedVariables false
set_option linter.unusedSimpArgs false
namespace Go.Proofs.Ytogfllhbgkeinaa.Wheel
open Go.RowKit Base Lev Wa Eng Wb Spc
open Go.ChangeMaps (setBlock)

/-- at block wb lies a wheel that holds M at time now; B are its blocks -/
structure IsW (w : World) (wb now : Nat) (M : List Ent) (B : Nat → Prop) : Prop where
  ex : ∃ mb H sl kv, Whl w wb mb now H sl kv ∧ (H.map pr).Perm M ∧ ∀ b, B b ↔ own wb mb H b
  srt : Srt M
variable {w : World} {wb mb now : Nat} {H : List Tm} {sl : Nat → Nat → List Tm} {kv : KV} {M : List Ent} {B : Nat → Prop}
theorem IsW.lt (W : IsW w wb now M B) {b : Nat} (h : B b) : b < w.heap.size := by
  obtain ⟨mb, H, sl, kv, h1, _, h3⟩ := W.ex; exact h1.lt ((h3 b).1 h)
theorem IsW.own (W : IsW w wb now M B) : B wb := by
  obtain ⟨mb, H, sl, kv, h1, _, h3⟩ := W.ex; exact (h3 wb).2 (.inl rfl)
theorem IsW.kept {S : Nat → Prop} {w' : World} (W : IsW w wb now M B) (k : Kept S w w') (h : ∀ b, B b → ¬ S b) : IsW w' wb now M B := by
  obtain ⟨mb, H, sl, kv, h1, h2, h3⟩ := W.ex
  exact ⟨⟨mb, H, sl, kv, h1.kept k fun b hb => h b ((h3 b).2 hb), h2, h3⟩, W.srt⟩
theorem names_of (idn : (H.map (·.id)).Nodup) (p : (H.map pr).Perm M) : (M.map (·.1)).Nodup := by
  rw [← (p.map (·.1)).nodup_iff, List.map_map]; exact idn
theorem IsW.names (W : IsW w wb now M B) : (M.map (·.1)).Nodup := by
  obtain ⟨mb, H, sl, kv, h1, h2, h3⟩ := W.ex; exact names_of h1.idn h2
theorem IsW.all (W : IsW w wb now M B) : ∀ e ∈ M, now < e.2 ∧ e.2 ≤ 1099511627776 ∧ isName e.1 = true := by
  obtain ⟨mb, H, sl, kv, h1, h2, h3⟩ := W.ex
  intro e he
  obtain ⟨t, ht, rfl⟩ := List.mem_map.1 (h2.mem_iff.2 he)
  exact ⟨(h1.al t ht).2.1, (h1.R.ap t ht).2.2.2, (h1.al t ht).2.2⟩
theorem IsW.len (W : IsW w wb now M B) : M.length ≤ 4096 := by
  obtain ⟨mb, H, sl, kv, h1, h2, h3⟩ := W.ex
  have := h2.length_eq; rw [List.length_map] at this
  have := h1.ln; omega
theorem IsW.nw (W : IsW w wb now M B) : now ≤ 1099511627776 := by
  obtain ⟨mb, H, sl, kv, h1, h2, h3⟩ := W.ex; exact h1.nw
theorem atOf_perm (idn : (H.map (·.id)).Nodup) (p : (H.map pr).Perm M) {t : Tm} (ht : t ∈ H) : atOf t.id M = some t.at_ :=
  atOf_mem (names_of idn p) (p.mem_iff.1 (List.mem_map.2 ⟨t, ht, rfl⟩))
theorem atOf_perm_no (p : (H.map pr).Perm M) {id : ByteArray} (h : ∀ t ∈ H, t.id ≠ id) : atOf id M = none := atOf_none.2 fun e he g => by
  obtain ⟨t, ht, rfl⟩ := List.mem_map.1 (p.mem_iff.2 he)
  exact h t ht g
/-- a list that was sorted, and the same elements in a sorted list -/
theorem perm_cut (idn : (H.map (·.id)).Nodup) (nd : (H.map (·.b)).Nodup) (p : (H.map pr).Perm M) {t : Tm} (ht : t ∈ H) : ((H.filter (notB t.b)).map pr).Perm (cut t.id M) := by
  have h1 : (H.filter (notB t.b)) = H.filter fun u => !decide (u.id = t.id) := by
    refine List.filter_congr fun u hu => ?_
    unfold notB
    congr 1
    by_cases e : u.b = t.b
    · rw [inj_of nd hu ht e]; simp
    · have : u.id ≠ t.id := fun g => e (by
        have key : ∀ (L : List Tm), (L.map (·.id)).Nodup → u ∈ L → t ∈ L → u = t := by
          intro L
          induction L with
          | nil => intro _ h; cases h
          | cons x L ih =>
            intro hn h1 h2
            simp only [List.map_cons, List.nodup_cons] at hn
            rcases List.mem_cons.1 h1 with g1 | g1 <;> rcases List.mem_cons.1 h2 with g2 | g2
            · rw [g1, g2]
            · exact (hn.1 (List.mem_map.2 ⟨t, g2, by rw [← g, g1]⟩)).elim
            · exact (hn.1 (List.mem_map.2 ⟨u, g1, by rw [g, g2]⟩)).elim
            · exact ih hn.2 g1 g2
        rw [key H idn hu ht])
      simp [e, this]
  rw [h1]
  have : (H.filter fun u => !decide (u.id = t.id)).map pr = (H.map pr).filter fun p => !decide (p.1 = t.id) := by
    rw [List.filter_map]; rfl
  rw [this]
  exact p.filter _
/-- what a step may leave of the wheel's blocks: those it had, and new ones -/
def Grew (w : World) (B B' : Nat → Prop) : Prop := ∀ b, B' b → B b ∨ w.heap.size ≤ b

/-! ### New -/
theorem new_bad (t : Int) (w : World) (h : isTime t = false) : Ret Try.prog 20 #[.int .i64 t] w fun v w' => v = .tuple #[.pointer none, .int .i64 2] ∧ w' = w := by
  refine ret_of (vs := [_]) Try.func20 rfl Try.ntmps20 rfl fun _ => ?_
  refine q_seq (q_reg (s_get rfl (e_assign rfl) (s_get rfl (e_assign rfl) (s_end (x_then ?_)))))
  refine q_seq (q_seq (q_reg (s_get rfl (e_move rfl) (s_call rfl (e_fn rfl) (isTime_ret t w) ?_))))
  rintro _ _ ⟨rfl, rfl⟩
  refine s_get rfl (e_not rfl) (s_end (x_then ?_))
  rw [h]
  refine q_yes rfl ?_
  refine q_seq (q_reg (s_get rfl (e_assign rfl) (s_get rfl (e_assign rfl) (s_end (x_then ?_)))))
  exact q_ret (x_ret2 (.inl rfl) rfl rfl rfl ⟨rfl, rfl⟩)
def wc (n m : Nat) (x y z f : Value) : List Value := x :: (List.replicate n y ++ List.replicate m z ++ [f])
theorem wc_len (n m : Nat) (x y z f : Value) : (wc n m x y z f).length = n + m + 2 := by simp [wc]; omega
theorem wc_0 (n m : Nat) (x y z f : Value) : (wc n m x y z f)[0]? = some x := rfl
theorem wc_1 (n m : Nat) (x y z f : Value) {i : Nat} (h : i < n) : (wc n m x y z f)[1 + i]? = some y := by
  rw [show 1 + i = i + 1 from by omega]; unfold wc
  rw [List.getElem?_cons_succ, List.append_assoc, List.getElem?_append_left (by simp; omega), List.getElem?_replicate_of_lt h]
theorem wc_2 (n m : Nat) (x y z f : Value) {i : Nat} (h : i < m) : (wc n m x y z f)[1 + n + i]? = some z := by
  rw [show 1 + n + i = (n + i) + 1 from by omega]; unfold wc
  rw [List.getElem?_cons_succ, List.append_assoc, List.getElem?_append_right (by simp), List.getElem?_append_left (by simp; omega), List.getElem?_replicate_of_lt (by simp; omega)]
theorem wc_3 (n m : Nat) (x y z f : Value) : (wc n m x y z f)[1 + n + m]? = some f := by
  rw [show 1 + n + m = (n + m) + 1 from by omega]; unfold wc
  rw [List.getElem?_cons_succ, List.getElem?_append_right (by simp)]; simp
def wcells (now mb : Nat) : List Value := wc 448 7 (.int .i64 now) (.pointer none) (.int .i64 0) (.map (some mb))
theorem new_blk (now mb wb : Nat) (w : World) (h : w.heap[wb]? = some (.cells (wcells now mb).toArray 76 (0, 0))) : WBlk w wb now (fun _ _ => none) (fun _ => 0) mb := by
  refine ⟨_, h, (by rw [List.size_toArray]; exact wc_len ..), ?_, fun r hr k hk => ?_, fun r hr => ?_, ?_⟩ <;> rw [List.getElem?_toArray]
  · exact wc_0 ..
  · rw [Nat.add_assoc]; exact wc_1 448 7 _ _ _ _ (i := r * 64 + k) (by omega)
  · exact wc_2 448 7 _ _ _ _ hr
  · exact wc_3 448 7 ..
theorem new_built (now mb : Nat) : Try.prog.built 76 [(0, .int .i64 now), (3, .map (some mb))] = some (wcells now mb).toArray := by kernel_rfl
theorem new_ret (now : Nat) (w : World) (h : isTime (now : Int) = true) : Ret Try.prog 20 #[.int .i64 now] w fun v w' =>
    ∃ wb B, v = .tuple #[.pointer (some ⟨wb, 0, none⟩), .int .i64 0] ∧ IsW w' wb now [] B ∧ Ext w w' ∧ ∀ b, B b → w.heap.size ≤ b := by
  obtain ⟨m, hm, hle⟩ := isTime_nat h
  obtain rfl : now = m := by omega
  refine ret_of (vs := [_]) Try.func20 rfl Try.ntmps20 rfl fun _ => ?_
  refine q_seq (q_reg (s_get rfl (e_assign rfl) (s_get rfl (e_assign rfl) (s_end (x_then ?_)))))
  refine q_seq (q_seq (q_reg (s_get rfl (e_move rfl) (s_call rfl (e_fn rfl) (isTime_ret now w) ?_))))
  rintro _ w ⟨rfl, rfl⟩
  refine s_get rfl (e_not rfl) (s_end (x_then ?_))
  rw [h]
  refine q_no rfl (q_skip (x_then ?_))
  refine q_seq (q_reg (s_get rfl (e_move rfl) (s_val rfl e_makeMap (s_get rfl (e_build (wcells now w.heap.size) rfl (new_built _ _)) (s_val rfl (e_box rfl) (s_get rfl (e_assign rfl) (s_get rfl (e_assign rfl) (s_end (x_then ?_)))))))))
  refine q_ret (x_ret2 (.inl rfl) rfl rfl rfl ?_)
  refine ⟨w.heap.size + 1, fun b => b = w.heap.size + 1 ∨ b = w.heap.size, by simp, ⟨⟨w.heap.size, [], fun _ _ => [], [], ⟨⟨?_, fun _ _ _ _ => trivial, fun _ _ _ _ => .refl _, List.nodup_nil, fun t h => (by cases h), by omega⟩, ?_, .refl _, List.nodup_nil, fun t h => (by cases h), hle, by simp⟩, .refl _, fun b => by simp [own]⟩, List.Pairwise.nil⟩, ?_, ?_⟩
  · refine new_blk now w.heap.size _ _ ?_
    rw [show w.heap.size + 1 = (w.alloc (.map #[] 0)).heap.size from by simp]
    exact Base.heap_alloc_new' _ _
  · exact (SMap.made w).kept (Kept.alloc (fun _ => False) _ _) fun h => h
  · exact ((Ext.refl _).alloc _).alloc _
  · intro b hb; omega

/-! ### At, Len, Now, Spread -/
def atR (M : List Ent) (id : ByteArray) : Nat × Nat := if isName id = true then match atOf id M with
    | some t => (t, 0)
    | none => (0, 7)
  else (0, 111)
theorem at_ret (W : IsW w wb now M B) (id : ByteArray) :
    Ret Try.prog 13 #[.pointer (some ⟨wb, 0, none⟩), .string id] w fun v w' => v = .tuple #[.int .i64 (atR M id).1, .int .i64 (atR M id).2] ∧ w' = w := by
  obtain ⟨mb, H, sl, kv, h1, h2, h3⟩ := W.ex
  unfold atR
  refine ret_of (vs := [_, _]) Try.func13 rfl Try.ntmps13 rfl fun _ => ?_
  refine q_seq (q_reg (s_get rfl (e_assign rfl) (s_get rfl (e_assign rfl) (s_end (x_then ?_)))))
  refine q_seq (q_seq (q_reg (s_get rfl (e_move rfl) (s_get rfl (e_pnil rfl rfl) (s_end (x_then ?_))))))
  refine q_no rfl (q_skip (x_then ?_))
  refine q_seq (q_reg (s_get rfl (e_move rfl) (s_get rfl (e_move rfl) (s_call rfl (e_fn rfl) (find_ret h1 id) ?_))))
  rintro _ w ⟨rfl, h⟩
  rcases h with ⟨hid, rfl⟩ | ⟨hid, hno, rfl⟩ | ⟨hid, t, ht, rfl, rfl⟩
  ·
    refine s_get rfl (e_move rfl) (s_get rfl (e_ext rfl rfl) (s_get rfl (e_ext rfl rfl) (s_get rfl (e_assign rfl) (s_get rfl (e_assign rfl) (s_end (x_then ?_))))))
    refine q_seq (q_seq (q_reg (s_get rfl (e_move rfl) (s_get rfl (yes (e_neq rfl rfl) (by first | omega | (dsimp only; omega))) (s_end (x_then ?_))))))
    refine q_yes rfl ?_
    refine q_seq (q_reg (s_get rfl (e_move rfl) (s_get rfl (e_assign rfl) (s_get rfl (e_assign rfl) (s_end (x_then ?_))))))
    exact q_ret (x_ret2 (.inl rfl) rfl rfl rfl ⟨by simp [hid], rfl⟩)
  ·
    refine s_get rfl (e_move rfl) (s_get rfl (e_ext rfl rfl) (s_get rfl (e_ext rfl rfl) (s_get rfl (e_assign rfl) (s_get rfl (e_assign rfl) (s_end (x_then ?_))))))
    refine q_seq (q_seq (q_reg (s_get rfl (e_move rfl) (s_get rfl (yes (e_neq rfl rfl) (by first | omega | (dsimp only; omega))) (s_end (x_then ?_))))))
    refine q_yes rfl ?_
    refine q_seq (q_reg (s_get rfl (e_move rfl) (s_get rfl (e_assign rfl) (s_get rfl (e_assign rfl) (s_end (x_then ?_))))))
    exact q_ret (x_ret2 (.inl rfl) rfl rfl rfl ⟨by simp [hid, atOf_perm_no h2 hno], rfl⟩)
  ·
    refine s_get rfl (e_move rfl) (s_get rfl (e_ext rfl rfl) (s_get rfl (e_ext rfl rfl) (s_get rfl (e_assign rfl) (s_get rfl (e_assign rfl) (s_end (x_then ?_))))))
    refine q_seq (q_seq (q_reg (s_get rfl (e_move rfl) (s_get rfl (nay (e_neq rfl rfl) (by first | omega | (dsimp only; omega))) (s_end (x_then ?_))))))
    refine q_no rfl (q_skip (x_then ?_))
    obtain ⟨p, q, hT⟩ := h1.R.tblk ht
    refine q_seq (q_reg (s_get rfl (e_move rfl) (s_get rfl (e_nil rfl) (s_get rfl (e_fld rfl) (s_get rfl (e_ld rfl hT.c.2.1) (s_get rfl (e_assign rfl) (s_get rfl (e_assign rfl) (s_end (x_then ?_)))))))))
    exact q_ret (x_ret2 (.inl rfl) rfl rfl rfl ⟨by simp [hid, atOf_perm h1.idn h2 ht], rfl⟩)
theorem len_ret (W : IsW w wb now M B) : Ret Try.prog 14 #[.pointer (some ⟨wb, 0, none⟩)] w fun v w' => v = .int .i64 M.length ∧ w' = w := by
  obtain ⟨mb, H, sl, kv, h1, h2, h3⟩ := W.ex
  refine ret_of (vs := [_]) Try.func14 rfl Try.ntmps14 rfl fun _ => ?_
  refine q_seq (q_reg (s_get rfl (e_assign rfl) (s_end (x_then ?_))))
  refine q_seq (q_seq (q_reg (s_get rfl (e_move rfl) (s_get rfl (e_pnil rfl rfl) (s_end (x_then ?_))))))
  refine q_no rfl (q_skip (x_then ?_))
  refine q_seq (q_reg (s_get rfl (e_move rfl) (s_get rfl (e_nil rfl) (s_get rfl (e_fld rfl) (s_get rfl (e_ld rfl h1.R.blk.cm) (s_get rfl (e_lenm rfl h1.m) (s_get rfl (e_assign rfl) (s_end (x_then ?_)))))))))
  have := h2.length_eq; rw [List.length_map] at this
  exact q_ret (x_ret1 (.inl rfl) rfl rfl ⟨by rw [h1.len, this], rfl⟩)
theorem now_ret (W : IsW w wb now M B) : Ret Try.prog 24 #[.pointer (some ⟨wb, 0, none⟩)] w fun v w' => v = .int .i64 now ∧ w' = w := by
  obtain ⟨mb, H, sl, kv, h1, h2, h3⟩ := W.ex
  refine ret_of (vs := [_]) Try.func24 rfl Try.ntmps24 rfl fun _ => ?_
  refine q_seq (q_reg (s_get rfl (e_assign rfl) (s_end (x_then ?_))))
  refine q_seq (q_seq (q_reg (s_get rfl (e_move rfl) (s_get rfl (e_pnil rfl rfl) (s_end (x_then ?_))))))
  refine q_no rfl (q_skip (x_then ?_))
  refine q_seq (q_reg (s_get rfl (e_move rfl) (s_get rfl (e_nil rfl) (s_get rfl (e_fld rfl) (s_get rfl (e_ld rfl h1.R.blk.c0) (s_get rfl (e_assign rfl) (s_end (x_then ?_))))))))
  exact q_ret (x_ret1 (.inl rfl) rfl rfl ⟨rfl, rfl⟩)

/-! ### Add -/
def addE (now : Nat) (M : List Ent) (id : ByteArray) (t : Int) : Nat :=
  if isName id = true then if (atOf id M).isSome = true then 8 else if aheadE now t = 0 then if 4096 ≤ M.length then 5 else 0 else aheadE now t else 111
def addM (now : Nat) (M : List Ent) (id : ByteArray) (t : Int) : List Ent := if addE now M id t = 0 then ins (id, t.toNat) M else M
theorem aheadE_zero {now : Nat} {t : Int} (h : aheadE now t = 0) : ∃ m : Nat, t = m ∧ now < m ∧ m ≤ 1099511627776 := by
  unfold aheadE at h
  split at h
  · rename_i ht
    obtain ⟨m, rfl, hm⟩ := isTime_nat ht
    split at h
    · cases h
    · exact ⟨m, rfl, by omega, hm⟩
  · cases h
theorem Whl.alloc1 (h1 : Whl w wb mb now H sl kv) (t : Tm) (ht : t.b = w.heap.size) : Whl (w.alloc (.cells (tcells t none none) 68)) wb mb now H sl kv ∧ TBlk (w.alloc (.cells (tcells t none none) 68)) t none none :=
  ⟨h1.kept ((Ext.refl w).alloc _) fun _ _ h => h, by unfold TBlk; rw [ht]; exact Base.heap_alloc_new' _ _⟩
theorem Whl.upd2 (h1 : Whl w wb mb now H sl kv) {t : Tm} {o : Obj} {p q : Option Nat} (hT : TBlk w t p q) (hm : t.b ≠ mb) : Rings (setBlock w mb o) wb mb now H sl ∧ TBlk (setBlock w mb o) t p q := by
  have hne : ∀ b, b ≠ mb → (setBlock w mb o).heap[b]? = w.heap[b]? := fun b hb => heap_setBlock_other _ hb
  refine ⟨h1.R.same (hne wb h1.R.wm) fun u hu => hne u.b (h1.R.ap u hu).2.1, ?_⟩
  unfold TBlk at *
  rw [hne t.b hm]; exact hT
theorem Whl.added (h1 : Whl w wb mb now H sl kv) (h2 : (H.map pr).Perm M) (h3 : ∀ b, B b ↔ own wb mb H b) (hs : Srt M) {t : Tm} (hno : ∀ u ∈ H, u.id ≠ t.id) (hat : atOf t.id M = none) (hid : isName t.id = true) (hlt : now < t.at_) (hl : H.length < 4096)
    (hE : addE now M t.id t.at_ = 0) (ht : t.b = w.heap.size) {o : Obj} {w3 : World} {sl' : Nat → Nat → List Tm}
    (hm : SMap (setBlock (w.alloc (.cells (tcells t none none) 68)) mb o) mb (put kv t.id (ptr (some t.b))))
    (K3 : Kept (fun b => isB wb H b ∨ b = t.b) (setBlock (w.alloc (.cells (tcells t none none) 68)) mb o) w3) (R3 : Rings w3 wb mb now (setRing t (level t.at_ now) :: H) sl') :
    ∃ B', IsW w3 wb now (addM now M t.id t.at_) B' ∧ Kept B w w3 ∧ Grew w B B' := by
  have hmb := h1.m.lt
  have W3 := Whl.hung_in h1.kp h1.idn h1.al h1.nw hl (t := t) (kp_put (id := t.id) h1.kp hno) hno hid hlt hm K3 (fun b hb => by
    rcases hb with (rfl | ⟨u, hu, rfl⟩) | rfl
    · exact h1.R.wm
    · exact (h1.R.ap u hu).2.1
    · omega) R3
  refine ⟨own wb mb (setRing t (level t.at_ now) :: H), ⟨⟨mb, _, _, _, W3, ?_, fun _ => Iff.rfl⟩, ?_⟩, ?_, ?_⟩
  · unfold addM
    rw [hE, if_pos rfl]
    exact (h2.cons (t.id, t.at_)).trans (ins_perm _ _).symm
  · unfold addM
    rw [hE, if_pos rfl]
    exact ins_srt hs (not_mem_of_none hat _)
  · refine (((Ext.refl w).alloc _).kept B).trans ((Kept.setBlock (S := own wb mb (t :: H)) _ mb o (.inr (.inl rfl))).trans (K3.mono fun b _ hb => ?_) fun _ _ h => h) fun b hb h => ?_
    · rcases hb with (rfl | ⟨u, hu, rfl⟩) | rfl
      · exact .inl rfl
      · exact .inr (.inr ⟨u, List.mem_cons_of_mem _ hu, rfl⟩)
      · exact .inr (.inr ⟨t, List.mem_cons_self, rfl⟩)
    · rw [h3]
      rcases h with rfl | rfl | ⟨u, hu, rfl⟩
      · exact .inl rfl
      · exact .inr (.inl rfl)
      · rcases List.mem_cons.1 hu with rfl | hu
        · omega
        · exact .inr (.inr ⟨u, hu, rfl⟩)
  · intro b hb
    rw [h3]
    rcases hb with rfl | rfl | ⟨u, hu, rfl⟩
    · exact .inl (.inl rfl)
    · exact .inl (.inr (.inl rfl))
    · rcases List.mem_cons.1 hu with rfl | hu
      · exact .inr (Nat.le_of_eq ht.symm)
      · exact .inl (.inr (.inr ⟨u, hu, rfl⟩))
theorem add_ret (W : IsW w wb now M B) (id : ByteArray) (t : Int) :
    Ret Try.prog 21 #[.pointer (some ⟨wb, 0, none⟩), .string id, .int .i64 t] w fun v w' => v = .int .i64 (addE now M id t) ∧
      ∃ B', IsW w' wb now (addM now M id t) B' ∧ Kept B w w' ∧ Grew w B B' := by
  obtain ⟨mb, H, sl, kv, h1, h2, h3⟩ := W.ex
  have hlen := h2.length_eq
  rw [List.length_map] at hlen
  have same : ∀ {e : Nat}, e ≠ 0 → addE now M id t = e → (Value.int .i64 e = .int .i64 (addE now M id t) ∧ ∃ B', IsW w wb now (addM now M id t) B' ∧ Kept B w w ∧ Grew w B B') := fun h0 he => by
    have : addM now M id t = M := by unfold addM; rw [he, if_neg h0]
    rw [this, he]
    exact ⟨rfl, B, W, Kept.refl _ _, fun b h => .inl h⟩
  refine ret_of (vs := [_, _, _]) Try.func21 rfl Try.ntmps21 rfl fun _ => ?_
  refine q_seq (q_reg (s_get rfl (e_assign rfl) (s_end (x_then ?_))))
  refine q_seq (q_seq (q_reg (s_get rfl (e_move rfl) (s_get rfl (e_pnil rfl rfl) (s_end (x_then ?_))))))
  refine q_no rfl (q_skip (x_then ?_))
  refine q_seq (q_seq (q_reg (s_get rfl (e_move rfl) (s_call rfl (e_fn rfl) (isName_ret id w) ?_))))
  rintro _ w ⟨rfl, rfl⟩
  refine s_get rfl (e_not rfl) (s_end (x_then ?_))
  cases hid : isName id with
  | false =>
    refine q_yes rfl ?_
    refine q_seq (q_reg (s_get rfl (e_assign rfl) (s_end (x_then ?_))))
    exact q_ret (x_ret1 (.inl rfl) rfl rfl (same (by decide) (by simp [addE, hid])))
  | true =>
    refine q_no rfl (q_skip (x_then ?_))
    rcases h1.in_or id with ⟨u, hu, rfl⟩ | hno
    ·
      refine q_seq (q_seq (q_reg (s_get rfl (e_move rfl) (s_get rfl (e_nil rfl) (s_get rfl (e_fld rfl) (s_get rfl (e_ld rfl h1.R.blk.cm) (s_get rfl (e_move rfl) (s_get rfl (e_lk rfl rfl h1.m (h1.get_of hu)) (s_get rfl (e_pnnil rfl rfl) (s_end (x_then ?_)))))))))))
      refine q_yes rfl ?_
      refine q_seq (q_reg (s_get rfl (e_assign rfl) (s_end (x_then ?_))))
      exact q_ret (x_ret1 (.inl rfl) rfl rfl (same (by decide) (by simp [addE, hid, atOf_perm h1.idn h2 hu])))
    have hat := atOf_perm_no h2 hno
    refine q_seq (q_seq (q_reg (s_get rfl (e_move rfl) (s_get rfl (e_nil rfl) (s_get rfl (e_fld rfl) (s_get rfl (e_ld rfl h1.R.blk.cm) (s_get rfl (e_move rfl) (s_get rfl (e_lkn rfl rfl h1.m (h1.get_no hno)) (s_get rfl (e_pnnil rfl rfl) (s_end (x_then ?_)))))))))))
    refine q_no rfl (q_skip (x_then ?_))
    refine q_seq (q_seq (q_reg (s_get rfl (e_move rfl) (s_get rfl (e_move rfl) (s_call rfl (e_fn rfl) (ahead_ret t _ h1.R.blk.c0) ?_)))))
    rintro _ w ⟨rfl, rfl⟩
    refine s_get rfl (e_assign rfl) (s_end (x_then ?_))
    refine q_seq (q_reg (s_get rfl (e_move rfl) (s_get rfl (e_neq rfl rfl) (s_end (x_then ?_)))))
    refine q_dec rfl (fun h => ?_) fun h => ?_
    ·
      refine q_seq (q_reg (s_get rfl (e_move rfl) (s_get rfl (e_assign rfl) (s_end (x_then ?_)))))
      have h0 : aheadE now t ≠ 0 := by omega
      exact q_ret (x_ret1 (.inl rfl) rfl rfl (same h0 (by simp [addE, hid, hat, h0])))
    have h0 : aheadE now t = 0 := by omega
    refine q_skip (x_then ?_)
    obtain ⟨m, rfl, hlt, hle⟩ := aheadE_zero h0
    refine q_seq (q_seq (q_reg (s_get rfl (e_move rfl) (s_get rfl (e_nil rfl) (s_get rfl (e_fld rfl) (s_get rfl (e_ld rfl h1.R.blk.cm) (s_get rfl (e_lenm rfl h1.m) (s_get rfl (e_geq rfl rfl) (s_end (x_then ?_))))))))))
    have hkl := h1.len
    refine q_dec rfl (fun h => ?_) fun h => ?_
    ·
      refine q_seq (q_reg (s_get rfl (e_assign rfl) (s_end (x_then ?_))))
      exact q_ret (x_ret1 (.inl rfl) rfl rfl (same (by decide) (by simp [addE, hid, hat, h0, show 4096 ≤ M.length from by omega])))
    refine q_skip (x_then ?_)
    have hE : addE now M id (m : Int) = 0 := by
      have : ¬ 4096 ≤ M.length := by omega
      simp [addE, hid, hat, h0, this]
    refine q_seq (q_reg (s_get rfl (e_move rfl) (s_get rfl (e_move rfl) (s_get rfl (e_build [.string id,.int .i64 m,.int .i64 0,.pointer none,.pointer none] rfl (by kernel_rfl)) (s_val rfl (e_box rfl) (s_get rfl (e_assign rfl) (s_end (x_then ?_))))))))
    obtain ⟨W1, T1⟩ := Whl.alloc1 h1 ⟨w.heap.size, id, m, 0⟩ rfl
    obtain ⟨o, hset, hm2⟩ := upd_ex (P := Try.prog) (T := 74) W1.m id (.pointer (some ⟨w.heap.size, 0, none⟩))
    refine q_seq (q_reg (s_get rfl (e_move rfl) (s_get rfl (e_nil rfl) (s_get rfl (e_fld rfl) (s_get rfl (e_ld rfl W1.R.blk.cm) (s_get rfl (e_move rfl) (s_get rfl (e_move rfl) (s_set (e_upd rfl rfl rfl hset) (s_end (x_then ?_))))))))))
    obtain ⟨R2, T2⟩ := Whl.upd2 W1 (o := o) T1 (Nat.ne_of_gt h1.m.lt)
    have hnt : ∀ u ∈ H, u.b ≠ w.heap.size := fun u hu => Nat.ne_of_lt (h1.R.lt_t hu)
    have hwb := h1.lt_wb
    have hcall := hang_ok R2 T2 hnt (Nat.ne_of_gt hwb) (Nat.ne_of_gt h1.m.lt) hle h1.nw h1.ln
    refine q_seq (q_reg (s_get rfl (e_move rfl) (s_get rfl (e_move rfl) (s_call rfl (e_fn rfl) hcall ?_))))
    rintro _ w3 ⟨rfl, R3, K3⟩
    refine s_end (x_then ?_)
    refine q_seq (q_reg (s_get rfl (e_assign rfl) (s_end (x_then ?_))))
    refine q_ret (x_ret1 (.inl rfl) rfl rfl ⟨by rw [hE]; rfl, ?_⟩)
    exact Whl.added (t := ⟨w.heap.size, id, m, 0⟩) h1 h2 h3 W.srt hno hat hid hlt (by omega) hE rfl hm2 K3 R3
end Go.Proofs.Ytogfllhbgkeinaa.Wheel

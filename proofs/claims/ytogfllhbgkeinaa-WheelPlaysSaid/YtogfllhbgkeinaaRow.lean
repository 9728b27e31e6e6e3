/-
  From a contract to a row: a law that returns true and leaves all old blocks as they were.
-/
import Derived.Test.YtogfllhbgkeinaaRows
import Derived.Test.YtogfllhbgkeinaaMoved
import Derived.WalkKit
import Derived.ProofKit
import Derived.OpenShut
import Derived.JoinedCond
import Derived.Carry
set_option linter.unusedVariables false
set_option linter.unusedSimpArgs false
namespace Go.Proofs.Ytogfllhbgkeinaa.RowP
open Go.ChangeShapes Go.WideShapes Go.ChangeAt Go.RowKit Base Eng Wheel

theorem own : ownKnob Try.prog.godebug = none := by kernel_rfl
theorem laidOut : laidOutB Try.prog = true := by kernel_rfl
theorem ext_below {W W' : World} (h : Ext W W') : Below W.heap.size W W' := Kept.below h (Nat.le_refl _) fun _ _ h => h
section
variable {H : Type} {enc : TypeId × Value → H} {P : Program}
/-- the arguments read as they did -/
theorem stays_all (hl : laidOutB P = true) {W W' : World} (hb : Below W.heap.size W W') {sp : Nat → Bool} : ∀ {ts : List TypeId} {vs : List Value} {ds : List (DataW H)} {ps : List MemPlace}, (∀ t ∈ ts, P.readableRec t = true ∧ t < P.types.size) →
    DataW.TrodAll enc P W 0 (fun _ => true) true ts vs ds ps → (∀ p ∈ ps, p.block < W.heap.size ∧ sp p.block = true) → DataW.TrodAll enc P W' 0 sp true ts vs ds ps
  | [], vs, ds, ps, _, h, _ => by
    obtain ⟨rfl, rfl, rfl⟩ := trodAll_nil h
    exact trodAll_mk0
  | t :: ts, vs, ds, ps, hr, h, hp => by
    obtain ⟨v, vs', d, ds', p, q, rfl, rfl, rfl, h1, h2⟩ := trodAll_cons h
    have hrt := hr t List.mem_cons_self
    exact trodAll_cons_mk (WideElems.Trod_stays hl hrt.1 hrt.2 h1 (fun x hx => hb.same (hp x (List.mem_append.2 (.inl hx))).1) fun x hx => (hp x (List.mem_append.2 (.inl hx))).2)
      (stays_all hl hb (fun u hu => hr u (List.mem_cons_of_mem _ hu)) h2 fun x hx => hp x (List.mem_append.2 (.inr hx)))
theorem frozen_same {W W' : World} (h : Below W.heap.size W W') {a : Addr} (ha : a.block < W.heap.size) : W'.frozen? a = W.frozen? a := by
  unfold World.frozen?
  rw [h.block _ ha]
theorem post_true {f : Func} {s : ChangeSpec} {tb : TypeId} {W W' : World} {args : Array Value} {ds gs : List (DataW H)} {before : List MemPlace} (hl : laidOutB P = true) (hb : Below W.heap.size W W')
    (hW : DataW.Whole enc P f.params.toList s.vars false W args.toList ds gs before) (hvars : s.vars = []) (hr' : (f.params.toList.all fun t => P.readableRec t && Nat.blt t P.types.size) = true)
    (hres : f.resultTypes = #[tb]) (htb : P.underlying tb = some .bool) (hfn : s.fn H (ds ++ gs) = { results := [.lit (.bool true)], args := ds }) : s.post enc P f false true false false W args (.bool true) W' := by
  have hlt := hW.lt
  have hr : ∀ t ∈ f.params.toList, P.readableRec t = true ∧ t < P.types.size := fun t ht => by
    have := List.all_eq_true.1 hr' t ht
    simpa using this
  obtain ⟨pa, pv, hA, hV, rfl, hz, hn⟩ := id hW
  rw [hvars] at hV
  obtain ⟨rfl, rfl⟩ := trodVars_none hV
  have hargs : ∀ sp : Nat → Bool, (∀ p ∈ pa ++ [], sp p.block = true) → DataW.TrodAll enc P W' 0 sp true f.params.toList args.toList (s.fn H (ds ++ [])).args pa := fun sp hsp => by
    rw [hfn]
    exact stays_all hl hb hr hA fun p hp => ⟨hlt p (by simpa using hp), hsp p (by simpa using hp)⟩
  have hvs : ∀ sp : Nat → Bool, DataW.TrodVars enc P W' sp s.vars (s.fn H (ds ++ [])).vars [] := fun sp => by
    rw [hfn, hvars]; rfl
  have hrs : ∀ (b : Nat) (sp : Nat → Bool) (hd : Bool), DataW.TrodAll enc P W' b sp hd f.resultTypes.toList ((Value.bool true).resultList f.resultTypes.size) (s.fn H (ds ++ [])).results [] := fun b sp hd => by
    rw [hfn, hres]
    exact trodAll_cons_mk (shut_bool htb true) trodAll_mk0
  refine ⟨ds, [], pa ++ [], [], pa, [], hW, hrs _ _ _, hargs _ (fun p hp => by simpa using hlt p hp), hvs _, hb.frame _, fun _ => ?_⟩
  refine ⟨ok_one hres rfl (okWide_bool_mk htb true), _, _, ([] ++ pa) ++ [], ⟨[] ++ pa, [], trodAll_append (hargs _ fun _ _ => rfl) (hrs _ _ _), hvs _, rfl, fun b off hp => ?_, fun ha => ?_⟩, fun p hp _ => ?_⟩
  · rw [frozen_same hb (hlt _ (by simpa using hp))]
    exact hz b off (by simpa using hp)
  · simpa using hn ha
  · simpa using hp
end
/-- a list of numbers that came in -/
theorem rd_ints {W : World} {a : Addr} {len cap : Nat} {zs : List Int} (hle : len ≤ cap) (hz : len ≤ zs.length) (hc : ∀ i, i < zs.length → W.cell? (a.add i) = some (.int .i64 (zs.getD i 0))) :
    ∃ b, Rd W 1 (some a) len cap (nums (zs.take len)) b := by
  cases len with
  | zero => exact ⟨none, by simpa [nums] using Rd.empty (w := W) (sz := 1) (a := some a) (cap := cap) (b := none)⟩
  | succ n =>
    have h0 := hc 0 (by omega)
    obtain ⟨b, off, spot⟩ := a
    have hs : spot = none := by
      cases spot with
      | none => rfl
      | some s =>
        exfalso
        simp [Addr.add, World.cell?] at h0
        split at h0 <;> cases h0
    subst hs
    refine ⟨some b, .at (World.block_lt_of_cell? W ⟨b, off, none⟩ (by simpa [Addr.add] using h0)) hle (by simp [nums]; omega) fun j v hj => ?_⟩
    unfold nums at hj
    rw [List.getElem?_map, List.getElem?_take] at hj
    split at hj
    · rename_i hjn
      have := hc j (by omega)
      rw [add_at] at this
      rw [this]
      have hjl : j < zs.length := by omega
      rw [List.getElem?_eq_getElem hjl] at hj
      simpa [List.getD, hjl] using hj
    · cases hj
end Go.Proofs.Ytogfllhbgkeinaa.RowP

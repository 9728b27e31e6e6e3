/-
  WheelRings: for every argument the statement's function returns true, and the arguments read behind the call as they did: no condition.
-/
import Derived.Test.YtogfllhbgkeinaaRow
import Derived.Test.YtogfllhbgkeinaaRingsLaw
set_option linter.unusedVariables false
set_option linter.unusedSimpArgs false
namespace Go.Proofs.Ytogfllhbgkeinaa.RingsRow
open Go.ChangeShapes Go.WideShapes Go.ChangeAt Go.RowKit Base Eng Wheel RowP

theorem i64_of {n : Int} (h : (Lit.int .i64 n).wf = true) : I64 n := by
  simpa [Lit.wf, IntKind.min, IntKind.max, IntKind.signed, IntKind.bits, I64] using h
set_option maxRecDepth 100000 in
/-- a list of numbers that came in -/
theorem open_nums {H : Type} {enc : TypeId × Value → H} {W : World} {base : Nat} {v : Value} {d : DataW H} {p : List MemPlace} (hok : Value.okWide Try.prog W .any base 22 v)
    (h : DataW.Trod enc Try.prog W 0 (fun _ => true) true 22 v d p) : ∃ a len cap fl b, v = .slice a len cap ∧ Rd W 1 a len cap (nums fl) b ∧ ∀ f ∈ fl, I64 f := by
  obtain ⟨a0, len, cap, rfl⟩ := okWide_slice Try.underlying22 hok
  obtain ⟨fuel, hf⟩ := h
  rcases open_ints Try.underlying22 Try.underlying3 (by kernel_rfl) hf with ⟨hc, -⟩ | ⟨a, l, c, zs, hc, -, hl, -, hz, -, hcell, hwf⟩
  · simp [Value.cells] at hc
    obtain ⟨rfl, rfl, rfl⟩ := hc
    exact ⟨_, _, _, [], none, rfl, .empty, fun f hf => by cases hf⟩
  · simp [Value.cells] at hc
    obtain ⟨rfl, rfl, rfl⟩ := hc
    have hzl : len ≤ zs.length := by rw [hz]; split <;> omega
    obtain ⟨b, hs⟩ := rd_ints hl hzl hcell
    exact ⟨_, _, _, _, b, rfl, hs, fun f hf => i64_of (hwf f (List.mem_of_mem_take hf))⟩
set_option maxRecDepth 100000 in
theorem contract (H : Type) (enc : TypeId × Value → H) (W : World) (base : Nat) (args : Array Value) (ds gs : List (DataW H)) (before : List MemPlace)
    (hval : ∀ (j : Nat) t v, Try.f4.params[j]? = some t → args[j]? = some v → Value.okWide Try.prog W .any base t v)
    (hW : DataW.Whole enc Try.prog Try.f4.params.toList Rows.wheelRingsSpec.vars false W args.toList ds gs before) :
    Calls Try.prog 4 args W fun e W' => ∃ v, e = .returned v ∧ Rows.wheelRingsSpec.post enc Try.prog Try.f4 false true false false W args v W' := by
  have hW' := hW
  obtain ⟨p, q, hA0, hV, rfl, hfz, hnd⟩ := hW
  have hA : DataW.TrodAll enc Try.prog W 0 (fun _ => true) true Try.f4.params.toList args.toList ds p := hA0
  rw [Try.params4] at hA hval
  obtain ⟨v0, vs1, d0, ds1, p0, ps1, hv0, rfl, rfl, h0, hA1⟩ := trodAll_cons hA
  obtain ⟨v1, vs2, d1, ds2, p1, ps2, rfl, rfl, rfl, h1, hA2⟩ := trodAll_cons hA1
  obtain ⟨v2, vs3, d2, ds3, p2, ps3, rfl, rfl, rfl, h2, hA3⟩ := trodAll_cons hA2
  obtain ⟨rfl, rfl, rfl⟩ := trodAll_nil hA3
  obtain rfl : args = #[v0, v1, v2] := Array.toList_inj.1 hv0
  obtain ⟨rfl, rfl⟩ := trodVars_none hV
  obtain ⟨x0, rfl, rfl, rfl, w0⟩ := open_int Try.underlying3 (hval 0 3 v0 rfl rfl) h0
  obtain ⟨a1, len1, cap1, fl, b1, rfl, hs, hI⟩ := open_nums (hval 1 22 v1 rfl rfl) h1
  obtain ⟨a2, len2, cap2, sl, b2, rfl, hs2, hI2⟩ := open_nums (hval 2 22 v2 rfl rfl) h2
  have h := rings_ret x0 (i64_of w0) hs hI hs2 hI2 W.drawn
  rw [dn_self] at h
  refine h.mono fun e W' ⟨v, he, W1, j, hw', _, hv, X⟩ => ⟨v, he, ?_⟩
  subst hv
  subst hw'
  have X' : Ext W (dn W1 j) := ⟨X.os, X.tape, X.output, X.size, X.block⟩
  exact post_true laidOut (ext_below X') hW' rfl (by kernel_rfl) (by kernel_rfl) Try.underlying4 rfl

set_option maxRecDepth 100000 in
theorem lifted (os : Os) (started : os.Started) (H : Type) (enc : TypeId × Value → H) :
    ReturnsInHanded {} Try.checked os 4 .any (Rows.wheelRingsSpec.pre6 enc Try.prog Try.f4 Rows.wheelRingsRow.domain false) (Rows.wheelRingsSpec.post enc Try.prog Try.f4 false true false false) := by
  refine returnsInHanded_of_change (C := Try.checked) own started (by kernel_rfl) Try.func4
    (ChangeSpec.witness6 (enc := enc) (C := Try.checked) false ⟨#[], #[.int .i64 0, .slice none 0 0, .slice none 0 0], []⟩ 8 (by kernel_rfl) (by kernel_rfl) (by kernel_rfl) (by kernel_rfl)) ?_
  intro W base args ds gs before hval hW _ _
  exact contract H enc W base args ds gs before hval hW

theorem over : Rows.wheelRingsRow.holds Try.pinned (OpenSpec.ofChange Rows.wheelRingsSpec) :=
  OpenClaim.holds_of_wide 4 Try.f4 rfl rfl rfl rfl rfl rfl rfl ⟨rfl, rfl, rfl, rfl, rfl⟩ rfl rfl rfl rfl rfl (by kernel_rfl) Try.func4 (by kernel_rfl)
    (of_decide_eq_true (by kernel_rfl)) (by unfold Func.isWrapper; first | (rw [if_pos (by decide +kernel)]; kernel_rfl) | (rw [if_neg (by decide +kernel)]; exact ⟨rfl, rfl⟩))
    (fun os started H enc _ => lifted os started H enc)

theorem proved : Rows.WheelRingsSaid := over
#print axioms proved
end Go.Proofs.Ytogfllhbgkeinaa.RingsRow

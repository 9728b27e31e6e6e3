/-
  WheelPlays: for every argument the statement's function returns true, and the arguments read behind the call as they did: no condition.
-/
import Derived.Test.YtogfllhbgkeinaaRow
import Derived.Test.YtogfllhbgkeinaaPlays2
import Derived.Test.YtogfllhbgkeinaaOpen
set_option linter.unusedVariables false
set_option linter.unusedSimpArgs false
namespace Go.Proofs.Ytogfllhbgkeinaa.PlaysRow
open Go.ChangeShapes Go.WideShapes Go.ChangeAt Go.RowKit Base Eng Wheel RowP

theorem i64_of {n : Int} (h : (Lit.int .i64 n).wf = true) : I64 n := by
  simpa [Lit.wf, IntKind.min, IntKind.max, IntKind.signed, IntKind.bits, I64] using h
set_option maxRecDepth 100000 in
theorem open_ops {H : Type} {enc : TypeId × Value → H} {W : World} {base : Nat} {v : Value} {d : DataW H} {p : List MemPlace} (hok : Value.okWide Try.prog W .any base 50 v)
    (h : DataW.Trod enc Try.prog W 0 (fun _ => true) true 50 v d p) : ∃ a len cap, ∃ ol : List Opr, ∃ b, v = .slice a len cap ∧ Rd W 4 a len cap (ol.flatMap ocells) b ∧ len ≤ 9223372036854775807 := by
  obtain ⟨a0, len, cap, rfl⟩ := okWide_slice Try.underlying50 hok
  obtain ⟨fuel, hf⟩ := h
  obtain ⟨a, l, c, L, hv, hl, hm, hL, -, hc⟩ := Open.open_cells (encc := ocells) (k := 4) (by omega) (fun _ => rfl) Try.underlying50 (by kernel_rfl) (fun _ => True) (fun n el y hy => by
    obtain ⟨g1, -⟩ := Open.open_flat (ks := [.i .i64, .s, .i .i64, .b]) Try.underlying56 (by kernel_rfl) (by kernel_rfl) hy
    obtain ⟨v0, r0, rfl, f0, g1⟩ := Open.fit_cons g1
    obtain ⟨v1, r1, rfl, f1, g1⟩ := Open.fit_cons g1
    obtain ⟨v2, r2, rfl, f2, g1⟩ := Open.fit_cons g1
    obtain ⟨v3, r3, rfl, f3, g1⟩ := Open.fit_cons g1
    obtain rfl := Open.fit_nil g1
    obtain ⟨n0, rfl⟩ := Open.fit_i f0
    obtain ⟨s, rfl⟩ := Open.fit_s f1
    obtain ⟨n1, rfl⟩ := Open.fit_i f2
    obtain ⟨b, rfl⟩ := Open.fit_b f3
    exact ⟨(n0, s, n1, b), rfl, trivial⟩) hf ⟨a0, len, cap, rfl⟩
  simp only [Value.slice.injEq] at hv
  obtain ⟨rfl, rfl, rfl⟩ := hv
  have h9 : maxLen = 9223372036854775807 := rfl
  rcases hc with h0 | ⟨b, off, rfl, hb, hcs⟩
  · subst h0
    have : L = [] := List.eq_nil_of_length_eq_zero hL
    subst this
    exact ⟨_, _, _, [], none, rfl, .empty, by omega⟩
  · exact ⟨_, _, _, L, some b, rfl, .at hb hl (by rw [flat_length (enc := ocells) (k := 4) fun _ => rfl, hL]) hcs, by omega⟩
set_option maxRecDepth 100000 in
theorem contract (H : Type) (enc : TypeId × Value → H) (W : World) (base : Nat) (args : Array Value) (ds gs : List (DataW H)) (before : List MemPlace)
    (hval : ∀ (j : Nat) t v, Try.f5.params[j]? = some t → args[j]? = some v → Value.okWide Try.prog W .any base t v)
    (hW : DataW.Whole enc Try.prog Try.f5.params.toList Rows.wheelPlaysSpec.vars false W args.toList ds gs before) :
    Calls Try.prog 5 args W fun e W' => ∃ v, e = .returned v ∧ Rows.wheelPlaysSpec.post enc Try.prog Try.f5 false true false false W args v W' := by
  have hW' := hW
  obtain ⟨p, q, hA0, hV, rfl, hfz, hnd⟩ := hW
  have hA : DataW.TrodAll enc Try.prog W 0 (fun _ => true) true Try.f5.params.toList args.toList ds p := hA0
  rw [Try.params5] at hA hval
  obtain ⟨v0, vs1, d0, ds1, p0, ps1, hv0, rfl, rfl, h0, hA1⟩ := trodAll_cons hA
  obtain ⟨v1, vs2, d1, ds2, p1, ps2, rfl, rfl, rfl, h1, hA2⟩ := trodAll_cons hA1
  obtain ⟨rfl, rfl, rfl⟩ := trodAll_nil hA2
  obtain rfl : args = #[v0, v1] := Array.toList_inj.1 hv0
  obtain ⟨rfl, rfl⟩ := trodVars_none hV
  obtain ⟨x0, rfl, rfl, rfl, w0⟩ := open_int Try.underlying3 (hval 0 3 v0 rfl rfl) h0
  obtain ⟨a1, len1, cap1, ol, b1, rfl, hs, hlm⟩ := open_ops (hval 1 50 v1 rfl rfl) h1
  have h := plays_ret x0 hs hlm W.drawn
  rw [dn_self] at h
  refine h.mono fun e W' ⟨v, he, W1, j, hw', _, hv, X⟩ => ⟨v, he, ?_⟩
  subst hv
  subst hw'
  have X' : Ext W (dn W1 j) := ⟨X.os, X.tape, X.output, X.size, X.block⟩
  exact post_true laidOut (ext_below X') hW' rfl (by kernel_rfl) (by kernel_rfl) Try.underlying4 rfl

set_option maxRecDepth 100000 in
theorem lifted (os : Os) (started : os.Started) (H : Type) (enc : TypeId × Value → H) :
    ReturnsInHanded {} Try.checked os 5 .any (Rows.wheelPlaysSpec.pre6 enc Try.prog Try.f5 Rows.wheelPlaysRow.domain false) (Rows.wheelPlaysSpec.post enc Try.prog Try.f5 false true false false) := by
  refine returnsInHanded_of_change (C := Try.checked) own started (by kernel_rfl) Try.func5
    (ChangeSpec.witness6 (enc := enc) (C := Try.checked) false ⟨#[], #[.int .i64 0, .slice none 0 0], []⟩ 8 (by kernel_rfl) (by kernel_rfl) (by kernel_rfl) (by kernel_rfl)) ?_
  intro W base args ds gs before hval hW _ _
  exact contract H enc W base args ds gs before hval hW

theorem over : Rows.wheelPlaysRow.holds Try.pinned (OpenSpec.ofChange Rows.wheelPlaysSpec) :=
  OpenClaim.holds_of_wide 5 Try.f5 rfl rfl rfl rfl rfl rfl rfl ⟨rfl, rfl, rfl, rfl, rfl⟩ rfl rfl rfl rfl rfl (by kernel_rfl) Try.func5 (by kernel_rfl)
    (of_decide_eq_true (by kernel_rfl)) (by unfold Func.isWrapper; first | (rw [if_pos (by decide +kernel)]; kernel_rfl) | (rw [if_neg (by decide +kernel)]; exact ⟨rfl, rfl⟩))
    (fun os started H enc _ => lifted os started H enc)

theorem proved : Rows.WheelPlaysSaid := over
#print axioms proved
end Go.Proofs.Ytogfllhbgkeinaa.PlaysRow

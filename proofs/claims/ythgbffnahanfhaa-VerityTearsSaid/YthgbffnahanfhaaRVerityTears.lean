/- VerityTears: for every input the law answers true, and the input reads as it did. No condition. -/
import Derived.Test.YthgbffnahanfhaaPVerityTears
import Derived.Test.YthgbffnahanfhaaW4
import Derived.Test.YthgbffnahanfhaaEvRow
import Derived.Test.YthgbffnahanfhaaRows
set_option linter.unusedVariables false
set_option linter.unusedSimpArgs false
namespace Go.Proofs.Ythgbffnahanfhaa.verityTears
open Go Go.EV Go.ChangeShapes Go.WideShapes Go.ChangeAt Go.RowKit
set_option linter.unusedVariables false
set_option maxRecDepth 100000
set_option maxHeartbeats 0
theorem own : ownKnob Try.prog.godebug = none := by kernel_rfl
theorem laidOut : laidOutB Try.prog = true := by kernel_rfl
theorem func : Try.prog.funcs[3]? = some Try.f3 := by kernel_rfl
theorem params : Try.f3.params = #[23, 3, 3, 24, 24, 26] := by kernel_rfl
theorem und4 : Try.prog.underlying 4 = some .bool := by kernel_rfl
theorem contract (H : Type) (enc : TypeId × Value → H) (W : World) (base : Nat) (args : Array Value) (ds gs : List (DataW H)) (before : List MemPlace)
    (hval0 : ∀ (j : Nat) t v, Try.f3.params[j]? = some t → args[j]? = some v → Value.okWide Try.prog W .any base t v)
    (hW : DataW.Whole enc Try.prog Try.f3.params.toList Rows.verityTearsSpec.vars false W args.toList ds gs before) :
    Calls Try.prog 3 args W fun e W' => ∃ v, e = .returned v ∧ Rows.verityTearsSpec.post enc Try.prog Try.f3 false true false false W args v W' := by
  have hW' := hW
  obtain ⟨p, q, hA, hV, rfl, hfz, hnd⟩ := hW
  have hval := hval0
  rw [params] at hA hval
  obtain ⟨v0, vs0, d0, ds0, p0, q0, hargs, rfl, rfl, h0, r0⟩ := trodAll_cons hA
  obtain ⟨v1, vs1, d1, ds1, p1, q1, e1, rfl, rfl, h1, r1⟩ := trodAll_cons r0
  obtain ⟨v2, vs2, d2, ds2, p2, q2, e2, rfl, rfl, h2, r2⟩ := trodAll_cons r1
  obtain ⟨v3, vs3, d3, ds3, p3, q3, e3, rfl, rfl, h3, r3⟩ := trodAll_cons r2
  obtain ⟨v4, vs4, d4, ds4, p4, q4, e4, rfl, rfl, h4, r4⟩ := trodAll_cons r3
  obtain ⟨v5, vs5, d5, ds5, p5, q5, e5, rfl, rfl, h5, r5⟩ := trodAll_cons r4
  obtain ⟨en, rfl, rfl⟩ := trodAll_nil r5
  obtain ⟨rfl, rfl⟩ := trodVars_none hV
  subst en
  subst e5
  subst e4
  subst e3
  subst e2
  subst e1
  obtain rfl : args = #[v0, v1, v2, v3, v4, v5] := by cases args; simp_all
  simp only [List.append_nil] at hW'
  have fin : Calls Try.prog 3 #[v0, v1, v2, v3, v4, v5] W (fun e W' => e = .returned (.bool true) ∧ Below W.heap.size W W') → Calls Try.prog 3 #[v0, v1, v2, v3, v4, v5] W fun e W' => ∃ v, e = .returned v ∧ Rows.verityTearsSpec.post enc Try.prog Try.f3 false true false false W #[v0, v1, v2, v3, v4, v5] v W' := by
    intro hc
    refine hc.mono fun e W' ⟨he, hb⟩ => ?_
    subst he
    have hlt := hW'.lt
    refine ⟨_, rfl, _, _, _, [], _, [], hW', ?_, trodAll_below laidOut hb (by rw [params]; intro t ht; simp only [List.mem_cons, List.not_mem_nil, or_false] at ht; rcases ht with rfl | rfl | rfl | rfl | rfl | rfl <;> exact ⟨by kernel_rfl, of_decide_eq_true (by kernel_rfl)⟩) (by rw [params]; exact hA) (fun x hx => hlt x (by simpa using hx)), rfl, ?_, fun h => by cases h⟩
    · exact trodAll_mk1 (shut_bool und4 _)
    · exact (hb.frame _)
  apply fin
  clear fin
  obtain ⟨a0, rfl, l0, w0⟩ := arg_ints (e := 5) (k := .u8) (N := 32) (by kernel_rfl) (by kernel_rfl) (by kernel_rfl) (by kernel_rfl) (hval 0 23 v0 rfl rfl)
  obtain ⟨a1, rfl, w1⟩ := arg_int (by kernel_rfl : Try.prog.underlying 3 = some (.int .i64)) (hval 1 3 v1 rfl rfl)
  obtain ⟨a2, rfl, w2⟩ := arg_int (by kernel_rfl : Try.prog.underlying 3 = some (.int .i64)) (hval 2 3 v2 rfl rfl)
  obtain ⟨c5, rfl, l5, k5⟩ := agg_cells (ts := [3, 3]) (by kernel_rfl) (by kernel_rfl) (by kernel_rfl) (hval 5 26 v5 rfl rfl)
  obtain ⟨u5_0, u5_1, rfl⟩ : ∃ u5_0 u5_1, c5 = [u5_0, u5_1] := by
    match c5, l5 with
    | [x0, x1], _ => exact ⟨x0, x1, rfl⟩
  obtain ⟨a5_0, rfl, w5_0⟩ := cell_int (k := .i64) (by kernel_rfl) (k5 0 3 u5_0 rfl rfl)
  obtain ⟨a5_1, rfl, w5_1⟩ := cell_int (k := .i64) (by kernel_rfl) (k5 1 3 u5_1 rfl rfl)
  rcases arg_slice (enc := enc) (e := 5) (k := .u8) (by kernel_rfl) (by kernel_rfl) (by kernel_rfl) (hval 3 24 v3 rfl rfl) h3 with rfl | ⟨b3, t3, o3, n3, z3, f3, pr3, po3, x3, rfl, e3, s3, c3, w3, m3, hh3⟩
  · rcases arg_slice (enc := enc) (e := 5) (k := .u8) (by kernel_rfl) (by kernel_rfl) (by kernel_rfl) (hval 4 24 v4 rfl rfl) h4 with rfl | ⟨b4, t4, o4, n4, z4, f4, pr4, po4, x4, rfl, e4, s4, c4, w4, m4, hh4⟩
    · obtain ⟨fu, hfu⟩ := plain_3_4 a0 a1 a2 a5_0 a5_1 l0 w0 w1 w2 w5_0 w5_1
      exact law_done (fn := Try.f3) func (by kernel_rfl) (by kernel_rfl) (ok_portcullislaw25_VerityTears_4 (h := hfu)) trivial rfl
    · obtain ⟨fu, hfu⟩ := plain_3 a0 a1 a2 x4 a5_0 a5_1 l0 w0 w1 w2 w4 m4 w5_0 w5_1
      exact law_done (fn := Try.f3) func (by kernel_rfl) (by kernel_rfl) (ok_portcullislaw25_VerityTears_2 (i0 := 0) (X0l := e4) (X0S := s4) (X0C := c4) (h := hfu)) ⟨hh4, trivial⟩ rfl
  · rcases arg_slice (enc := enc) (e := 5) (k := .u8) (by kernel_rfl) (by kernel_rfl) (by kernel_rfl) (hval 4 24 v4 rfl rfl) h4 with rfl | ⟨b4, t4, o4, n4, z4, f4, pr4, po4, x4, rfl, e4, s4, c4, w4, m4, hh4⟩
    · obtain ⟨fu, hfu⟩ := plain_4 a0 a1 a2 x3 a5_0 a5_1 l0 w0 w1 w2 w3 m3 w5_0 w5_1
      exact law_done (fn := Try.f3) func (by kernel_rfl) (by kernel_rfl) (ok_portcullislaw25_VerityTears_3 (i0 := 0) (X0l := e3) (X0S := s3) (X0C := c3) (h := hfu)) ⟨hh3, trivial⟩ rfl
    · obtain ⟨fu, hfu⟩ := plain a0 a1 a2 x3 x4 a5_0 a5_1 l0 w0 w1 w2 w3 m3 w4 m4 w5_0 w5_1
      exact law_done (fn := Try.f3) func (by kernel_rfl) (by kernel_rfl) (ok_portcullislaw25_VerityTears (i0 := 0) (i1 := 1) (X0l := e3) (X0S := s3) (X0C := c3) (X1l := e4) (X1S := s4) (X1C := c4) (h := hfu)) ⟨hh3, hh4, trivial⟩ rfl
set_option maxRecDepth 100000 in
theorem lifted (os : Os) (started : os.Started) (H : Type) (enc : TypeId × Value → H) :
    ReturnsInHanded {} Try.checked os 3 .any (Rows.verityTearsSpec.pre6 enc Try.prog Try.f3 Rows.verityTearsRow.domain false) (Rows.verityTearsSpec.post enc Try.prog Try.f3 false true false false) := by
  refine returnsInHanded_of_change (C := Try.checked) own started (by kernel_rfl) func
    (ChangeSpec.witness6 (enc := enc) (C := Try.checked) false ⟨#[], #[.agg #[.int .u8 0, .int .u8 0, .int .u8 0, .int .u8 0, .int .u8 0, .int .u8 0, .int .u8 0, .int .u8 0, .int .u8 0, .int .u8 0, .int .u8 0, .int .u8 0, .int .u8 0, .int .u8 0, .int .u8 0, .int .u8 0, .int .u8 0, .int .u8 0, .int .u8 0, .int .u8 0, .int .u8 0, .int .u8 0, .int .u8 0, .int .u8 0, .int .u8 0, .int .u8 0, .int .u8 0, .int .u8 0, .int .u8 0, .int .u8 0, .int .u8 0, .int .u8 0], .int .i64 0, .int .i64 0, .slice none 0 0, .slice none 0 0, .agg #[.int .i64 0, .int .i64 0]], []⟩ 8 (by kernel_rfl) (by kernel_rfl) (by kernel_rfl) (by kernel_rfl)) ?_
  intro W base args ds gs before hval hW _ _
  exact contract H enc W base args ds gs before hval hW
theorem holds : Rows.VerityTearsSaid :=
  OpenClaim.holds_of_wide 3 Try.f3 rfl rfl rfl rfl rfl rfl rfl ⟨rfl, rfl, rfl, rfl, rfl⟩ rfl rfl rfl rfl rfl (by kernel_rfl) func (by kernel_rfl)
    (of_decide_eq_true (by kernel_rfl)) (by unfold Func.isWrapper; first | (rw [if_pos (by decide +kernel)]; kernel_rfl) | (rw [if_neg (by decide +kernel)]; exact ⟨rfl, rfl⟩))
    (fun os started H enc _ => lifted os started H enc)
end Go.Proofs.Ythgbffnahanfhaa.verityTears

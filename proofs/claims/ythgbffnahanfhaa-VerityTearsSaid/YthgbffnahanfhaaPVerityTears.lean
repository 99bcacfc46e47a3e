/- The plain law of VerityTears. -/
import Derived.Test.YthgbffnahanfhaaPl14
set_option linter.unusedVariables false
set_option linter.unusedSimpArgs false
namespace Go.Proofs.Ythgbffnahanfhaa.verityTears
open Go Go.EV Go.Proofs.Ythgbffnahanfhaa
theorem plain (key : List Int) (ver i : Int) (old pl : List Int) (c0 c1 : Int) (hk : key.length = 32) (wk : InK .u8 key) (wv : IntKind.has .i64 ver) (wi : IntKind.has .i64 i) (wo : InK .u8 old) (mo : old.length ≤ maxLen) (wp : InK .u8 pl) (mp : pl.length ≤ maxLen) (w0 : IntKind.has .i64 c0) (w1 : IntKind.has .i64 c1) :
    ∃ fu, fn_portcullislaw25_VerityTears fu key ver i old pl c0 c1 = some true := ⟨400, law_some (by omega) hk⟩
theorem plain_3 (key : List Int) (ver i : Int) (pl : List Int) (c0 c1 : Int) (hk : key.length = 32) (wk : InK .u8 key) (wv : IntKind.has .i64 ver) (wi : IntKind.has .i64 i) (wp : InK .u8 pl) (mp : pl.length ≤ maxLen) (w0 : IntKind.has .i64 c0) (w1 : IntKind.has .i64 c1) :
    ∃ fu, fn_portcullislaw25_VerityTears_2 fu key ver i pl c0 c1 = some true := by
  refine ⟨400, ?_⟩
  unfold fn_portcullislaw25_VerityTears_2
  refine e_gd hk ?_
  refine e_bind _ (alive_some (by omega)) ?_
  refine e_bind () ?_ rfl
  refine e_notT ?_
  refine e_cFF ?_
  by_cases h1 : ver < 0
  · exact e_decT h1 rfl
  refine e_decF h1 ?_
  refine e_cFF ?_
  by_cases h2 : ver > 1073741824
  · exact e_decT h2 rfl
  refine e_decF h2 ?_
  refine e_cFF ?_
  by_cases h3 : i < 0
  · exact e_decT h3 rfl
  refine e_decF h3 ?_
  refine e_cFF ?_
  by_cases h4 : i > 31
  · exact e_decT h4 rfl
  exact e_decF h4 rfl
theorem plain_4 (key : List Int) (ver i : Int) (old : List Int) (c0 c1 : Int) (hk : key.length = 32) (wk : InK .u8 key) (wv : IntKind.has .i64 ver) (wi : IntKind.has .i64 i) (wo : InK .u8 old) (mo : old.length ≤ maxLen) (w0 : IntKind.has .i64 c0) (w1 : IntKind.has .i64 c1) :
    ∃ fu, fn_portcullislaw25_VerityTears_3 fu key ver i old c0 c1 = some true := by
  refine ⟨400, ?_⟩
  unfold fn_portcullislaw25_VerityTears_3
  refine e_gd hk ?_
  refine e_bind _ (alive_some (by omega)) ?_
  refine e_bind () ?_ rfl
  refine e_notT ?_
  refine e_cFF ?_
  by_cases h1 : ver < 0
  · exact e_decT h1 rfl
  refine e_decF h1 ?_
  refine e_cFF ?_
  by_cases h2 : ver > 1073741824
  · exact e_decT h2 rfl
  refine e_decF h2 ?_
  refine e_cFF ?_
  by_cases h3 : i < 0
  · exact e_decT h3 rfl
  refine e_decF h3 ?_
  refine e_cFF ?_
  by_cases h4 : i > 31
  · exact e_decT h4 rfl
  refine e_decF h4 ?_
  refine e_cFF ?_
  by_cases h5 : old.length = 64
  · exact e_neF (by omega) rfl
  · exact e_neT (by omega) rfl
theorem plain_3_4 (key : List Int) (ver i : Int) (c0 c1 : Int) (hk : key.length = 32) (wk : InK .u8 key) (wv : IntKind.has .i64 ver) (wi : IntKind.has .i64 i) (w0 : IntKind.has .i64 c0) (w1 : IntKind.has .i64 c1) :
    ∃ fu, fn_portcullislaw25_VerityTears_4 fu key ver i c0 c1 = some true := by
  refine ⟨400, ?_⟩
  unfold fn_portcullislaw25_VerityTears_4
  refine e_gd hk ?_
  refine e_bind _ (alive_some (by omega)) ?_
  refine e_bind () ?_ rfl
  refine e_notT ?_
  refine e_cFF ?_
  by_cases h1 : ver < 0
  · exact e_decT h1 rfl
  refine e_decF h1 ?_
  refine e_cFF ?_
  by_cases h2 : ver > 1073741824
  · exact e_decT h2 rfl
  refine e_decF h2 ?_
  refine e_cFF ?_
  by_cases h3 : i < 0
  · exact e_decT h3 rfl
  refine e_decF h3 ?_
  refine e_cFF ?_
  by_cases h4 : i > 31
  · exact e_decT h4 rfl
  exact e_decF h4 rfl
end Go.Proofs.Ythgbffnahanfhaa.verityTears

/- What the area's writes leave. -/
import Derived.Test.YthgbffnahanfhaaPl13
set_option linter.unusedVariables false
set_option linter.unusedSimpArgs false
namespace Go.Proofs.Ythgbffnahanfhaa
open Go Go.EV
set_option maxRecDepth 40000
theorem fil_rep {w : List Int} (hw : w.length = 256) : fil (fun _ => 255) 256 w = List.replicate 256 255 := by
  refine list_eq (by rw [fil_length] <;> simp [hw]) fun i hi => ?_
  rw [fil_length (by omega)] at hi
  rw [fil_getD _ (by omega), if_pos (by omega), getD_rep (by omega)]
theorem take_getD {l : List Int} {n i : Nat} (h : i < n) : (l.take n).getD i 0 = l.getD i 0 := by
  rw [List.getD_eq_getElem?_getD, List.getElem?_take, if_pos h, List.getD_eq_getElem?_getD]
theorem take_fil {c : List Int} (hc : c.length = 80) : (fil (fun i => c.getD i 0) 80 (List.replicate 256 255)).take 80 = c := by
  have hl : (fil (fun i => c.getD i 0) 80 (List.replicate 256 255)).length = 256 := by rw [fil_length] <;> simp
  refine list_eq (by rw [List.length_take, hl, hc]; omega) fun i hi => ?_
  rw [List.length_take, hl] at hi
  rw [take_getD (by omega), fil_getD _ (by simp), if_pos (by omega)]
theorem write_ok {fu : Nat} {w c : List Int} {f2 f4 f5 a1 i : Int} {s : Nat} (hf : 300 < fu) (hw : w.length = 256) (hc : c.length = 80) (wc : ∀ i, 0 ≤ c.getD i 0 ∧ c.getD i 0 ≤ 255) (hs : s < 128) (ha : a1 + i = (s : Int)) (hi : 0 ≤ i ∧ i < 32) :
    ∃ x y, fn_verity_Area_Write fu (fl (s * 256) w) (-1) f2 false f4 f5 a1 i c = some (fl (s * 256) (fil (fun i => c.getD i 0) 80 (List.replicate 256 255)), -1, f2, false, x, y, 0) := by
  have hl := fl_length (a := s * 256) (w := w) (by omega)
  obtain ⟨x, he⟩ := erase_some (f1 := -1) (f2 := f2) (f4 := f4) (f5 := f5) (n := 256) hf hw hs rfl (by omega) (op_live (by omega) (by omega))
  rw [fil_rep hw] at he
  obtain ⟨y, hp⟩ := program_some (f1 := -1) (f2 := f2) (f4 := x) (f5 := f5) (b := c) (n := 80) hf hc wc hs rfl (by omega) (op_live (by omega) (by omega))
  refine ⟨x, y, ?_⟩
  unfold fn_verity_Area_Write
  refine e_bind false ?_ ?_
  · refine e_bind _ (verity_is hi) ?_
    refine e_notT ?_
    refine e_cFF ?_
    refine e_neF (by omega) ?_
    rfl
  refine e_cF ?_
  refine e_bind (fl (s * 256) (fil (fun i => c.getD i 0) 80 (List.replicate 256 255)), -1, f2, false, x, y, false) ?_ rfl
  refine e_bind () rfl ?_
  refine e_cFF ?_
  refine e_wi (by omega) ?_
  rw [ha]
  refine e_bind _ he ?_
  refine e_gd (by rw [hl, fl_length]; simp; omega) ?_
  refine e_notT ?_
  refine e_cFF ?_
  refine e_wi (by omega) ?_
  refine e_nmv (w := ((s * 256 : Nat) : Int)) (by rw [w_i64 (by omega)]; omega) ?_
  refine e_bind _ hp ?_
  refine e_gd (by rw [hl, fl_length]; rw [fil_length] <;> simp; omega) ?_
  refine e_notT ?_
  rfl
theorem write_dies0 {fu : Nat} {w c : List Int} {f2 f4 f5 a1 i : Int} {s : Nat} (hf : 300 < fu) (hw : w.length = 256) (hc : c.length = 80) (hs : s < 128) (ha : a1 + i = (s : Int)) (hi : 0 ≤ i ∧ i < 32) :
    ∃ n x, n ≤ 256 ∧ (∀ k : Nat, k < 80 → ((k : Int) < f2 ↔ k < n)) ∧ fn_verity_Area_Write fu (fl (s * 256) w) 0 f2 false f4 f5 a1 i c = some (fl (s * 256) (fil (fun _ => 255) n w), -1, 0, true, x, f5, 8) := by
  have hl := fl_length (a := s * 256) (w := w) (by omega)
  obtain ⟨n, hn, hn2, hn3⟩ : ∃ n : Nat, (if (256 : Int) < (if f2 > 0 then f2 else 0) then 256 else (if f2 > 0 then f2 else 0)) = (n : Int) ∧ n ≤ 256 ∧ ∀ k : Nat, k < 80 → ((k : Int) < f2 ↔ k < n) := by
    refine ⟨(if (256 : Int) < (if f2 > 0 then f2 else 0) then 256 else (if f2 > 0 then f2 else 0)).toNat, ?_, ?_, ?_⟩
    · split <;> split <;> omega
    · split <;> split <;> omega
    · intro k hk
      split <;> split <;> omega
  obtain ⟨x, he⟩ := erase_some (f1 := 0) (f2 := f2) (f4 := f4) (f5 := f5) (n := n) hf hw hs hn hn2 op_dies
  refine ⟨n, x, hn2, hn3, ?_⟩
  unfold fn_verity_Area_Write
  refine e_bind false ?_ ?_
  · refine e_bind _ (verity_is hi) ?_
    refine e_notT ?_
    refine e_cFF ?_
    refine e_neF (by omega) ?_
    rfl
  refine e_cF ?_
  refine e_bind (fl (s * 256) (fil (fun _ => 255) n w), -1, 0, true, x, f5, true) ?_ rfl
  refine e_bind () rfl ?_
  refine e_cFF ?_
  refine e_wi (by omega) ?_
  rw [ha]
  refine e_bind _ he ?_
  refine e_gd (by rw [hl, fl_length]; rw [fil_length] <;> omega) ?_
  refine e_notF ?_
  rfl
theorem write_dies1 {fu : Nat} {w c : List Int} {f2 f4 f5 a1 i : Int} {s : Nat} (hf : 300 < fu) (hw : w.length = 256) (hc : c.length = 80) (wc : ∀ i, 0 ≤ c.getD i 0 ∧ c.getD i 0 ≤ 255) (hs : s < 128) (ha : a1 + i = (s : Int)) (hi : 0 ≤ i ∧ i < 32) :
    ∃ n x y, n ≤ 80 ∧ (∀ k : Nat, k < 80 → ((k : Int) < f2 ↔ k < n)) ∧ fn_verity_Area_Write fu (fl (s * 256) w) 1 f2 false f4 f5 a1 i c = some (fl (s * 256) (fil (fun i => c.getD i 0) n (List.replicate 256 255)), -1, 0, true, x, y, 8) := by
  have hl := fl_length (a := s * 256) (w := w) (by omega)
  obtain ⟨n, hn, hn2, hn3⟩ : ∃ n : Nat, (if (80 : Int) < (if f2 > 0 then f2 else 0) then 80 else (if f2 > 0 then f2 else 0)) = (n : Int) ∧ n ≤ 80 ∧ ∀ k : Nat, k < 80 → ((k : Int) < f2 ↔ k < n) := by
    refine ⟨(if (80 : Int) < (if f2 > 0 then f2 else 0) then 80 else (if f2 > 0 then f2 else 0)).toNat, ?_, ?_, ?_⟩
    · split <;> split <;> omega
    · split <;> split <;> omega
    · intro k hk
      split <;> split <;> omega
  obtain ⟨x, he⟩ := erase_some (f1 := 1) (f2 := f2) (f4 := f4) (f5 := f5) (n := 256) hf hw hs rfl (by omega) (op_live (by omega) (by omega))
  rw [fil_rep hw] at he
  obtain ⟨y, hp⟩ := program_some (f1 := 0) (f2 := f2) (f4 := x) (f5 := f5) (b := c) (n := n) hf hc wc hs hn hn2 op_dies
  refine ⟨n, x, y, hn2, hn3, ?_⟩
  unfold fn_verity_Area_Write
  refine e_bind false ?_ ?_
  · refine e_bind _ (verity_is hi) ?_
    refine e_notT ?_
    refine e_cFF ?_
    refine e_neF (by omega) ?_
    rfl
  refine e_cF ?_
  refine e_bind (fl (s * 256) (fil (fun i => c.getD i 0) n (List.replicate 256 255)), -1, 0, true, x, y, true) ?_ rfl
  refine e_bind () rfl ?_
  refine e_cFF ?_
  refine e_wi (by omega) ?_
  rw [ha]
  refine e_bind _ he ?_
  refine e_gd (by rw [hl, fl_length]; simp; omega) ?_
  refine e_notT ?_
  refine e_cFF ?_
  refine e_wi (by omega) ?_
  refine e_nmv (w := ((s * 256 : Nat) : Int)) (by rw [w_i64 (by omega)]; omega) ?_
  refine e_bind _ hp ?_
  refine e_gd (by rw [hl, fl_length]; rw [fil_length] <;> simp <;> omega) ?_
  refine e_notF ?_
  rfl
theorem alive_some {fu : Nat} (hf : 300 < fu) : fn_portcullislaw25_alive fu = some true := by
  have hz : ∀ i, 0 ≤ (List.replicate 80 (0 : Int)).getD i 0 ∧ (List.replicate 80 (0 : Int)).getD i 0 ≤ 255 := rep_byte 80
  obtain ⟨x, y, hw⟩ := write_ok (fu := fu) (w := List.replicate 256 255) (c := List.replicate 80 0) (f2 := 0) (f4 := 0) (f5 := 0) (a1 := 64) (i := 0) (s := 64) hf (by simp) (by simp) hz (by omega) (by omega) (by omega)
  have r1 := raw_some (fu := fu) (w := List.replicate 256 255) (f1 := -1) (f2 := 0) (f4 := 0) (f5 := 0) (a1 := 64) (i := 0) (a := 64 * 256) (by simp) (by omega) (by omega) (by omega)
  have r2 := raw_some (fu := fu) (w := fil (fun i => (List.replicate 80 (0 : Int)).getD i 0) 80 (List.replicate 256 255)) (f1 := -1) (f2 := 0) (f4 := x) (f5 := y) (a1 := 64) (i := 0) (a := 64 * 256) (by rw [fil_length] <;> simp) (by omega) (by omega) (by omega)
  rw [take_fil (by simp)] at r2
  have hlen := fl_length (a := 64 * 256) (w := fil (fun i => (List.replicate 80 (0 : Int)).getD i 0) 80 (List.replicate 256 255)) (by rw [fil_length] <;> simp)
  rw [fl_all (by omega)] at hw r1
  unfold fn_portcullislaw25_alive
  refine e_bind _ (flash_new (by omega)) ?_
  refine e_bind _ (verity_new List.length_replicate (by omega)) ?_
  refine e_bind () rfl ?_
  refine e_bind _ r1 ?_
  refine e_bind _ hw ?_
  refine e_gd (by rw [hlen, List.length_replicate]) ?_
  refine e_bind _ r2 ?_
  refine e_bind true ?_ rfl
  refine e_eqT (by simp) ?_
  refine e_cTT ?_
  refine e_gd (by simp) ?_
  refine e_ldn 255 (by simp) (by rw [take_getD (by omega), getD_rep (by omega)]) ?_
  refine e_eqT rfl ?_
  refine e_cTT ?_
  refine e_bind () rfl ?_
  refine e_eqT rfl ?_
  refine e_cTT ?_
  refine e_eqT (by simp) ?_
  refine e_cTT ?_
  refine e_gd (by simp) ?_
  refine e_ldn 0 (by simp) (getD_rep (by omega)) ?_
  refine e_eqT rfl ?_
  rfl
def wf (c0 c1 : Int) (old new : List Int) (k : Nat) : Int := if c0 = 0 then (if (k : Int) < c1 then 255 else old.getD k 0) else (if (k : Int) < c1 then new.getD k 0 else 255)
theorem want_some {fu : Nat} {c0 c1 : Int} {old new : List Int} (hf : 300 < fu) (ho : old.length = 80) (hn : new.length = 80) (hc : c0 = 0 ∨ c0 = 1) :
    itr (fn_portcullislaw25_VerityTears_l1 fu c0 c1 old new) fu (List.replicate 80 0, 0) = some (fil (wf c0 c1 old new) 80 (List.replicate 80 0)) := by
  refine itr_run' (fun k => (fil (wf c0 c1 old new) k (List.replicate 80 0), (k : Int))) 80 _ (by rw [fil_zero]; rfl) (by omega) ?_ ?_
  · intro k hk rec
    have hfl := fil_length (f := wf c0 c1 old new) (k := k) (l := List.replicate 80 0) (by simp; omega)
    rw [List.length_replicate] at hfl
    unfold fn_portcullislaw25_VerityTears_l1
    refine e_decT (by omega) ?_
    refine e_cT ?_
    refine e_bind (fil (wf c0 c1 old new) (k + 1) (List.replicate 80 0)) ?_ ?_
    · refine e_gd (by omega) ?_
      refine e_ldz k rfl (old.getD k 0) (by omega) rfl ?_
      refine e_gd (by omega) ?_
      refine e_updz k rfl _ (by omega) rfl ?_
      rcases hc with rfl | rfl
      · by_cases h : (k : Int) < c1
        · refine e_bind (fil (wf 0 c1 old new) (k + 1) (List.replicate 80 0)) ?_ ?_
          · refine e_bind true ?_ ?_
            · refine e_eqT rfl ?_
              refine e_cTT ?_
              refine e_decT h ?_
              rfl
            refine e_cT ?_
            refine e_gd (by omega) ?_
            refine e_updz k rfl (fil (wf 0 c1 old new) (k + 1) (List.replicate 80 0)) (by rw [List.length_set]; omega) ?_ rfl
            rw [List.set_set]
            exact fil_set (by simp; omega) (by unfold wf; rw [if_pos rfl, if_pos h])
          refine e_bind false ?_ ?_
          · refine e_eqF (by omega) ?_
            rfl
          rfl
        · refine e_bind (fil (wf 0 c1 old new) (k + 1) (List.replicate 80 0)) ?_ ?_
          · refine e_bind false ?_ ?_
            · refine e_eqT rfl ?_
              refine e_cTT ?_
              refine e_decF h ?_
              refine e_cFF ?_
              refine e_eqF (by omega) ?_
              rfl
            refine e_cF ?_
            congr 1
            exact fil_set (by simp; omega) (by unfold wf; rw [if_pos rfl, if_neg h])
          refine e_bind false ?_ ?_
          · refine e_eqF (by omega) ?_
            rfl
          rfl
      · refine e_bind (((fil (wf 1 c1 old new) k (List.replicate 80 0)).set k (old.getD k 0)).set k 255) ?_ ?_
        · refine e_bind true ?_ ?_
          · refine e_eqF (by omega) ?_
            refine e_cFT ?_
            refine e_eqT rfl ?_
            rfl
          refine e_cT ?_
          refine e_gd (by omega) ?_
          refine e_updz k rfl _ (by rw [List.length_set]; omega) rfl ?_
          rfl
        by_cases h : (k : Int) < c1
        · refine e_bind true ?_ ?_
          · refine e_eqT rfl ?_
            refine e_cTT ?_
            refine e_decT h ?_
            rfl
          refine e_cT ?_
          refine e_gd (by omega) ?_
          refine e_ldz k rfl (new.getD k 0) (by omega) rfl ?_
          refine e_gd (by omega) ?_
          refine e_updz k rfl (fil (wf 1 c1 old new) (k + 1) (List.replicate 80 0)) (by rw [List.length_set, List.length_set]; omega) ?_ rfl
          rw [List.set_set, List.set_set]
          exact fil_set (by simp; omega) (by unfold wf; rw [if_neg (by omega), if_pos h])
        · refine e_bind false ?_ ?_
          · refine e_eqT rfl ?_
            refine e_cTT ?_
            refine e_decF h ?_
            rfl
          refine e_cF ?_
          congr 1
          rw [List.set_set]
          exact fil_set (by simp; omega) (by unfold wf; rw [if_neg (by omega), if_neg h])
    refine e_wi (by omega) ?_
    rfl
  · intro rec
    unfold fn_portcullislaw25_VerityTears_l1
    refine e_decF (by omega) ?_
    refine e_cF ?_
    rfl
theorem law_some {fu : Nat} {key old pl : List Int} {ver i c0 c1 : Int} (hf : 300 < fu) (hk : key.length = 32) : fn_portcullislaw25_VerityTears fu key ver i old pl c0 c1 = some true := by
  unfold fn_portcullislaw25_VerityTears
  refine e_gd hk ?_
  refine e_bind _ (alive_some hf) ?_
  by_cases hs : ver < 0 ∨ ver > 1073741824 ∨ i < 0 ∨ i > 31 ∨ old.length ≠ 64 ∨ pl.length ≠ 64 ∨ c0 < 0 ∨ c0 > 1
  · refine e_bind true ?_ rfl
    refine e_notT ?_
    refine e_cFF ?_
    by_cases h1 : ver < 0
    · exact e_decT h1 rfl
    refine e_decF h1 ?_
    refine e_cFF ?_
    by_cases h2 : ver > 1073741824
    · exact e_decT h2 rfl
    refine e_decF h2 ?_
    refine e_cFF ?_
    by_cases h3 : i < 0
    · exact e_decT h3 rfl
    refine e_decF h3 ?_
    refine e_cFF ?_
    by_cases h4 : i > 31
    · exact e_decT h4 rfl
    refine e_decF h4 ?_
    refine e_cFF ?_
    by_cases h5 : old.length ≠ 64
    · exact e_neT (by omega) rfl
    refine e_neF (by omega) ?_
    refine e_cFF ?_
    by_cases h6 : pl.length ≠ 64
    · exact e_neT (by omega) rfl
    refine e_neF (by omega) ?_
    refine e_cFF ?_
    by_cases h7 : c0 < 0
    · exact e_decT h7 rfl
    refine e_decF h7 ?_
    refine e_cFF ?_
    exact e_decT (by omega) rfl
  · have h1 : ¬ ver < 0 := by omega
    have h2 : ¬ ver > 1073741824 := by omega
    have h3 : ¬ i < 0 := by omega
    have h4 : ¬ i > 31 := by omega
    have h5 : old.length = 64 := by omega
    have h6 : pl.length = 64 := by omega
    have h7 : ¬ c0 < 0 := by omega
    have h8 : ¬ c0 > 1 := by omega
    refine e_bind false ?_ ?_
    · refine e_notT ?_
      refine e_cFF ?_
      refine e_decF h1 ?_
      refine e_cFF ?_
      refine e_decF h2 ?_
      refine e_cFF ?_
      refine e_decF h3 ?_
      refine e_cFF ?_
      refine e_decF h4 ?_
      refine e_cFF ?_
      refine e_neF (by omega) ?_
      refine e_cFF ?_
      refine e_neF (by omega) ?_
      refine e_cFF ?_
      refine e_decF h7 ?_
      refine e_cFF ?_
      refine e_decF h8 ?_
      rfl
    refine e_cF ?_
    obtain ⟨co, so, lo, bo, _⟩ := seal_open (fu := fu) (key := key) (p := old) (v := ver) (i := i) (by omega) hk (by omega) (by omega) h5
    obtain ⟨cn, sn, ln, bn, oo, hoo⟩ := seal_open (fu := fu) (key := key) (p := pl) (v := ver) (i := i) (by omega) hk (by omega) (by omega) h6
    obtain ⟨s, hs1⟩ : ∃ s : Nat, 64 + 1 * 32 + i = (s : Int) := Int.eq_ofNat_of_zero_le (by omega)
    have hs2 : s < 128 := by omega
    have ha : (64 + 1 * 32 + i) * 256 = ((s * 256 : Nat) : Int) := by rw [hs1]; omega
    obtain ⟨x1, y1, w1⟩ := write_ok (fu := fu) (w := List.replicate 256 255) (c := co) (f2 := 0) (f4 := 0) (f5 := 0) (a1 := 64 + 1 * 32) (i := i) hf (by simp) lo bo hs2 hs1 (by omega)
    rw [fl_all (by omega)] at w1
    have lw1 : (fil (fun i => co.getD i 0) 80 (List.replicate 256 255)).length = 256 := by rw [fil_length] <;> simp
    have gw1 : ∀ k, k < 80 → (fil (fun i => co.getD i 0) 80 (List.replicate 256 255)).getD k 0 = co.getD k 0 := fun k hk => by rw [fil_getD _ (by simp), if_pos hk]
    have fl1 := fl_length (a := s * 256) (w := fil (fun i => co.getD i 0) 80 (List.replicate 256 255)) (by omega)
    generalize fil (fun i => co.getD i 0) 80 (List.replicate 256 255) = W1 at *
    obtain ⟨W2, x2, y2, w2, lw2, gw2⟩ : ∃ W2 x2 y2, fn_verity_Area_Write fu (fl (s * 256) W1) c0 c1 false x1 y1 (64 + 1 * 32) i cn = some (fl (s * 256) W2, -1, 0, true, x2, y2, 8) ∧ W2.length = 256 ∧ ∀ k, k < 80 → W2.getD k 0 = wf c0 c1 co cn k := by
      have hc : c0 = 0 ∨ c0 = 1 := by omega
      rcases hc with rfl | rfl
      · obtain ⟨n, x, hn, hk, hw⟩ := write_dies0 (fu := fu) (w := W1) (c := cn) (f2 := c1) (f4 := x1) (f5 := y1) (a1 := 64 + 1 * 32) (i := i) hf lw1 ln hs2 hs1 (by omega)
        refine ⟨_, _, _, hw, by rw [fil_length] <;> omega, fun k hk80 => ?_⟩
        rw [fil_getD _ (by omega), gw1 k hk80]
        unfold wf
        rw [if_pos rfl]
        by_cases h : (k : Int) < c1
        · rw [if_pos h, if_pos ((hk k hk80).1 h)]
        · rw [if_neg h, if_neg fun h' => h ((hk k hk80).2 h')]
      · obtain ⟨n, x, y, hn, hk, hw⟩ := write_dies1 (fu := fu) (w := W1) (c := cn) (f2 := c1) (f4 := x1) (f5 := y1) (a1 := 64 + 1 * 32) (i := i) hf lw1 ln bn hs2 hs1 (by omega)
        refine ⟨_, _, _, hw, by rw [fil_length] <;> simp <;> omega, fun k hk80 => ?_⟩
        have er : (List.replicate 256 (255 : Int)).getD k 0 = 255 := getD_rep (by omega)
        rw [fil_getD _ (by simp; omega), er]
        unfold wf
        rw [if_neg (show ¬ ((1 : Int) = 0) by omega)]
        by_cases h : (k : Int) < c1
        · rw [if_pos h, if_pos ((hk k hk80).1 h)]
        · rw [if_neg h, if_neg fun h' => h ((hk k hk80).2 h')]
    have fl2 := fl_length (a := s * 256) (w := W2) (by omega)
    have r2 := raw_some (fu := fu) (w := W2) (f1 := -1) (f2 := 0) (f4 := x2) (f5 := y2) (a1 := 64 + 1 * 32) (i := i) lw2 ha (by omega) (by omega)
    obtain ⟨x3, y3, w3⟩ := write_ok (fu := fu) (w := W2) (c := cn) (f2 := 0) (f4 := x2) (f5 := y2) (a1 := 64 + 1 * 32) (i := i) hf lw2 ln bn hs2 hs1 (by omega)
    have lw3 : (fil (fun i => cn.getD i 0) 80 (List.replicate 256 255)).length = 256 := by rw [fil_length] <;> simp
    have r3 := raw_some (fu := fu) (w := fil (fun i => cn.getD i 0) 80 (List.replicate 256 255)) (f1 := -1) (f2 := 0) (f4 := x3) (f5 := y3) (a1 := 64 + 1 * 32) (i := i) lw3 ha (by omega) (by omega)
    rw [take_fil ln] at r3
    have fl3 := fl_length (a := s * 256) (w := fil (fun i => cn.getD i 0) 80 (List.replicate 256 255)) (by omega)
    generalize fil (fun i => cn.getD i 0) 80 (List.replicate 256 255) = W3 at *
    have hwant := want_some (fu := fu) (c0 := c0) (c1 := c1) hf lo ln (by omega)
    have lwant : (fil (wf c0 c1 co cn) 80 (List.replicate 80 0)).length = 80 := by rw [fil_length] <;> simp
    have ewant : W2.take 80 = fil (wf c0 c1 co cn) 80 (List.replicate 80 0) := by
      refine list_eq (by rw [List.length_take, lwant, lw2]; rfl) fun k hk => ?_
      rw [List.length_take, lw2] at hk
      rw [take_getD (by omega), gw2 k (by omega), fil_getD _ (by simp), if_pos (by omega)]
    rw [← ewant] at hwant lwant
    generalize W2.take 80 = R2 at *
    refine e_bind _ so ?_
    refine e_bind _ sn ?_
    refine e_bind _ (flash_new (by omega)) ?_
    refine e_bind _ (verity_new List.length_replicate (by omega)) ?_
    refine e_bind () rfl ?_
    refine e_bind _ w1 ?_
    refine e_gd (by rw [fl1, List.length_replicate]) ?_
    refine e_bind c0 ?_ ?_
    · unfold fn_flash_Flash_Plan
      refine e_ite (by omega) ?_
      rfl
    refine e_bind _ w2 ?_
    refine e_gd (by rw [fl2, List.length_replicate]) ?_
    refine e_bind () rfl ?_
    refine e_bind _ r2 ?_
    refine e_bind _ hwant ?_
    refine e_bind _ w3 ?_
    refine e_gd (by rw [fl3, List.length_replicate]) ?_
    refine e_bind _ r3 ?_
    refine e_bind true ?_ rfl
    refine e_bind () rfl ?_
    refine e_eqT rfl ?_
    refine e_cTT ?_
    refine e_bind () rfl ?_
    refine e_eqT rfl ?_
    refine e_cTT ?_
    refine e_nm ?_
    refine e_nm ?_
    refine e_nmv (w := true) (by rw [lwant]; exact beq_self_eq_true _) ?_
    refine e_cTT ?_
    refine e_bind () rfl ?_
    refine e_eqT rfl ?_
    refine e_cTT ?_
    refine e_nm ?_
    refine e_nm ?_
    refine e_nmv (w := true) (beq_self_eq_true _) ?_
    refine e_cTT ?_
    refine e_bind true ?_ rfl
    unfold fn_verity_Area_Has
    refine e_gd hk ?_
    refine e_bind _ r3 ?_
    refine e_bind _ hoo ?_
    rfl
end Go.Proofs.Ythgbffnahanfhaa

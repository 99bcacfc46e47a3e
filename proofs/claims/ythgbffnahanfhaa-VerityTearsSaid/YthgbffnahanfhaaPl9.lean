/- The one-time sum of the program, whole, and the tag of both. -/
import Derived.Test.YthgbffnahanfhaaPl8
set_option linter.unusedVariables false
set_option linter.unusedSimpArgs false
namespace Go.Proofs.Ythgbffnahanfhaa
open Go Go.EV
set_option maxRecDepth 20000
def nb (n : List Int) (i : Nat) : Int := n.getD (i / 8) 0 / 2 ^ (8 * (i % 8)) % 256
theorem limb_num {fu : Nat} {n : List Int} (hf : 40 < fu) (hn : Lm n) : fn_limb_N_Num fu n = some (fil (nb n) 32 (List.replicate 32 0)) := by
  have nl := hn.n
  unfold fn_limb_N_Num
  refine e_gd nl ?_
  refine e_bind _ (itr_run' (fun k => (fil (nb n) k (List.replicate 32 0), (k : Int))) 32 (fil (nb n) 32 (List.replicate 32 0)) (by rw [fil_zero]; rfl) (by omega) ?_ ?_) ?_
  · intro k hk rec
    unfold fn_limb_N_Num_l1
    refine e_decT (by omega) ?_
    refine e_cT ?_
    refine e_nmv (w := ((k / 8 : Nat) : Int)) (by rw [Int.tdiv_eq_ediv_of_nonneg (by omega), w_i64 (by omega)]; omega) ?_
    refine e_gd (by omega) ?_
    refine e_ldz (k / 8) rfl (n.getD (k / 8) 0) (by omega) rfl ?_
    refine e_nmv (w := ((k % 8 : Nat) : Int)) (by rw [Int.tmod_eq_emod_of_nonneg (by omega)]; omega) ?_
    refine e_nmv (w := ((8 * (k % 8) : Nat) : Int)) (by rw [w_i64 (by omega)]; omega) ?_
    refine e_gd (by omega) ?_
    refine e_nmv (ishr_n (by show _ ≤ 64; omega)) ?_
    refine e_nmv (w_u8' _) ?_
    refine e_gd (by omega) ?_
    refine e_updz k rfl _ (by rw [fil_length] <;> simp <;> omega) (fil_set (by simp; omega) rfl) ?_
    refine e_wi (by omega) ?_
    rfl
  · intro rec
    unfold fn_limb_N_Num_l1
    refine e_decF (by omega) ?_
    refine e_cF ?_
    rfl
  · rfl
theorem nb_val {n : List Int} (hn : Lm n) : S 16 (fun i => nb n i * 256 ^ i) = V4 n % 340282366920938463463374607431768211456 := by
  have b0 := hn.b 0
  have b1 := hn.b 1
  have b2 := hn.b 2
  have b3 := hn.b 3
  rw [V4_e]
  have s : S 16 (fun i => nb n i * 256 ^ i) = n.getD 0 0 + n.getD 1 0 * 18446744073709551616 := by
    simp only [S, Nat.zero_add, Nat.reduceAdd, nb, Nat.reduceDiv, Nat.reduceMod, Nat.reduceMul]
    omega
  omega
theorem app_l {l m : List Int} {i : Nat} (h : i < l.length) : (l ++ m).getD i 0 = l.getD i 0 := by
  rw [List.getD_eq_getElem?_getD, List.getElem?_append_left h, List.getD_eq_getElem?_getD]
theorem app_r {l m : List Int} {i : Nat} : (l ++ m).getD (l.length + i) 0 = m.getD i 0 := by
  rw [List.getD_eq_getElem?_getD, List.getElem?_append_right (by omega), List.getD_eq_getElem?_getD, show l.length + i - l.length = i by omega]
theorem poly_sum {fu n : Nat} {key b0 b1 b2 b3 b4 b5 : List Int} (hf : 40 < fu) (hk : key.length = 32) (wk : InK .u8 key) (hl : (b0 ++ (b1 ++ (b2 ++ (b3 ++ (b4 ++ b5))))).length = 16 * n) (hf2 : 16 * n < fu) (hn : 16 * n < 1000000)
    (w0 : InK .u8 b0) (w1 : InK .u8 b1) (w2 : InK .u8 b2) (w3 : InK .u8 b3) (w4 : InK .u8 b4) (w5 : InK .u8 b5) :
    ∃ o, (o.length = 16 ∧ (∀ i, 0 ≤ o.getD i 0 ∧ o.getD i 0 ≤ 255) ∧ S 16 (fun i => o.getD i 0 * 256 ^ i) = (PP key (b0 ++ (b1 ++ (b2 ++ (b3 ++ (b4 ++ b5))))) n % 1361129467683753853853498429727072845819 + S 16 (fun i => key.getD (16 + i) 0 * 256 ^ i)) % 340282366920938463463374607431768211456) ∧
    fn_poly_Sum fu key b0 b1 b2 b3 b4 b5 = some o := by
  obtain ⟨r, hr, Lr, vr, hR⟩ := clamped hf hk wk
  obtain ⟨M, hM⟩ : ∃ M, b0 ++ (b1 ++ (b2 ++ (b3 ++ (b4 ++ b5)))) = M := ⟨_, rfl⟩
  have z4 : ∀ i, (List.replicate 4 (0 : Int)).getD i 0 = 0 := fun j => by
    by_cases h : j < 4
    · exact getD_rep h
    · exact getD_ge (by simp; omega)
  have z16 : ∀ i, (List.replicate 16 (0 : Int)).getD i 0 = 0 := fun j => by
    by_cases h : j < 16
    · exact getD_rep h
    · exact getD_ge (by simp; omega)
  have p0 : PI key M 0 (List.replicate 4 0) (List.replicate 16 0) 0 := ⟨⟨by simp, fun i => by rw [z4]; omega⟩, by rw [V4_e, z4, z4, z4, z4]; omega, ⟨0, by rw [V4_e, z4, z4, z4, z4]; rfl⟩, by simp, fun i => by rw [z16]; omega, fun i hi => by omega, rfl⟩
  simp only [List.length_append] at hl
  obtain ⟨⟨h1, u1, x1⟩, p1, l1⟩ := poly_piece (b := b0) hf (by omega) (by omega) Lr vr hR p0 (fun i hi => by rw [← hM, Nat.zero_add, app_l hi]) w0
  obtain ⟨⟨h2, u2, x2⟩, p2, l2⟩ := poly_piece (b := b1) hf (by omega) (by omega) Lr vr hR p1 (fun i hi => by rw [← hM, Nat.zero_add, app_r, app_l hi]) w1
  obtain ⟨⟨h3, u3, x3⟩, p3, l3⟩ := poly_piece (b := b2) hf (by omega) (by omega) Lr vr hR p2 (fun i hi => by rw [← hM, Nat.zero_add, Nat.add_assoc, app_r, app_r, app_l hi]) w2
  obtain ⟨⟨h4, u4, x4⟩, p4, l4⟩ := poly_piece (b := b3) hf (by omega) (by omega) Lr vr hR p3 (fun i hi => by rw [← hM, Nat.zero_add, Nat.add_assoc, Nat.add_assoc, app_r, app_r, app_r, app_l hi]) w3
  obtain ⟨⟨h5, u5, x5⟩, p5, l5⟩ := poly_piece (b := b4) hf (by omega) (by omega) Lr vr hR p4 (fun i hi => by rw [← hM, Nat.zero_add, Nat.add_assoc, Nat.add_assoc, Nat.add_assoc, app_r, app_r, app_r, app_r, app_l hi]) w4
  obtain ⟨⟨h6, u6, x6⟩, p6, l6⟩ := poly_piece (b := b5) hf (by omega) (by omega) Lr vr hR p5 (fun i hi => by rw [← hM, Nat.zero_add, Nat.add_assoc, Nat.add_assoc, Nat.add_assoc, Nat.add_assoc, app_r, app_r, app_r, app_r, app_r]) w5
  have em : 0 + b0.length + b1.length + b2.length + b3.length + b4.length + b5.length = 16 * n := by omega
  rw [em] at p6
  dsimp only at p1 p2 p3 p4 p5 p6 l1 l2 l3 l4 l5 l6
  obtain ⟨q, hq⟩ := p6.q
  have ex := p6.x
  rw [show 16 * n / 16 = n by omega] at hq
  rw [show 16 * n % 16 = 0 by omega] at ex
  have hv := p6.v
  have hV6 := V4_e h6
  have a0 := p6.L.b 0
  have a1 := p6.L.b 1
  have a2 := p6.L.b 2
  have a3 := p6.L.b 3
  obtain ⟨f1, g1, L1, v1⟩ := poly_fold (fu := fu) hf p6.L
  obtain ⟨f2, g2, L2, v2⟩ := poly_fold (fu := fu) hf L1
  obtain ⟨f3, g3, L3, v3⟩ := poly_fold (fu := fu) hf L2
  have Lp : Lm [18446744073709551611, 18446744073709551615, 3, 0] := Lm4 (by omega) (by omega) (by omega) (by omega)
  obtain ⟨d, c, hd, Ld, vd, hc⟩ := limb_sub (fu := fu) hf L3 Lp
  rw [V4_4] at vd
  have vd0 := V4_e d
  have d0 := Ld.b 0
  have d1 := Ld.b 1
  have d2 := Ld.b 2
  have d3 := Ld.b 3
  have v3b : 0 ≤ V4 f3 ∧ V4 f3 < 1361129467683753853853498429727072845824 := by omega
  have v3q : ∃ q', V4 f3 = PP key M n - 1361129467683753853853498429727072845819 * q' := ⟨q + V4 h6 / 1361129467683753853853498429727072845824 + V4 f1 / 1361129467683753853853498429727072845824 + V4 f2 / 1361129467683753853853498429727072845824, by omega⟩
  obtain ⟨W, hW, hWv, LW⟩ : ∃ W, (nm (c == 0) fun t258 => cond t258 (some d) (some f3)) = some W ∧ V4 W = PP key M n % 1361129467683753853853498429727072845819 ∧ Lm W := by
    obtain ⟨q', hq'⟩ := v3q
    have e : PP key M n = V4 f3 + 1361129467683753853853498429727072845819 * q' := by omega
    rw [e, Int.add_mul_emod_self_left]
    by_cases h : c = 0
    · refine ⟨d, e_eqT h (e_cT rfl), by omega, Ld⟩
    · refine ⟨f3, e_eqF h (e_cF rfl), by omega, L3⟩
  have hof := limb_of (fu := fu) hf hk (byte_of wk)
  have Lof := of_Lm (byte_of wk)
  have o2 : ((List.range 4).map fun j => S 8 fun i => key.getD (8 * j + i) 0 * 256 ^ i).getD 2 0 = S 8 fun i => key.getD (16 + i) 0 * 256 ^ i := by rw [getD_map (by omega)]
  have o3 : ((List.range 4).map fun j => S 8 fun i => key.getD (8 * j + i) 0 * 256 ^ i).getD 3 0 = S 8 fun i => key.getD (24 + i) 0 * 256 ^ i := by rw [getD_map (by omega)]
  have bk2 := S_lt (n := 8) (f := fun i => key.getD (16 + i) 0) fun i _ => byte_of wk _
  have bk3 := S_lt (n := 8) (f := fun i => key.getD (24 + i) 0) fun i _ => byte_of wk _
  have sk : S 16 (fun i => key.getD (16 + i) 0 * 256 ^ i) = (S 8 fun i => key.getD (16 + i) 0 * 256 ^ i) + (S 8 fun i => key.getD (24 + i) 0 * 256 ^ i) * 18446744073709551616 := by
    simp only [S, Nat.zero_add, Nat.reduceAdd, Nat.add_zero]; omega
  generalize ((List.range 4).map fun j => S 8 fun i => key.getD (8 * j + i) 0 * 256 ^ i) = K at *
  generalize (S 8 fun i => key.getD (16 + i) 0 * 256 ^ i) = k2 at *
  generalize (S 8 fun i => key.getD (24 + i) 0 * 256 ^ i) = k3 at *
  obtain ⟨s, c2, hs, Ls, vs, hc2⟩ := limb_add (fu := fu) (m := [k2, k3, 0, 0]) hf LW (Lm4 (by omega) (by omega) (by omega) (by omega))
  rw [V4_4] at vs
  have nbb : ∀ i, 0 ≤ nb s i ∧ nb s i ≤ 255 := fun i => by unfold nb; omega
  have hg : ∀ i, i < 16 → (sub (fil (nb s) 32 (List.replicate 32 0)) 0 16).getD i 0 = nb s i := fun i hi => by
    unfold sub; rw [List.drop_zero, List.getD_eq_getElem?_getD, List.getElem?_take, if_pos hi, ← List.getD_eq_getElem?_getD, fil_getD _ (by simp), if_pos (by omega)]
  have hlen : (sub (fil (nb s) 32 (List.replicate 32 0)) 0 16).length = 16 := by rw [sub_length, fil_length] <;> simp
  refine ⟨sub (fil (nb s) 32 (List.replicate 32 0)) 0 16, ⟨hlen, fun i => ?_, ?_⟩, ?_⟩
  · by_cases hi : i < 16
    · rw [hg i hi]; exact nbb i
    · rw [getD_ge (by omega)]; omega
  · rw [hM, S_congr (n := 16) fun i hi => by rw [hg i hi], nb_val Ls, sk, ← hWv]
    omega
  · unfold fn_poly_Sum
    refine e_gd hk ?_
    refine e_bind _ hr ?_
    refine e_gd Lr.n ?_
    refine e_bind _ l1 ?_
    refine e_bind (h2, u2, x2) l2 ?_
    refine e_bind (h3, u3, x3) l3 ?_
    refine e_bind (h4, u4, x4) l4 ?_
    refine e_bind (h5, u5, x5) l5 ?_
    refine e_bind (h6, u6, x6) l6 ?_
    refine e_bind (h6, x6) (e_decF (by omega) (e_cF rfl)) ?_
    refine e_bind _ g1 ?_
    refine e_gd L1.n ?_
    refine e_bind _ g2 ?_
    refine e_gd L2.n ?_
    refine e_bind _ g3 ?_
    refine e_gd L3.n ?_
    refine e_bind W ?_ ?_
    · refine e_bind (d, c) ?_ hW
      refine e_bind () rfl ?_
      refine e_gd rfl ?_
      refine e_bind _ hd ?_
      refine e_gd Ld.n ?_
      rfl
    refine e_bind _ hof ?_
    refine e_gd Lof.n ?_
    refine e_ldn k2 (by have := Lof.n; omega) o2 ?_
    refine e_ldn k3 (by have := Lof.n; omega) o3 ?_
    refine e_bind _ hs ?_
    refine e_gd Ls.n ?_
    refine e_bind _ (limb_num hf Ls) ?_
    refine e_gd (by rw [fil_length] <;> simp) ?_
    rfl
/-- both sums agree -/
theorem poly_same {fu n : Nat} {key b0 b1 b2 b3 b4 b5 : List Int} (hf : 40 < fu) (hk : key.length = 32) (wk : InK .u8 key) (hl : (b0 ++ (b1 ++ (b2 ++ (b3 ++ (b4 ++ b5))))).length = 16 * n) (hf2 : 16 * n < fu) (hn : 16 * n < 1000000)
    (w0 : InK .u8 b0) (w1 : InK .u8 b1) (w2 : InK .u8 b2) (w3 : InK .u8 b3) (w4 : InK .u8 b4) (w5 : InK .u8 b5) :
    ∃ o, o.length = 16 ∧ (∀ i, 0 ≤ o.getD i 0 ∧ o.getD i 0 ≤ 255) ∧ fn_poly_Sum fu key b0 b1 b2 b3 b4 b5 = some o ∧ fn_portcullisref1_Poly fu key (b0 ++ (b1 ++ (b2 ++ (b3 ++ (b4 ++ b5))))) = some o := by
  obtain ⟨o, ⟨h1, h2, h3⟩, h4⟩ := poly_sum hf hk wk hl hf2 hn w0 w1 w2 w3 w4 w5
  obtain ⟨o', ⟨h1', h2', h3'⟩, h4'⟩ := ref_poly (fu := fu) (n := n) (key := key) (b := b0 ++ (b1 ++ (b2 ++ (b3 ++ (b4 ++ b5))))) (by omega) (by omega) (by omega) hk wk hl (by
    intro x hx
    simp only [List.mem_append] at hx
    rcases hx with h | h | h | h | h | h
    · exact w0 x h
    · exact w1 x h
    · exact w2 x h
    · exact w3 x h
    · exact w4 x h
    · exact w5 x h)
  have e : o = o' := list_eq (by rw [h1, h1']) fun i hi => S_inj (n := 16) (fun i _ => h2 i) (fun i _ => h2' i) (by rw [h3, h3']) i (by omega)
  subst e
  exact ⟨o, h1, h2, h4, h4'⟩
end Go.Proofs.Ythgbffnahanfhaa

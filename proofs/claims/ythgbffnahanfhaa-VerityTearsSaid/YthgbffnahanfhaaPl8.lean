/- The one-time sum of the program. -/
import Derived.Test.YthgbffnahanfhaaPl7
set_option linter.unusedVariables false
set_option linter.unusedSimpArgs false
namespace Go.Proofs.Ythgbffnahanfhaa
open Go Go.EV
set_option maxRecDepth 20000
theorem clamped {fu : Nat} {key : List Int} (hf : 40 < fu) (hk : key.length = 32) (wk : InK .u8 key) :
    ∃ r, fn_poly_clamped fu key = some r ∧ Lm r ∧ V4 r = RV key ∧ 0 ≤ RV key ∧ RV key < 21267647932558653966460912964485513216 := by
  have hof := limb_of (fu := fu) hf hk (byte_of wk)
  have e0 : ((List.range 4).map fun j => S 8 fun i => key.getD (8 * j + i) 0 * 256 ^ i).getD 0 0 = S 8 fun i => key.getD i 0 * 256 ^ i := by
    rw [getD_map (by omega)]; exact S_congr fun i _ => by rw [show 8 * 0 + i = i by omega]
  have e1 : ((List.range 4).map fun j => S 8 fun i => key.getD (8 * j + i) 0 * 256 ^ i).getD 1 0 = S 8 fun i => key.getD (8 + i) 0 * 256 ^ i := by
    rw [getD_map (by omega)]
  have b0 := S_lt (n := 8) (f := fun i => key.getD i 0) fun i _ => byte_of wk _
  have b1 := S_lt (n := 8) (f := fun i => key.getD (8 + i) 0) fun i _ => byte_of wk _
  have hlen : ((List.range 4).map fun j => S 8 fun i => key.getD (8 * j + i) 0 * 256 ^ i).length = 4 := by simp
  generalize ((List.range 4).map fun j => S 8 fun i => key.getD (8 * j + i) 0 * 256 ^ i) = L at *
  refine ⟨[iand .u64 (S 8 fun i => key.getD i 0 * 256 ^ i) 1152921487695413247, iand .u64 (S 8 fun i => key.getD (8 + i) 0 * 256 ^ i) 1152921487695413244, 0, 0], ?_, ?_, ?_⟩
  · unfold fn_poly_clamped
    refine e_gd hk ?_
    refine e_bind _ hof ?_
    refine e_gd hlen ?_
    refine e_ldn _ (by omega) e0 ?_
    refine e_nm ?_
    refine e_ldn _ (by omega) e1 ?_
    refine e_nm ?_
    rfl
  · rw [iand_m1 (by omega), iand_m2 (by omega)]
    exact Lm4 (by omega) (by omega) (by omega) (by omega)
  · rw [V4_4, iand_m1 (by omega), iand_m2 (by omega)]
    have k0 := byte_of wk 0
    have k1 := byte_of wk 1
    have k2 := byte_of wk 2
    have k3 := byte_of wk 3
    have k4 := byte_of wk 4
    have k5 := byte_of wk 5
    have k6 := byte_of wk 6
    have k7 := byte_of wk 7
    have k8 := byte_of wk 8
    have k9 := byte_of wk 9
    have k10 := byte_of wk 10
    have k11 := byte_of wk 11
    have k12 := byte_of wk 12
    have k13 := byte_of wk 13
    have k14 := byte_of wk 14
    have k15 := byte_of wk 15
    have c0 : cl key 0 = key.getD 0 0  := rfl
    have c1 : cl key 1 = key.getD 1 0  := rfl
    have c2 : cl key 2 = key.getD 2 0  := rfl
    have c3 : cl key 3 = key.getD 3 0 % 16 := rfl
    have c4 : cl key 4 = key.getD 4 0 / 4 * 4 := rfl
    have c5 : cl key 5 = key.getD 5 0  := rfl
    have c6 : cl key 6 = key.getD 6 0  := rfl
    have c7 : cl key 7 = key.getD 7 0 % 16 := rfl
    have c8 : cl key 8 = key.getD 8 0 / 4 * 4 := rfl
    have c9 : cl key 9 = key.getD 9 0  := rfl
    have c10 : cl key 10 = key.getD 10 0  := rfl
    have c11 : cl key 11 = key.getD 11 0 % 16 := rfl
    have c12 : cl key 12 = key.getD 12 0 / 4 * 4 := rfl
    have c13 : cl key 13 = key.getD 13 0  := rfl
    have c14 : cl key 14 = key.getD 14 0  := rfl
    have c15 : cl key 15 = key.getD 15 0 % 16 := rfl
    have s0 : (S 8 fun i => key.getD i 0 * 256 ^ i) % 268435456 + (S 8 fun i => key.getD i 0 * 256 ^ i) / 17179869184 % 67108864 * 17179869184 = S 8 fun i => cl key i * 256 ^ i := by
      simp only [S, Nat.zero_add, Nat.reduceAdd]
      omega
    have s1 : (S 8 fun i => key.getD (8 + i) 0 * 256 ^ i) / 4 % 67108864 * 4 + (S 8 fun i => key.getD (8 + i) 0 * 256 ^ i) / 17179869184 % 67108864 * 17179869184 = S 8 fun i => cl key (8 + i) * 256 ^ i := by
      simp only [S, Nat.zero_add, Nat.reduceAdd, Nat.add_zero]
      omega
    have sR : RV key = (S 8 fun i => cl key i * 256 ^ i) + (S 8 fun i => cl key (8 + i) * 256 ^ i) * 18446744073709551616 := by
      unfold RV; simp only [S, Nat.zero_add, Nat.reduceAdd, Nat.add_zero]; omega
    rw [sR, ← s0, ← s1]
    generalize (S 8 fun i => key.getD i 0 * 256 ^ i) = A at *
    generalize (S 8 fun i => key.getD (8 + i) 0 * 256 ^ i) = B at *
    clear c0 c1 c2 c3 c4 c5 c6 c7 c8 c9 c10 c11 c12 c13 c14 c15 s0 s1 sR hof e0 e1 k0 k1 k2 k3 k4 k5 k6 k7 k8 k9 k10 k11 k12 k13 k14 k15
    omega
/-- one block taken in -/
theorem poly_turn {fu : Nat} {h r buf : List Int} {R : Int} (hf : 40 < fu) (Lh : Lm h) (Lr : Lm r) (hr : V4 r = R) (hR : 0 ≤ R ∧ R < 21267647932558653966460912964485513216) (hv : V4 h < 2722258935367507707706996859454145691648) (hb : buf.length = 16) (wb : ∀ i, 0 ≤ buf.getD i 0 ∧ buf.getD i 0 ≤ 255) :
    ∃ o, fn_poly_state_turn fu h r buf 16 = some o ∧ Lm o ∧ V4 o < 2722258935367507707706996859454145691648 ∧ ∃ q, V4 o = (V4 h + (S 16 (fun i => buf.getD i 0 * 256 ^ i) + 340282366920938463463374607431768211456)) * R - 1361129467683753853853498429727072845819 * q := by
  have hg : ∀ i, ((buf ++ List.replicate 16 (0 : Int)).set 16 1).getD i 0 = if i < 16 then buf.getD i 0 else if i = 16 then 1 else 0 := fun i => by
    rw [getD_set (by simp [hb])]
    split
    · rename_i e; subst e; rfl
    · rw [List.getD_eq_getElem?_getD, List.getElem?_append]
      split
      · rename_i e2; rw [if_pos (by omega), List.getD_eq_getElem?_getD]
      · rw [if_neg (by omega), if_neg (by omega), List.getElem?_replicate]; split <;> rfl
  have hb2 : ∀ i, 0 ≤ ((buf ++ List.replicate 16 (0 : Int)).set 16 1).getD i 0 ∧ ((buf ++ List.replicate 16 (0 : Int)).set 16 1).getD i 0 ≤ 255 := fun i => by
    rw [hg]; split
    · exact wb i
    · split <;> omega
  have hl : ((buf ++ List.replicate 16 (0 : Int)).set 16 1).length = 32 := by simp [hb]
  have hV : S 32 (fun i => ((buf ++ List.replicate 16 (0 : Int)).set 16 1).getD i 0 * 256 ^ i) = S 16 (fun i => buf.getD i 0 * 256 ^ i) + 340282366920938463463374607431768211456 := by
    have e : S 32 (fun i => ((buf ++ List.replicate 16 (0 : Int)).set 16 1).getD i 0 * 256 ^ i) = S 16 (fun i => ((buf ++ List.replicate 16 (0 : Int)).set 16 1).getD i 0 * 256 ^ i) + S 16 (fun i => ((buf ++ List.replicate 16 (0 : Int)).set 16 1).getD (16 + i) 0 * 256 ^ (16 + i)) := by
      simp only [S, Nat.zero_add, Nat.reduceAdd, Nat.add_zero]; omega
    rw [e, S_congr (n := 16) (g := fun i => buf.getD i 0 * 256 ^ i) fun i hi => by rw [hg, if_pos hi]]
    congr 1
    rw [S_congr (n := 16) (g := fun i => if i = 0 then 340282366920938463463374607431768211456 else 0) fun i hi => by
      rw [hg, if_neg (by omega)]
      by_cases h0 : i = 0
      · subst h0; rw [if_pos rfl, if_pos rfl]; rfl
      · rw [if_neg (by omega), if_neg h0, Int.zero_mul]]
    rfl
  have hof := limb_of (fu := fu) hf hl hb2
  have Lof := of_Lm hb2
  have vof := of_val ((buf ++ List.replicate 16 (0 : Int)).set 16 1)
  rw [hV] at vof
  generalize ((List.range 4).map fun j => S 8 fun i => ((buf ++ List.replicate 16 (0 : Int)).set 16 1).getD (8 * j + i) 0 * 256 ^ i) = K at *
  have bb := S16_bound (f := fun i => buf.getD i 0) fun i _ => wb i
  obtain ⟨s, c, hs, Ls, vs, hc⟩ := limb_add (fu := fu) hf Lh Lof
  have vs0 := V4_e s
  have s0 := Ls.b 0
  have s1 := Ls.b 1
  have s2 := Ls.b 2
  have s3 := Ls.b 3
  have hc0 : c = 0 := by omega
  have vs' : V4 s = V4 h + (S 16 (fun i => buf.getD i 0 * 256 ^ i) + 340282366920938463463374607431768211456) := by omega
  obtain ⟨p, ⟨pl, pb, pv⟩, hp⟩ := limb_mul (fu := fu) hf Ls Lr
  have hsb : 0 ≤ V4 s ∧ V4 s ≤ 3402823669209384634633746074317682114560 := by omega
  have pbd := prod_bound (a := V4 s) (b := R) hsb (B := 21267647932558653966460912964485513216) (by omega)
  rw [hr] at pv
  rw [vs'] at pbd pv
  have ht : ∀ i, i < 4 → (sub p 0 4).getD i 0 = p.getD i 0 := fun i hi => by
    unfold sub; rw [List.drop_zero, List.getD_eq_getElem?_getD, List.getElem?_take, if_pos hi, List.getD_eq_getElem?_getD]
  have Lt : Lm (sub p 0 4) := ⟨by rw [sub_length]; omega, fun i => by
    by_cases hi : i < 4
    · rw [ht i hi]; exact pb i
    · rw [getD_ge (by rw [sub_length]; omega)]; omega⟩
  have vt : V4 (sub p 0 4) = (V4 h + (S 16 (fun i => buf.getD i 0 * 256 ^ i) + 340282366920938463463374607431768211456)) * R := by
    rw [V8_e] at pv
    rw [V4_e, ht 0 (by omega), ht 1 (by omega), ht 2 (by omega), ht 3 (by omega)]
    have p0 := pb 0
    have p1 := pb 1
    have p2 := pb 2
    have p3 := pb 3
    have p4 := pb 4
    have p5 := pb 5
    have p6 := pb 6
    have p7 := pb 7
    omega
  obtain ⟨o, ho, Lo, vo⟩ := poly_fold (fu := fu) hf Lt
  rw [vt] at vo
  refine ⟨o, ?_, Lo, ?_, ⟨(V4 h + (S 16 (fun i => buf.getD i 0 * 256 ^ i) + 340282366920938463463374607431768211456)) * R / 1361129467683753853853498429727072845824, ?_⟩⟩
  · unfold fn_poly_state_turn
    refine e_gd Lh.n ?_
    refine e_gd Lr.n ?_
    refine e_gd hb ?_
    refine e_gd (by omega) ?_
    have es : sub buf 0 (min (16 : Int).toNat 32) = buf := sub_all (by simp [hb])
    rw [es]
    refine e_put (by simp [hb]) ?_
    have ep : List.take 0 (List.replicate 32 (0 : Int)) ++ buf ++ List.drop (0 + buf.length) (List.replicate 32 0) = buf ++ List.replicate 16 0 := by rw [hb]; simp
    rw [ep]
    refine e_gd (by omega) ?_
    refine e_updz 16 rfl _ (by simp [hb]) rfl ?_
    refine e_bind s ?_ ?_
    · refine e_bind _ hof ?_
      refine e_gd Lof.n ?_
      refine e_bind _ hs ?_
      refine e_gd Ls.n ?_
      rfl
    refine e_bind p ?_ ?_
    · refine e_bind _ hp ?_
      refine e_gd pl ?_
      rfl
    refine e_nm ?_
    refine e_bind _ ho ?_
    refine e_gd Lo.n ?_
    rfl
  · omega
  · omega
/-- how far the sum has come after m bytes -/
structure PI (key M : List Int) (m : Nat) (h buf : List Int) (x : Int) : Prop where
  L : Lm h
  v : V4 h < 2722258935367507707706996859454145691648
  q : ∃ q, V4 h = PP key M (m / 16) - 1361129467683753853853498429727072845819 * q
  n : buf.length = 16
  w : ∀ i, 0 ≤ buf.getD i 0 ∧ buf.getD i 0 ≤ 255
  b : ∀ i, i < m % 16 → buf.getD i 0 = M.getD (16 * (m / 16) + i) 0
  x : x = ((m % 16 : Nat) : Int)
theorem poly_take {fu : Nat} {key M h r buf : List Int} {x y : Int} {m : Nat} (hf : 40 < fu) (Lr : Lm r) (hr : V4 r = RV key) (hR : 0 ≤ RV key ∧ RV key < 21267647932558653966460912964485513216) (p : PI key M m h buf x) (hy : y = M.getD m 0) (wy : 0 ≤ y ∧ y ≤ 255) :
    ∃ h' b' x', fn_poly_state_take fu h r buf x y = some (h', b', x') ∧ PI key M (m + 1) h' b' x' := by
  have hx := p.x
  subst hx
  have hn := p.n
  have hm : m % 16 < 16 := by omega
  have em : 16 * (m / 16) + m % 16 = m := by omega
  have wb : ∀ i, 0 ≤ (buf.set (m % 16) y).getD i 0 ∧ (buf.set (m % 16) y).getD i 0 ≤ 255 := fun i => by
    rw [getD_set (by omega)]; split
    · exact wy
    · exact p.w i
  have bb : ∀ i, i < m % 16 + 1 → (buf.set (m % 16) y).getD i 0 = M.getD (16 * (m / 16) + i) 0 := fun i hi => by
    rw [getD_set (by omega)]; split
    · rename_i e; subst e; rw [em, hy]
    · exact p.b i (by omega)
  by_cases hl : m % 16 = 15
  · obtain ⟨o, ho, Lo, vo, q2, hq2⟩ := poly_turn (fu := fu) (buf := buf.set (m % 16) y) hf p.L Lr hr hR p.v (by rw [List.length_set, hn]) wb
    obtain ⟨q, hq⟩ := p.q
    have ed : (m + 1) / 16 = m / 16 + 1 := by omega
    have emo : (m + 1) % 16 = 0 := by omega
    refine ⟨o, buf.set (m % 16) y, 0, ?_, ⟨Lo, vo, ⟨q * RV key + q2, ?_⟩, by rw [List.length_set, hn], wb, fun i hi => by omega, by rw [emo]; rfl⟩⟩
    · unfold fn_poly_state_take
      refine e_gd p.L.n ?_
      refine e_gd Lr.n ?_
      refine e_gd hn ?_
      refine e_gd (by omega) ?_
      refine e_updz (m % 16) rfl _ (by omega) rfl ?_
      refine e_nmv (w := 16) (by rw [w_i64 (by omega)]; omega) ?_
      refine e_eqT rfl ?_
      refine e_cT ?_
      refine e_bind _ ho ?_
      refine e_gd Lo.n ?_
      rfl
    · rw [ed, hq2, hq]
      have eb : S 16 (fun i => (buf.set (m % 16) y).getD i 0 * 256 ^ i) + 340282366920938463463374607431768211456 = blk M (m / 16) := by
        unfold blk; rw [S_congr fun i hi => by rw [bb i (by omega)]]
      rw [eb]
      show _ = (PP key M (m / 16) + blk M (m / 16)) * RV key - _
      generalize PP key M (m / 16) = P
      generalize blk M (m / 16) = B
      generalize RV key = R
      rw [Int.mul_add, ← Int.mul_assoc _ q R, Int.add_mul, Int.sub_mul, Int.add_mul]; omega
  · have ed : (m + 1) / 16 = m / 16 := by omega
    have emo : (m + 1) % 16 = m % 16 + 1 := by omega
    refine ⟨h, buf.set (m % 16) y, ((m % 16 + 1 : Nat) : Int), ?_, ⟨p.L, p.v, by rw [ed]; exact p.q, by rw [List.length_set, hn], wb, fun i hi => by rw [ed]; exact bb i (by omega), by rw [emo]⟩⟩
    unfold fn_poly_state_take
    refine e_gd p.L.n ?_
    refine e_gd Lr.n ?_
    refine e_gd hn ?_
    refine e_gd (by omega) ?_
    refine e_updz (m % 16) rfl _ (by omega) rfl ?_
    refine e_wi (by omega) ?_
    refine e_eqF (by omega) ?_
    refine e_cF ?_
    rfl
theorem poly_piece {fu : Nat} {key M r b h buf : List Int} {x : Int} {o : Nat} (hf : 40 < fu) (hf2 : b.length < fu) (hfb : b.length < 1000000) (Lr : Lm r) (hr : V4 r = RV key) (hR : 0 ≤ RV key ∧ RV key < 21267647932558653966460912964485513216) (p : PI key M o h buf x) (hb : ∀ i, i < b.length → b.getD i 0 = M.getD (o + i) 0) (wb : InK .u8 b) :
    ∃ z, PI key M (o + b.length) z.1 z.2.1 z.2.2 ∧ itr (fn_poly_Sum_l1 fu b r) fu (h, buf, x, 0) = some z := by
  refine itr_inv b.length (fun k z => PI key M (o + k) z.1 z.2.1 z.2.2.1 ∧ z.2.2.2 = (k : Int)) _ ?_ ?_ hf2 ⟨p, rfl⟩
  · rintro k ⟨h, buf, x, j⟩ hk ⟨p, hj⟩
    dsimp only at p hj
    subst hj
    obtain ⟨h', b', x', ht, p'⟩ := poly_take (fu := fu) hf Lr hr hR p (hb k hk) (byte_of wb k)
    refine ⟨(h', b', x', ((k + 1 : Nat) : Int)), ⟨p', rfl⟩, fun rec => ?_⟩
    unfold fn_poly_Sum_l1
    refine e_decT (by omega) ?_
    refine e_cT ?_
    refine e_gd (by omega) ?_
    refine e_ldz k rfl (b.getD k 0) hk rfl ?_
    refine e_bind _ ht ?_
    refine e_gd p'.L.n ?_
    refine e_gd p'.n ?_
    refine e_wi (by omega) ?_
    rfl
  · rintro ⟨h, buf, x, j⟩ ⟨p, hj⟩
    dsimp only at p hj
    subst hj
    refine ⟨(h, buf, x), p, fun rec => ?_⟩
    unfold fn_poly_Sum_l1
    refine e_decF (by omega) ?_
    refine e_cF ?_
    rfl
end Go.Proofs.Ythgbffnahanfhaa

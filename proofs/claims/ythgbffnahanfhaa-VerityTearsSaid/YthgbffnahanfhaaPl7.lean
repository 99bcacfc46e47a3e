/- Limbs: the product, the fold, one block of the one-time sum. -/
import Derived.Test.YthgbffnahanfhaaPl6
set_option linter.unusedVariables false
set_option linter.unusedSimpArgs false
namespace Go.Proofs.Ythgbffnahanfhaa
open Go Go.EV
set_option maxRecDepth 20000
structure MI (i : Nat) (n m l l' : List Int) (c : Int) (k : Nat) : Prop where
  pn : l'.length = 8
  pb : ∀ j, 0 ≤ l'.getD j 0 ∧ l'.getD j 0 < 18446744073709551616
  pu : ∀ j, (j < i ∨ i + k ≤ j) → l'.getD j 0 = l.getD j 0
  pc : 0 ≤ c ∧ c < 18446744073709551616
  ps : S k (fun t => l'.getD (i + t) 0 * 18446744073709551616 ^ t) + c * 18446744073709551616 ^ k = S k (fun t => (l.getD (i + t) 0 + n.getD i 0 * m.getD t 0) * 18446744073709551616 ^ t)
theorem mul_l1 {fu : Nat} {n m l : List Int} {i : Nat} (hf : 40 < fu) (hn : Lm n) (hm : Lm m) (hl : l.length = 8) (hb : ∀ j, 0 ≤ l.getD j 0 ∧ l.getD j 0 < 18446744073709551616) (hi : i < 4) :
    ∃ o, MI i n m l o.1 o.2 4 ∧ itr (fn_limb_N_Mul_l1 fu n m (i : Int)) fu (l, 0, 0) = some o := by
  refine itr_inv 4 (fun k z => MI i n m l z.1 z.2.1 k ∧ z.2.2 = (k : Int)) _ ?_ ?_ (by omega) ⟨⟨hl, hb, fun _ _ => rfl, by dsimp only; omega, rfl⟩, rfl⟩
  · rintro k ⟨l', c, x⟩ hk ⟨h, hx⟩
    dsimp only at h hx
    subst hx
    have b1 := hn.b i
    have b2 := hm.b k
    have b3 := hb (i + k)
    have b4 := h.pc
    have n1 := hn.n
    have n2 := hm.n
    have n3 := h.pn
    have u := h.pu (i + k) (Or.inr (Nat.le_refl _))
    have pb := prod_bound (a := n.getD i 0) (b := m.getD k 0) (A := 18446744073709551615) (B := 18446744073709551615) (by omega) (by omega)
    obtain ⟨p, hp⟩ : ∃ p, n.getD i 0 * m.getD k 0 = p := ⟨_, rfl⟩
    have hm64 := mul64 (fu := fu) b1 b2
    rw [hp] at pb hm64
    obtain ⟨y, hy⟩ : ∃ y, l.getD (i + k) 0 = y := ⟨_, rfl⟩
    rw [hy] at b3 u
    refine ⟨(l'.set (i + k) (((p % 18446744073709551616 + y + 0) % 18446744073709551616 + c + 0) % 18446744073709551616), (p / 18446744073709551616 + (p % 18446744073709551616 + y + 0) / 18446744073709551616) + ((p % 18446744073709551616 + y + 0) % 18446744073709551616 + c + 0) / 18446744073709551616, ((k + 1 : Nat) : Int)), ⟨⟨?_, ?_, ?_, ?_, ?_⟩, rfl⟩, ?_⟩
    · dsimp only; rw [List.length_set, n3]
    · intro j; dsimp only
      by_cases e : i + k = j
      · subst e; rw [lset_eq (by omega)]; omega
      · rw [lset_ne e]; exact h.pb j
    · intro j hj; dsimp only
      rw [lset_ne (by omega)]; exact h.pu j (by omega)
    · dsimp only; omega
    · dsimp only
      show S k _ + (l'.set (i + k) _).getD (i + k) 0 * _ + _ * _ = S k _ + (l.getD (i + k) 0 + n.getD i 0 * m.getD k 0) * _
      rw [lset_eq (by omega), S_congr (g := fun t => l'.getD (i + t) 0 * 18446744073709551616 ^ t) fun t ht => by rw [lset_ne (by omega)], hp, hy, ← h.ps, Int.pow_succ]
      generalize (18446744073709551616 : Int) ^ k = B
      have e1 : ∀ w v : Int, w * B + v * (B * 18446744073709551616) = (w + 18446744073709551616 * v) * B := fun w v => by
        rw [Int.add_mul, Int.mul_comm 18446744073709551616 v, Int.mul_assoc, Int.mul_comm 18446744073709551616 B]
      rw [Int.add_assoc (S k _), e1, Int.add_assoc (S k _), ← Int.add_mul c]
      congr 2; omega
    · intro rec
      unfold fn_limb_N_Mul_l1
      refine e_decT (by omega) ?_
      refine e_cT ?_
      refine e_gd (by omega) ?_
      refine e_ldz i rfl (n.getD i 0) (by omega) rfl ?_
      refine e_gd (by omega) ?_
      refine e_ldz k rfl (m.getD k 0) (by omega) rfl ?_
      refine e_bind _ hm64 ?_
      refine e_wi (by omega) ?_
      refine e_gd (by omega) ?_
      refine e_ldz (i + k) (by omega) y (by omega) u ?_
      refine e_gd (by omega) ?_
      refine e_nm ?_
      refine e_nm ?_
      refine e_wu (by omega) ?_
      refine e_gd (by omega) ?_
      refine e_nm ?_
      refine e_nm ?_
      refine e_wi (by omega) ?_
      refine e_wu (by omega) ?_
      refine e_gd (by omega) ?_
      refine e_updz (i + k) (by omega) _ (by omega) rfl ?_
      refine e_wi (by omega) ?_
      rfl
  · rintro ⟨l', c, x⟩ ⟨h, hx⟩
    dsimp only at h hx
    subst hx
    refine ⟨(l', c), h, fun rec => ?_⟩
    unfold fn_limb_N_Mul_l1
    refine e_decF (by omega) ?_
    refine e_cF ?_
    rfl
def V8 (l : List Int) : Int := S 8 fun i => l.getD i 0 * 18446744073709551616 ^ i
theorem V8_e (l : List Int) : V8 l = l.getD 0 0 + l.getD 1 0 * 18446744073709551616 ^ 1 + l.getD 2 0 * 18446744073709551616 ^ 2 + l.getD 3 0 * 18446744073709551616 ^ 3 + l.getD 4 0 * 18446744073709551616 ^ 4 + l.getD 5 0 * 18446744073709551616 ^ 5 + l.getD 6 0 * 18446744073709551616 ^ 6 + l.getD 7 0 * 18446744073709551616 ^ 7 := by
  unfold V8; simp only [S, Nat.zero_add, Nat.reduceAdd]; omega
theorem limb_mul {fu : Nat} {n m : List Int} (hf : 40 < fu) (hn : Lm n) (hm : Lm m) :
    ∃ l, (l.length = 8 ∧ (∀ j, 0 ≤ l.getD j 0 ∧ l.getD j 0 < 18446744073709551616) ∧ V8 l = V4 n * V4 m) ∧ fn_limb_N_Mul fu n m = some l := by
  have key : ∃ l, (l.length = 8 ∧ (∀ j, 0 ≤ l.getD j 0 ∧ l.getD j 0 < 18446744073709551616) ∧ V8 l = V4 n * V4 m) ∧ itr (fn_limb_N_Mul_l2 fu n m) fu (List.replicate 8 0, 0) = some l := by
    refine itr_inv 4 (fun i z => z.1.length = 8 ∧ (∀ j, 0 ≤ z.1.getD j 0 ∧ z.1.getD j 0 < 18446744073709551616) ∧ (∀ j, i + 4 ≤ j → z.1.getD j 0 = 0) ∧ V8 z.1 = S i (fun t => n.getD t 0 * 18446744073709551616 ^ t) * V4 m ∧ z.2 = (i : Int)) _ ?_ ?_ (by omega) ?_
    · rintro i ⟨l, x⟩ hi ⟨h1, h2, h3, h4, hx⟩
      dsimp only at h1 h2 h3 h4 hx
      subst hx
      obtain ⟨⟨l', c⟩, h, hl1⟩ := mul_l1 (fu := fu) hf hn hm h1 h2 hi
      dsimp only at h
      have n3 := h.pn
      have hc := h.pc
      refine ⟨(l'.set (i + 4) c, ((i + 1 : Nat) : Int)), ⟨?_, ?_, ?_, ?_, rfl⟩, ?_⟩
      · dsimp only; rw [List.length_set, n3]
      · intro j; dsimp only
        by_cases e : i + 4 = j
        · subst e; rw [lset_eq (by omega)]; exact hc
        · rw [lset_ne e]; exact h.pb j
      · intro j hj; dsimp only
        rw [lset_ne (by omega), h.pu j (by omega)]; exact h3 j (by omega)
      · dsimp only
        have hM : n.getD i 0 * V4 m = n.getD i 0 * m.getD 0 0 + n.getD i 0 * m.getD 1 0 * 18446744073709551616 + n.getD i 0 * m.getD 2 0 * 340282366920938463463374607431768211456 + n.getD i 0 * m.getD 3 0 * 6277101735386680763835789423207666416102355444464034512896 := by
          rw [V4_e, Int.mul_add, Int.mul_add, Int.mul_add]; simp only [Int.mul_assoc]
        show _ = (S i _ + n.getD i 0 * 18446744073709551616 ^ i) * V4 m
        rw [Int.add_mul, ← h4, Int.mul_comm (n.getD i 0) (18446744073709551616 ^ i), Int.mul_assoc, hM]
        have hs := h.ps
        simp only [S, Nat.zero_add, Nat.add_zero, Int.add_mul] at hs
        rw [V8_e, V8_e]
        have z := h3 (i + 4) (Nat.le_refl _)
        have u0 := fun hh => h.pu 0 hh
        have u1 := fun hh => h.pu 1 hh
        have u2 := fun hh => h.pu 2 hh
        have u4 := fun hh => h.pu 4 hh
        have u5 := fun hh => h.pu 5 hh
        have u6 := fun hh => h.pu 6 hh
        have u7 := fun hh => h.pu 7 hh
        have sg : ∀ j, (l'.set (i + 4) c).getD j 0 = if i + 4 = j then c else l'.getD j 0 := fun j => getD_set (by omega)
        simp only [sg]
        generalize n.getD i 0 * m.getD 0 0 = p0 at *
        generalize n.getD i 0 * m.getD 1 0 = p1 at *
        generalize n.getD i 0 * m.getD 2 0 = p2 at *
        generalize n.getD i 0 * m.getD 3 0 = p3 at *
        have : i = 0 ∨ i = 1 ∨ i = 2 ∨ i = 3 := by omega
        rcases this with rfl | rfl | rfl | rfl
        · have u5 := u5 (by omega)
          have u6 := u6 (by omega)
          have u7 := u7 (by omega)
          simp only [Nat.zero_add, Nat.reduceAdd, if_true, Nat.reduceEqDiff, if_false, Nat.zero_ne_one] at *
          omega
        · have u0 := u0 (by omega)
          have u6 := u6 (by omega)
          have u7 := u7 (by omega)
          simp only [Nat.reduceAdd, if_true, Nat.reduceEqDiff, if_false] at *
          omega
        · have u0 := u0 (by omega)
          have u1 := u1 (by omega)
          have u7 := u7 (by omega)
          simp only [Nat.reduceAdd, if_true, Nat.reduceEqDiff, if_false] at *
          omega
        · have u0 := u0 (by omega)
          have u1 := u1 (by omega)
          have u2 := u2 (by omega)
          simp only [Nat.reduceAdd, if_true, Nat.reduceEqDiff, if_false] at *
          omega
      · intro rec
        unfold fn_limb_N_Mul_l2
        refine e_decT (by omega) ?_
        refine e_cT ?_
        refine e_bind _ hl1 ?_
        refine e_wi (by omega) ?_
        refine e_gd (by omega) ?_
        refine e_updz (i + 4) (by omega) _ (by omega) rfl ?_
        refine e_wi (by omega) ?_
        rfl
    · rintro ⟨l, x⟩ ⟨h1, h2, h3, h4, hx⟩
      dsimp only at h1 h2 h3 h4 hx
      subst hx
      refine ⟨l, ⟨h1, h2, h4⟩, fun rec => ?_⟩
      unfold fn_limb_N_Mul_l2
      refine e_decF (by omega) ?_
      refine e_cF ?_
      rfl
    · have hr : ∀ j, (List.replicate 8 (0 : Int)).getD j 0 = 0 := fun j => by
        by_cases h : j < 8
        · exact getD_rep h
        · exact getD_ge (by simp; omega)
      refine ⟨by simp, fun j => by rw [hr]; omega, fun j _ => hr j, ?_, rfl⟩
      rw [V8_e]; simp only [hr]; simp [S]
  obtain ⟨l, h, hl⟩ := key
  refine ⟨l, h, ?_⟩
  unfold fn_limb_N_Mul
  refine e_gd hn.n ?_
  refine e_gd hm.n ?_
  refine e_bind _ hl ?_
  rfl
theorem ior_62 {a b : Int} (ha : 0 ≤ a ∧ a < 4611686018427387904) (hb : 0 ≤ b ∧ b < 4) : ior .u64 a (b * 4611686018427387904) = a + b * 4611686018427387904 :=
  ior_add (s := 62) (by decide) ha hb.1 (by show b * 4611686018427387904 < _; omega)
theorem poly_fold {fu : Nat} {n : List Int} (hf : 40 < fu) (hn : Lm n) :
    ∃ o, fn_poly_fold fu n = some o ∧ Lm o ∧ V4 o = V4 n % 1361129467683753853853498429727072845824 + 5 * (V4 n / 1361129467683753853853498429727072845824) := by
  have b0 := hn.b 0
  have b1 := hn.b 1
  have b2 := hn.b 2
  have b3 := hn.b 3
  have nl := hn.n
  have vn := V4_e n
  generalize h0 : n.getD 0 0 = n0 at *
  generalize h1 : n.getD 1 0 = n1 at *
  generalize h2 : n.getD 2 0 = n2 at *
  generalize h3 : n.getD 3 0 = n3 at *
  have m1 := mul64 (fu := fu) (x := n2 / 4 + n3 % 4 * 4611686018427387904) (y := 5) (by omega) (by omega)
  have m2 := mul64 (fu := fu) (x := n3 / 4) (y := 5) (by omega) (by omega)
  obtain ⟨l, c, hl, Ll, hv, hc⟩ := limb_add (fu := fu) (n := [n0, n1, n2 % 4, 0]) (m := [(n2 / 4 + n3 % 4 * 4611686018427387904) * 5 % 18446744073709551616, (n3 / 4 * 5 % 18446744073709551616 + (n2 / 4 + n3 % 4 * 4611686018427387904) * 5 / 18446744073709551616 + 0) % 18446744073709551616, n3 / 4 * 5 / 18446744073709551616 + (n3 / 4 * 5 % 18446744073709551616 + (n2 / 4 + n3 % 4 * 4611686018427387904) * 5 / 18446744073709551616 + 0) / 18446744073709551616, 0]) hf
    (Lm4 b0 b1 (by omega) (by omega)) (Lm4 (by omega) (by omega) (by omega) (by omega))
  refine ⟨l, ?_, Ll, ?_⟩
  · unfold fn_poly_fold
    refine e_gd nl ?_
    refine e_ldn n0 (by omega) h0 ?_
    refine e_ldn n1 (by omega) h1 ?_
    refine e_ldn n2 (by omega) h2 ?_
    refine e_nmv (iand_u3 b2) ?_
    refine e_ldn n2 (by omega) h2 ?_
    refine e_nmv ishr_u2 ?_
    refine e_ldn n3 (by omega) h3 ?_
    refine e_nmv (w := n3 % 4 * 4611686018427387904) (by rw [ishl_u62]; omega) ?_
    refine e_nmv (ior_62 (by omega) (by omega)) ?_
    refine e_bind _ m1 ?_
    refine e_ldn n3 (by omega) h3 ?_
    refine e_nmv ishr_u2 ?_
    refine e_bind _ m2 ?_
    refine e_gd (by omega) ?_
    refine e_nm ?_
    refine e_nm ?_
    refine e_wu (by omega) ?_
    refine e_bind _ hl ?_
    refine e_gd Ll.n ?_
    rfl
  · rw [V4_4, V4_4] at hv
    have := V4_e l
    have l0 := Ll.b 0
    have l1 := Ll.b 1
    have l2 := Ll.b 2
    have l3 := Ll.b 3
    have hq : V4 n / 1361129467683753853853498429727072845824 = n2 / 4 + n3 * 4611686018427387904 := by omega
    have hr : V4 n % 1361129467683753853853498429727072845824 = n0 + n1 * 18446744073709551616 + n2 % 4 * 340282366920938463463374607431768211456 := by omega
    rw [hq, hr]
    have hs : (n2 / 4 + n3 % 4 * 4611686018427387904) * 5 % 18446744073709551616 + (n3 / 4 * 5 % 18446744073709551616 + (n2 / 4 + n3 % 4 * 4611686018427387904) * 5 / 18446744073709551616 + 0) % 18446744073709551616 * 18446744073709551616 + (n3 / 4 * 5 / 18446744073709551616 + (n3 / 4 * 5 % 18446744073709551616 + (n2 / 4 + n3 % 4 * 4611686018427387904) * 5 / 18446744073709551616 + 0) / 18446744073709551616) * 340282366920938463463374607431768211456 = 5 * (n2 / 4 + n3 * 4611686018427387904) := by omega
    have hc0 : c = 0 := by omega
    omega
theorem of_val (a : List Int) : V4 ((List.range 4).map fun j => S 8 fun i => a.getD (8 * j + i) 0 * 256 ^ i) = S 32 fun i => a.getD i 0 * 256 ^ i := by
  rw [V4_e, getD_map (by omega), getD_map (by omega), getD_map (by omega), getD_map (by omega)]
  simp only [S, Nat.zero_add, Nat.reduceAdd, Nat.reduceMul, Nat.add_zero, Nat.mul_zero]
  omega
theorem of_Lm {a : List Int} (w : ∀ i, 0 ≤ a.getD i 0 ∧ a.getD i 0 ≤ 255) : Lm ((List.range 4).map fun j => S 8 fun i => a.getD (8 * j + i) 0 * 256 ^ i) := by
  refine ⟨by simp, fun j => ?_⟩
  by_cases h : j < 4
  · rw [getD_map h]
    exact S_lt (n := 8) (f := fun i => a.getD (8 * j + i) 0) fun i _ => w _
  · rw [getD_ge (by simp; omega)]; omega
end Go.Proofs.Ythgbffnahanfhaa

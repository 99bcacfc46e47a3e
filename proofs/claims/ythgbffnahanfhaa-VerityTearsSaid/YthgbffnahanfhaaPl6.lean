/- Limbs: sums, differences, products, bytes. -/
import Derived.Test.YthgbffnahanfhaaPl5
set_option linter.unusedVariables false
set_option linter.unusedSimpArgs false
namespace Go.Proofs.Ythgbffnahanfhaa
open Go Go.EV
set_option maxRecDepth 20000
theorem mul64 {fu : Nat} {x y : Int} (hx : 0 ≤ x ∧ x < 18446744073709551616) (hy : 0 ≤ y ∧ y < 18446744073709551616) :
    fn_math_bits_Mul64 fu x y = some (x * y / 18446744073709551616, x * y % 18446744073709551616) := by
  have hx2 : x = x % 4294967296 + 4294967296 * (x / 4294967296) := by omega
  have hy2 : y = y % 4294967296 + 4294967296 * (y / 4294967296) := by omega
  have b00 := prod_bound (a := x % 4294967296) (b := y % 4294967296) (A := 4294967295) (B := 4294967295) (by omega) (by omega)
  have b10 := prod_bound (a := x / 4294967296) (b := y % 4294967296) (A := 4294967295) (B := 4294967295) (by omega) (by omega)
  have b01 := prod_bound (a := x % 4294967296) (b := y / 4294967296) (A := 4294967295) (B := 4294967295) (by omega) (by omega)
  have b11 := prod_bound (a := x / 4294967296) (b := y / 4294967296) (A := 4294967295) (B := 4294967295) (by omega) (by omega)
  have e : x * y = x % 4294967296 * (y % 4294967296) + 4294967296 * (x / 4294967296 * (y % 4294967296)) + 4294967296 * (x % 4294967296 * (y / 4294967296)) + 18446744073709551616 * (x / 4294967296 * (y / 4294967296)) := by
    conv => lhs; rw [hx2, hy2]
    generalize x % 4294967296 = a
    generalize x / 4294967296 = b
    generalize y % 4294967296 = c
    generalize y / 4294967296 = d
    rw [Int.add_mul, Int.mul_add, Int.mul_add, Int.mul_assoc, Int.mul_assoc, Int.mul_left_comm a, Int.mul_left_comm b]
    omega
  unfold fn_math_bits_Mul64
  refine e_nmv (iand_u32m hx) ?_
  refine e_nmv ishr_u32 ?_
  refine e_nmv (iand_u32m hy) ?_
  refine e_nmv ishr_u32 ?_
  generalize x % 4294967296 * (y % 4294967296) = p00 at *
  generalize x / 4294967296 * (y % 4294967296) = p10 at *
  generalize x % 4294967296 * (y / 4294967296) = p01 at *
  generalize x / 4294967296 * (y / 4294967296) = p11 at *
  generalize x * y = xy at *
  refine e_wu (by omega) ?_
  refine e_wu (by omega) ?_
  refine e_nmv ishr_u32 ?_
  refine e_wu (by omega) ?_
  refine e_nmv (iand_u32m (by omega)) ?_
  refine e_nmv ishr_u32 ?_
  refine e_wu (by omega) ?_
  refine e_wu (by omega) ?_
  refine e_wu (by omega) ?_
  refine e_wu (by omega) ?_
  refine e_nmv ishr_u32 ?_
  refine e_wu (by omega) ?_
  refine e_nmv (w_u64' _) ?_
  congr 1
  refine Prod.ext ?_ rfl
  show _ = xy / 18446744073709551616
  omega
structure Lm (l : List Int) : Prop where
  n : l.length = 4
  b : ∀ i, 0 ≤ l.getD i 0 ∧ l.getD i 0 < 18446744073709551616
def V4 (l : List Int) : Int := S 4 fun i => l.getD i 0 * 18446744073709551616 ^ i
theorem V4_e (l : List Int) : V4 l = l.getD 0 0 + l.getD 1 0 * 18446744073709551616 + l.getD 2 0 * 340282366920938463463374607431768211456 + l.getD 3 0 * 6277101735386680763835789423207666416102355444464034512896 := by
  unfold V4; simp only [S, Nat.zero_add, Nat.reduceAdd]; omega
theorem Lm4 {a b c d : Int} (ha : 0 ≤ a ∧ a < 18446744073709551616) (hb : 0 ≤ b ∧ b < 18446744073709551616) (hc : 0 ≤ c ∧ c < 18446744073709551616) (hd : 0 ≤ d ∧ d < 18446744073709551616) : Lm [a, b, c, d] := by
  refine ⟨rfl, fun i => ?_⟩
  match i with
  | 0 => exact ha
  | 1 => exact hb
  | 2 => exact hc
  | 3 => exact hd
  | n + 4 => rw [getD_ge (by simp)]; omega
theorem V4_4 (a b c d : Int) : V4 [a, b, c, d] = a + b * 18446744073709551616 + c * 340282366920938463463374607431768211456 + d * 6277101735386680763835789423207666416102355444464034512896 := V4_e _
def ca (n m : List Int) : Nat → Int
  | 0 => 0
  | k + 1 => (n.getD k 0 + m.getD k 0 + ca n m k) / 18446744073709551616
theorem ca_b {n m : List Int} (hn : Lm n) (hm : Lm m) (k : Nat) : 0 ≤ ca n m k ∧ ca n m k ≤ 1 := by
  induction k with
  | zero => show 0 ≤ (0 : Int) ∧ (0 : Int) ≤ 1; omega
  | succ k ih => have := hn.b k; have := hm.b k; show 0 ≤ (_ : Int) / _ ∧ (_ : Int) / _ ≤ 1; omega
theorem limb_add {fu : Nat} {n m : List Int} (hf : 40 < fu) (hn : Lm n) (hm : Lm m) :
    ∃ l c, fn_limb_N_Add fu n m = some (l, c) ∧ Lm l ∧ V4 l + c * 115792089237316195423570985008687907853269984665640564039457584007913129639936 = V4 n + V4 m ∧ 0 ≤ c ∧ c ≤ 1 := by
  have hg : ∀ i, i < 4 → (fil (fun k => (n.getD k 0 + m.getD k 0 + ca n m k) % 18446744073709551616) 4 (List.replicate 4 0)).getD i 0 = (n.getD i 0 + m.getD i 0 + ca n m i) % 18446744073709551616 := fun i hi => by rw [fil_getD _ (by simp), if_pos hi]
  refine ⟨fil (fun k => (n.getD k 0 + m.getD k 0 + ca n m k) % 18446744073709551616) 4 (List.replicate 4 0), ca n m 4, ?_, ⟨by rw [fil_length] <;> simp, fun i => ?_⟩, ?_, ca_b hn hm 4⟩
  · unfold fn_limb_N_Add
    refine e_gd hn.n ?_
    refine e_gd hm.n ?_
    refine e_bind _ (itr_run' (fun k => (fil (fun k => (n.getD k 0 + m.getD k 0 + ca n m k) % 18446744073709551616) k (List.replicate 4 0), ca n m k, (k : Int))) 4 (fil (fun k => (n.getD k 0 + m.getD k 0 + ca n m k) % 18446744073709551616) 4 (List.replicate 4 0), ca n m 4) (by rw [fil_zero]; rfl) (by omega) ?_ ?_) rfl
    · intro k hk rec
      have b1 := hn.b k
      have b2 := hm.b k
      have b3 := ca_b hn hm k
      have := hn.n
      have := hm.n
      unfold fn_limb_N_Add_l1
      refine e_decT (by omega) ?_
      refine e_cT ?_
      refine e_gd (by omega) ?_
      refine e_ldz k rfl (n.getD k 0) (by omega) rfl ?_
      refine e_gd (by omega) ?_
      refine e_ldz k rfl (m.getD k 0) (by omega) rfl ?_
      refine e_gd (by omega) ?_
      refine e_nm ?_
      refine e_nm ?_
      refine e_gd (by omega) ?_
      refine e_updz k rfl _ (by rw [fil_length] <;> simp <;> omega) (fil_set (by simp; omega) rfl) ?_
      refine e_wi (by omega) ?_
      rfl
    · intro rec
      unfold fn_limb_N_Add_l1
      refine e_decF (by omega) ?_
      refine e_cF ?_
      rfl
  · by_cases hi : i < 4
    · rw [hg i hi]; omega
    · rw [getD_ge (by rw [fil_length] <;> simp; omega)]; omega
  · rw [V4_e, V4_e, V4_e, hg 0 (by omega), hg 1 (by omega), hg 2 (by omega), hg 3 (by omega)]
    have e0 : ca n m 0 = 0 := rfl
    have e1 : ca n m 1 = (n.getD 0 0 + m.getD 0 0 + ca n m 0) / 18446744073709551616 := rfl
    have e2 : ca n m 2 = (n.getD 1 0 + m.getD 1 0 + ca n m 1) / 18446744073709551616 := rfl
    have e3 : ca n m 3 = (n.getD 2 0 + m.getD 2 0 + ca n m 2) / 18446744073709551616 := rfl
    have e4 : ca n m 4 = (n.getD 3 0 + m.getD 3 0 + ca n m 3) / 18446744073709551616 := rfl
    omega
def bo (n m : List Int) : Nat → Int
  | 0 => 0
  | k + 1 => if n.getD k 0 < m.getD k 0 + bo n m k then 1 else 0
theorem bo_b (n m : List Int) (k : Nat) : 0 ≤ bo n m k ∧ bo n m k ≤ 1 := by
  cases k with
  | zero => show 0 ≤ (0 : Int) ∧ (0 : Int) ≤ 1; omega
  | succ k => unfold bo; split <;> omega
theorem bo_e {n m : List Int} (hn : Lm n) (hm : Lm m) (k : Nat) : (n.getD k 0 - m.getD k 0 - bo n m k) % 18446744073709551616 = n.getD k 0 - m.getD k 0 - bo n m k + bo n m (k + 1) * 18446744073709551616 := by
  have := hn.b k
  have := hm.b k
  have := bo_b n m k
  have e : bo n m (k + 1) = if n.getD k 0 < m.getD k 0 + bo n m k then 1 else 0 := rfl
  rw [e]; split <;> omega
theorem limb_sub {fu : Nat} {n m : List Int} (hf : 40 < fu) (hn : Lm n) (hm : Lm m) :
    ∃ l c, fn_limb_N_Sub fu n m = some (l, c) ∧ Lm l ∧ V4 l - c * 115792089237316195423570985008687907853269984665640564039457584007913129639936 = V4 n - V4 m ∧ 0 ≤ c ∧ c ≤ 1 := by
  have hg : ∀ i, i < 4 → (fil (fun k => (n.getD k 0 - m.getD k 0 - bo n m k) % 18446744073709551616) 4 (List.replicate 4 0)).getD i 0 = (n.getD i 0 - m.getD i 0 - bo n m i) % 18446744073709551616 := fun i hi => by rw [fil_getD _ (by simp), if_pos hi]
  refine ⟨fil (fun k => (n.getD k 0 - m.getD k 0 - bo n m k) % 18446744073709551616) 4 (List.replicate 4 0), bo n m 4, ?_, ⟨by rw [fil_length] <;> simp, fun i => ?_⟩, ?_, bo_b n m 4⟩
  · unfold fn_limb_N_Sub
    refine e_gd hn.n ?_
    refine e_gd hm.n ?_
    refine e_bind _ (itr_run' (fun k => (fil (fun k => (n.getD k 0 - m.getD k 0 - bo n m k) % 18446744073709551616) k (List.replicate 4 0), bo n m k, (k : Int))) 4 (fil (fun k => (n.getD k 0 - m.getD k 0 - bo n m k) % 18446744073709551616) 4 (List.replicate 4 0), bo n m 4) (by rw [fil_zero]; rfl) (by omega) ?_ ?_) rfl
    · intro k hk rec
      have b1 := hn.b k
      have b2 := hm.b k
      have b3 := bo_b n m k
      have := hn.n
      have := hm.n
      unfold fn_limb_N_Sub_l1
      refine e_decT (by omega) ?_
      refine e_cT ?_
      refine e_gd (by omega) ?_
      refine e_ldz k rfl (n.getD k 0) (by omega) rfl ?_
      refine e_gd (by omega) ?_
      refine e_ldz k rfl (m.getD k 0) (by omega) rfl ?_
      refine e_gd (by omega) ?_
      refine e_nm ?_
      refine e_nm ?_
      refine e_gd (by omega) ?_
      refine e_updz k rfl _ (by rw [fil_length] <;> simp <;> omega) (fil_set (by simp; omega) rfl) ?_
      refine e_wi (by omega) ?_
      rfl
    · intro rec
      unfold fn_limb_N_Sub_l1
      refine e_decF (by omega) ?_
      refine e_cF ?_
      rfl
  · by_cases hi : i < 4
    · rw [hg i hi]; omega
    · rw [getD_ge (by rw [fil_length] <;> simp; omega)]; omega
  · rw [V4_e, V4_e, V4_e, hg 0 (by omega), hg 1 (by omega), hg 2 (by omega), hg 3 (by omega), bo_e hn hm, bo_e hn hm, bo_e hn hm, bo_e hn hm]
    have e0 : bo n m 0 = 0 := rfl
    simp only [Nat.zero_add, Nat.reduceAdd]
    omega
theorem S_lt {n : Nat} {f : Nat → Int} (h : ∀ i, i < n → 0 ≤ f i ∧ f i ≤ 255) : 0 ≤ S n (fun i => f i * 256 ^ i) ∧ S n (fun i => f i * 256 ^ i) < 256 ^ n := by
  induction n with
  | zero => show 0 ≤ (0 : Int) ∧ (0 : Int) < 1; omega
  | succ n ih =>
    have h1 := ih fun i hi => h i (by omega)
    have h2 := h n (by omega)
    have h3 := prod_bound (a := f n) (b := 256 ^ n) (A := 255) (B := 256 ^ n) h2 ⟨by omega, by omega⟩
    show 0 ≤ S n _ + f n * 256 ^ n ∧ S n _ + f n * 256 ^ n < 256 ^ (n + 1)
    rw [Int.pow_succ]; omega
theorem S_inj {n : Nat} {f g : Nat → Int} (hf : ∀ i, i < n → 0 ≤ f i ∧ f i ≤ 255) (hg : ∀ i, i < n → 0 ≤ g i ∧ g i ≤ 255) (h : S n (fun i => f i * 256 ^ i) = S n (fun i => g i * 256 ^ i)) : ∀ i, i < n → f i = g i := by
  induction n with
  | zero => intro i hi; omega
  | succ n ih =>
    have h1 := S_lt fun i hi => hf i (show i < n + 1 by omega)
    have f1 := S_lt (n := n) fun i hi => hf i (by omega)
    have g1 := S_lt (n := n) fun i hi => hg i (by omega)
    have h' : S n (fun i => f i * 256 ^ i) + f n * 256 ^ n = S n (fun i => g i * 256 ^ i) + g n * 256 ^ n := h
    have hp : (0 : Int) < 256 ^ n := by omega
    have d1 : (S n (fun i => f i * 256 ^ i) + f n * 256 ^ n) / 256 ^ n = f n := by rw [Int.add_mul_ediv_right _ _ (by omega), Int.ediv_eq_zero_of_lt f1.1 f1.2]; omega
    have d2 : (S n (fun i => g i * 256 ^ i) + g n * 256 ^ n) / 256 ^ n = g n := by rw [Int.add_mul_ediv_right _ _ (by omega), Int.ediv_eq_zero_of_lt g1.1 g1.2]; omega
    have e : f n = g n := by rw [← d1, h', d2]
    intro i hi
    by_cases hin : i = n
    · rw [hin, e]
    · exact ih (fun i hi => hf i (by omega)) (fun i hi => hg i (by omega)) (by rw [e] at h'; omega) i (by omega)
theorem list_eq {l m : List Int} (h : l.length = m.length) (he : ∀ i, i < l.length → l.getD i 0 = m.getD i 0) : l = m := by
  refine List.ext_getElem h fun i h1 h2 => ?_
  have := he i h1
  rw [List.getD_eq_getElem?_getD, List.getD_eq_getElem?_getD, List.getElem?_eq_getElem h1, List.getElem?_eq_getElem h2] at this
  exact this
theorem map_set {n j : Nat} {v : Int} {f g : Nat → Int} (h : ∀ i, i < n → g i = if i = j then v else f i) : ((List.range n).map f).set j v = (List.range n).map g := by
  refine list_eq (by simp) fun i hi => ?_
  have hi' : i < n := by simpa using hi
  rw [getD_map hi', h i hi']
  split
  · rename_i e; subst e; rw [lset_eq (by simpa using hi')]
  · rename_i e; rw [lset_ne (fun e' => e e'.symm), getD_map hi']
def lim (a : List Int) (k j : Nat) : Int := S (min 8 (k - 8 * j)) fun i => a.getD (8 * j + i) 0 * 256 ^ i
theorem limb_of {fu : Nat} {a : List Int} (hf : 40 < fu) (hl : a.length = 32) (w : ∀ i, 0 ≤ a.getD i 0 ∧ a.getD i 0 ≤ 255) :
    fn_limb_Of fu a = some ((List.range 4).map fun j => S 8 fun i => a.getD (8 * j + i) 0 * 256 ^ i) := by
  unfold fn_limb_Of
  refine e_gd hl ?_
  refine e_bind _ (itr_run' (fun k => ((List.range 4).map (lim a k), (k : Int))) 32 ((List.range 4).map (lim a 32)) (by rfl) (by omega) ?_ ?_) ?_
  · intro k hk rec
    have bk := w k
    have hj : k / 8 < 4 := by omega
    have e8 : min 8 (k - 8 * (k / 8)) = k % 8 := by omega
    have l1 : lim a k (k / 8) = S (k % 8) fun i => a.getD (8 * (k / 8) + i) 0 * 256 ^ i := by unfold lim; rw [e8]
    have bl := S_lt (n := k % 8) (f := fun i => a.getD (8 * (k / 8) + i) 0) fun i _ => w _
    have pw : ((2 : Int) ^ (8 * (k % 8))) = 256 ^ (k % 8) := by rw [Int.pow_mul, show (2 : Int) ^ 8 = 256 from by decide]
    have pb : a.getD k 0 * 256 ^ (k % 8) < 18446744073709551616 := by
      have : k % 8 = 0 ∨ k % 8 = 1 ∨ k % 8 = 2 ∨ k % 8 = 3 ∨ k % 8 = 4 ∨ k % 8 = 5 ∨ k % 8 = 6 ∨ k % 8 = 7 := by omega
      rcases this with e | e | e | e | e | e | e | e <;> rw [e] <;> omega
    have pn : 0 ≤ a.getD k 0 * 256 ^ (k % 8) := Int.mul_nonneg bk.1 (by omega)
    unfold fn_limb_Of_l1
    refine e_decT (by omega) ?_
    refine e_cT ?_
    refine e_gd (by omega) ?_
    refine e_ldz k rfl (a.getD k 0) (by omega) rfl ?_
    refine e_nmv (w := ((k / 8 : Nat) : Int)) (by rw [Int.tdiv_eq_ediv_of_nonneg (by omega), w_i64 (by omega)]; omega) ?_
    refine e_gd (by omega) ?_
    refine e_ldz (k / 8) rfl (lim a k (k / 8)) (by simpa using hj) (getD_map hj) ?_
    refine e_wu (by omega) ?_
    refine e_nmv (w := ((k % 8 : Nat) : Int)) (by rw [Int.tmod_eq_emod_of_nonneg (by omega)]; omega) ?_
    refine e_nmv (w := ((8 * (k % 8) : Nat) : Int)) (by rw [w_i64 (by omega)]; omega) ?_
    refine e_gd (by omega) ?_
    refine e_nmv (w := a.getD k 0 * 2 ^ (8 * (k % 8))) (by rw [ishl_n (by show _ ≤ 64; omega), w_u64 (by rw [pw]; omega)]) ?_
    refine e_nmv (ior_add (s := 8 * (k % 8)) (by omega) (by rw [pw, l1]; exact bl) bk.1 (by rw [pw]; omega)) ?_
    refine e_gd (by omega) ?_
    refine e_updz (k / 8) rfl ((List.range 4).map (lim a (k + 1))) (by simpa using hj) (map_set fun j hj4 => ?_) ?_
    · split
      · rename_i e; subst e
        have e9 : min 8 (k + 1 - 8 * (k / 8)) = k % 8 + 1 := by omega
        rw [l1, pw]; unfold lim; rw [e9]
        show S (k % 8) _ + a.getD (8 * (k / 8) + k % 8) 0 * _ = _
        rw [show 8 * (k / 8) + k % 8 = k by omega]
      · unfold lim
        rw [show min 8 (k + 1 - 8 * j) = min 8 (k - 8 * j) by omega]
    · refine e_wi (by omega) ?_
      rfl
  · intro rec
    unfold fn_limb_Of_l1
    refine e_decF (by omega) ?_
    refine e_cF ?_
    rfl
  · rfl
end Go.Proofs.Ythgbffnahanfhaa

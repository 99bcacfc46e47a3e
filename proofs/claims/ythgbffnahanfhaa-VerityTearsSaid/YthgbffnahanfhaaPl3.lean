/- The one-time sum of the reference: seventeen digits. -/
import Derived.Test.YthgbffnahanfhaaF
import Derived.Test.YthgbffnahanfhaaPl1
set_option linter.unusedVariables false
set_option linter.unusedSimpArgs false
namespace Go.Proofs.Ythgbffnahanfhaa
open Go Go.EV
set_option maxRecDepth 20000
def cr (c0 : Int) (l : List Int) : Nat → Int
  | 0 => c0
  | k + 1 => (cr c0 l k + l.getD k 0) / 256
def md (c0 : Int) (l : List Int) (k : Nat) : Int := (cr c0 l k + l.getD k 0) % 256
theorem cr_bound {c0 : Int} {l : List Int} (hc : 0 ≤ c0 ∧ c0 ≤ 5) (h : ∀ i, 0 ≤ l.getD i 0 ∧ l.getD i 0 ≤ 1125899906842624) (k : Nat) : 0 ≤ cr c0 l k ∧ cr c0 l k ≤ 1125899906842624 := by
  induction k with
  | zero => show 0 ≤ c0 ∧ c0 ≤ _; omega
  | succ k ih => show 0 ≤ (cr c0 l k + l.getD k 0) / 256 ∧ (cr c0 l k + l.getD k 0) / 256 ≤ _; have := h k; omega
theorem md_bound {c0 : Int} {l : List Int} (k : Nat) : 0 ≤ md c0 l k ∧ md c0 l k ≤ 255 := by unfold md; omega
theorem carried_l1 {fu : Nat} {l : List Int} (hf : 16 < fu) (hl : l.length = 17) (h : ∀ i, 0 ≤ l.getD i 0 ∧ l.getD i 0 ≤ 1125899906842624) :
    itr (fn_portcullisref1_carried_l1 fu) fu (l, 0, 0) = some (fil (md 0 l) 16 l, cr 0 l 16) := by
  refine itr_run' (fun k => (fil (md 0 l) k l, cr 0 l k, (k : Int))) 16 _ (by rw [fil_zero]; rfl) hf ?_ ?_
  · intro k hk rec
    have hb := cr_bound (c0 := 0) (by omega) h k
    have hb2 := h k
    unfold fn_portcullisref1_carried_l1
    refine e_decT (by omega) ?_
    refine e_cT ?_
    refine e_gd (by omega) ?_
    refine e_ldz k rfl (l.getD k 0) (by rw [fil_length] <;> omega) (by rw [fil_getD _ (by omega), if_neg (by omega)]) ?_
    refine e_wi (by omega) ?_
    refine e_nmv (iand_i255 (by omega)) ?_
    refine e_gd (by omega) ?_
    refine e_updz k rfl _ (by rw [fil_length] <;> omega) (fil_set (by omega) rfl) ?_
    refine e_nmv ishr_i8 ?_
    refine e_wi (by omega) ?_
    rfl
  · intro rec
    unfold fn_portcullisref1_carried_l1
    refine e_decF (by omega) ?_
    refine e_cF ?_
    rfl
/-- the digits' value -/
def V17 (l : List Int) : Int := S 17 fun i => l.getD i 0 * 256 ^ i
theorem cr_sum (c0 : Int) (l : List Int) (k : Nat) : S k (fun i => md c0 l i * 256 ^ i) + cr c0 l k * 256 ^ k = S k (fun i => l.getD i 0 * 256 ^ i) + c0 := by
  induction k with
  | zero => show (0 : Int) + c0 * 256 ^ 0 = 0 + c0; simp
  | succ k ih =>
    show S k _ + md c0 l k * 256 ^ k + (cr c0 l k + l.getD k 0) / 256 * 256 ^ (k + 1) = S k _ + l.getD k 0 * 256 ^ k + c0
    have h1 : md c0 l k = (cr c0 l k + l.getD k 0) - 256 * ((cr c0 l k + l.getD k 0) / 256) := by unfold md; omega
    rw [h1, Int.pow_succ]
    generalize (cr c0 l k + l.getD k 0) / 256 = q
    generalize (256 : Int) ^ k = B at *
    have e1 : (cr c0 l k + l.getD k 0 - 256 * q) * B = cr c0 l k * B + l.getD k 0 * B - q * (B * 256) := by
      rw [Int.sub_mul, Int.add_mul, Int.mul_comm 256 q, Int.mul_assoc, Int.mul_comm 256 B]
    rw [e1]; omega
structure Dg (b : Int) (l : List Int) : Prop where
  n : l.length = 17
  z : 0 ≤ l.getD 0 0 ∧ l.getD 0 0 ≤ b
  m : ∀ i, 1 ≤ i → i < 16 → 0 ≤ l.getD i 0 ∧ l.getD i 0 ≤ 255
  t : 0 ≤ l.getD 16 0 ∧ l.getD 16 0 ≤ 3
/-- one round of the carry -/
def rnd (l : List Int) : List Int := ((fil (md 0 l) 16 l).set 16 ((cr 0 l 16 + l.getD 16 0) % 4)).set 0 (md 0 l 0 + 5 * ((cr 0 l 16 + l.getD 16 0) / 4))
theorem rnd_get {l : List Int} (hl : l.length = 17) : (rnd l).getD 0 0 = md 0 l 0 + 5 * ((cr 0 l 16 + l.getD 16 0) / 4) ∧ (∀ i, 1 ≤ i → i < 16 → (rnd l).getD i 0 = md 0 l i) ∧ (rnd l).getD 16 0 = (cr 0 l 16 + l.getD 16 0) % 4 := by
  unfold rnd
  refine ⟨?_, ?_, ?_⟩
  · rw [lset_eq]; rw [List.length_set, fil_length] <;> omega
  · intro i h1 h2
    rw [lset_ne (by omega), lset_ne (by omega), fil_getD _ (by omega), if_pos h2]
  · rw [lset_ne (by omega), lset_eq]; rw [fil_length] <;> omega
theorem V17_split (l : List Int) : V17 l = l.getD 0 0 + S 15 (fun i => l.getD (i + 1) 0 * 256 ^ (i + 1)) + l.getD 16 0 * 256 ^ 16 := by
  unfold V17; simp only [S, Nat.zero_add, Nat.reduceAdd]; omega
theorem S16_split (f : Nat → Int) : S 16 (fun i => f i * 256 ^ i) = f 0 + S 15 (fun i => f (i + 1) * 256 ^ (i + 1)) := by
  simp only [S, Nat.zero_add, Nat.reduceAdd]; omega
theorem rnd_val {l : List Int} (hl : l.length = 17) : V17 (rnd l) = V17 l - 1361129467683753853853498429727072845819 * ((cr 0 l 16 + l.getD 16 0) / 4) := by
  obtain ⟨h0, h1, h2⟩ := rnd_get hl
  have hs := cr_sum 0 l 16
  rw [S16_split, S16_split] at hs
  rw [V17_split, V17_split, h0, h2, S_congr fun i hi => by rw [h1 (i + 1) (by omega) (by omega)]]
  have e : (256 : Int) ^ 16 = 340282366920938463463374607431768211456 := by decide
  rw [e] at *
  omega
theorem rnd_dg {l : List Int} (hl : l.length = 17) (h : ∀ i, 0 ≤ l.getD i 0 ∧ l.getD i 0 ≤ 1125899906842624) {b : Int} (hb : 255 + 5 * ((cr 0 l 16 + l.getD 16 0) / 4) ≤ b) : Dg b (rnd l) := by
  obtain ⟨h0, h1, h2⟩ := rnd_get hl
  have c := cr_bound (c0 := 0) (by omega) h 16
  have c2 := h 16
  refine ⟨?_, ?_, ?_, ?_⟩
  · unfold rnd; rw [List.length_set, List.length_set, fil_length] <;> omega
  · rw [h0]; have := md_bound (c0 := 0) (l := l) 0; omega
  · intro i hi hj; rw [h1 i hi hj]; exact md_bound i
  · rw [h2]; omega
theorem Dg.all {b : Int} {l : List Int} (d : Dg b l) (hb : 255 ≤ b) (i : Nat) : 0 ≤ l.getD i 0 ∧ l.getD i 0 ≤ b := by
  have h0 := d.z
  have h1 := d.t
  by_cases e : i = 0
  · subst e; omega
  · by_cases e2 : i < 16
    · have := d.m i (by omega) e2; omega
    · by_cases e3 : i = 16
      · subst e3; omega
      · rw [getD_ge (by rw [d.n]; omega)]; omega
theorem Dg.val {b : Int} {l : List Int} (d : Dg b l) : 0 ≤ V17 l ∧ V17 l ≤ b + 1361129467683753853853498429727072845568 := by
  have h0 := d.z
  have h1 := d.t
  have h := S_bound (n := 15) (f := fun i => l.getD (i + 1) 0 * 256 ^ (i + 1)) (M := 0)
  rw [V17_split]
  have m1 := d.m 1 (by omega) (by omega)
  have m2 := d.m 2 (by omega) (by omega)
  have m3 := d.m 3 (by omega) (by omega)
  have m4 := d.m 4 (by omega) (by omega)
  have m5 := d.m 5 (by omega) (by omega)
  have m6 := d.m 6 (by omega) (by omega)
  have m7 := d.m 7 (by omega) (by omega)
  have m8 := d.m 8 (by omega) (by omega)
  have m9 := d.m 9 (by omega) (by omega)
  have m10 := d.m 10 (by omega) (by omega)
  have m11 := d.m 11 (by omega) (by omega)
  have m12 := d.m 12 (by omega) (by omega)
  have m13 := d.m 13 (by omega) (by omega)
  have m14 := d.m 14 (by omega) (by omega)
  have m15 := d.m 15 (by omega) (by omega)
  simp only [S, Nat.zero_add, Nat.reduceAdd]
  omega
/-- what is carried over is what lies past the hundred and thirty bits -/
theorem rnd_q {l : List Int} (h : ∀ i, 0 ≤ l.getD i 0 ∧ l.getD i 0 ≤ 1125899906842624) (hl : l.length = 17) : (cr 0 l 16 + l.getD 16 0) / 4 = V17 l / 1361129467683753853853498429727072845824 := by
  have hs := cr_sum 0 l 16
  have hb : 0 ≤ S 16 (fun i => md 0 l i * 256 ^ i) ∧ S 16 (fun i => md 0 l i * 256 ^ i) < 340282366920938463463374607431768211456 := by
    have m0 := md_bound (c0 := 0) (l := l) 0
    have m1 := md_bound (c0 := 0) (l := l) 1
    have m2 := md_bound (c0 := 0) (l := l) 2
    have m3 := md_bound (c0 := 0) (l := l) 3
    have m4 := md_bound (c0 := 0) (l := l) 4
    have m5 := md_bound (c0 := 0) (l := l) 5
    have m6 := md_bound (c0 := 0) (l := l) 6
    have m7 := md_bound (c0 := 0) (l := l) 7
    have m8 := md_bound (c0 := 0) (l := l) 8
    have m9 := md_bound (c0 := 0) (l := l) 9
    have m10 := md_bound (c0 := 0) (l := l) 10
    have m11 := md_bound (c0 := 0) (l := l) 11
    have m12 := md_bound (c0 := 0) (l := l) 12
    have m13 := md_bound (c0 := 0) (l := l) 13
    have m14 := md_bound (c0 := 0) (l := l) 14
    have m15 := md_bound (c0 := 0) (l := l) 15
    simp only [S, Nat.zero_add, Nat.reduceAdd]; omega
  have hv : V17 l = S 16 (fun i => l.getD i 0 * 256 ^ i) + l.getD 16 0 * 256 ^ 16 := rfl
  have e : (256 : Int) ^ 16 = 340282366920938463463374607431768211456 := by decide
  rw [e] at *
  omega
theorem carried_3 {l : List Int} (hl : l.length = 17) (h : ∀ i, 0 ≤ l.getD i 0 ∧ l.getD i 0 ≤ 17592186044416) :
    (∀ i, 0 ≤ (rnd l).getD i 0 ∧ (rnd l).getD i 0 ≤ 1125899906842624) ∧ (rnd l).length = 17 ∧ (∀ i, 0 ≤ (rnd (rnd l)).getD i 0 ∧ (rnd (rnd l)).getD i 0 ≤ 1125899906842624) ∧ (rnd (rnd l)).length = 17 ∧
    Dg 255 (rnd (rnd (rnd l))) ∧ ∃ q, V17 (rnd (rnd (rnd l))) = V17 l - 1361129467683753853853498429727072845819 * q := by
  have hh : ∀ i, 0 ≤ l.getD i 0 ∧ l.getD i 0 ≤ 1125899906842624 := fun i => by have := h i; omega
  have q0 := rnd_q hh hl
  have v0 := rnd_val hl
  have c := cr_bound (c0 := 0) (by omega) hh 16
  have c2 := hh 16
  have hv : 0 ≤ V17 l ∧ V17 l < 1361129467683753853853498429727072845824 * 17592186044416 := by
    have := fun i => h i
    have m0 := h 0
    have m1 := h 1
    have m2 := h 2
    have m3 := h 3
    have m4 := h 4
    have m5 := h 5
    have m6 := h 6
    have m7 := h 7
    have m8 := h 8
    have m9 := h 9
    have m10 := h 10
    have m11 := h 11
    have m12 := h 12
    have m13 := h 13
    have m14 := h 14
    have m15 := h 15
    have m16 := h 16
    unfold V17; simp only [S, Nat.zero_add, Nat.reduceAdd]; omega
  have d1 : Dg (255 + 5 * 17592186044416) (rnd l) := rnd_dg hl hh (by rw [q0]; omega)
  have a1 : ∀ i, 0 ≤ (rnd l).getD i 0 ∧ (rnd l).getD i 0 ≤ 1125899906842624 := fun i => by have := d1.all (by omega) i; omega
  have q1 := rnd_q a1 d1.n
  have v1 := rnd_val d1.n
  have w1 := d1.val
  have d2 : Dg 260 (rnd (rnd l)) := rnd_dg d1.n a1 (by rw [q1]; omega)
  have a2 : ∀ i, 0 ≤ (rnd (rnd l)).getD i 0 ∧ (rnd (rnd l)).getD i 0 ≤ 1125899906842624 := fun i => by have := d2.all (by omega) i; omega
  have q2 := rnd_q a2 d2.n
  have v2 := rnd_val d2.n
  have w2 := d2.val
  have d3 : Dg 255 (rnd (rnd (rnd l))) := rnd_dg d2.n a2 (by rw [q2]; omega)
  exact ⟨a1, d1.n, a2, d2.n, d3, ⟨(cr 0 l 16 + l.getD 16 0) / 4 + (cr 0 (rnd l) 16 + (rnd l).getD 16 0) / 4 + (cr 0 (rnd (rnd l)) 16 + (rnd (rnd l)).getD 16 0) / 4, by omega⟩⟩
theorem carried_step {fu : Nat} {l : List Int} {x : Int} (hf : 16 < fu) (hl : l.length = 17) (h : ∀ i, 0 ≤ l.getD i 0 ∧ l.getD i 0 ≤ 1125899906842624) (hx : 0 ≤ x ∧ x < 3) (rec : (List Int × Int) → Option (List Int)) :
    fn_portcullisref1_carried_l2 fu rec (l, x) = rec (rnd l, x + 1) := by
  have c := cr_bound (c0 := 0) (by omega) h 16
  have c2 := h 16
  have c3 := md_bound (c0 := 0) (l := l) 0
  unfold fn_portcullisref1_carried_l2
  refine e_decT (by omega) ?_
  refine e_cT ?_
  refine e_bind _ (carried_l1 hf hl h) ?_
  refine e_ldn (l.getD 16 0) (by rw [fil_length] <;> omega) (by rw [fil_getD _ (by omega), if_neg (by omega)]) ?_
  refine e_wi (by omega) ?_
  refine e_nmv (iand_i3 (by omega)) ?_
  refine e_updn _ (by rw [fil_length] <;> omega) rfl ?_
  refine e_ldn (md 0 l 0) (by rw [List.length_set, fil_length] <;> omega) (by rw [lset_ne (by omega), fil_getD _ (by omega), if_pos (by omega)]) ?_
  refine e_nmv ishr_i2 ?_
  refine e_wi (by omega) ?_
  refine e_wi (by omega) ?_
  refine e_updn _ (by rw [List.length_set, fil_length] <;> omega) rfl ?_
  refine e_wi (by omega) ?_
  rfl
theorem carried_all {fu : Nat} {l : List Int} (hf : 16 < fu) (hl : l.length = 17) (h : ∀ i, 0 ≤ l.getD i 0 ∧ l.getD i 0 ≤ 17592186044416) :
    ∃ m, fn_portcullisref1_carried fu l = some m ∧ Dg 255 m ∧ ∃ q, V17 m = V17 l - 1361129467683753853853498429727072845819 * q := by
  obtain ⟨a1, n1, a2, n2, d3, hq⟩ := carried_3 hl h
  refine ⟨rnd (rnd (rnd l)), ?_, d3, hq⟩
  unfold fn_portcullisref1_carried
  refine e_gd hl ?_
  refine e_bind (rnd (rnd (rnd l))) ?_ rfl
  obtain ⟨m, rfl⟩ : ∃ m, fu = m + 4 := ⟨fu - 4, by omega⟩
  show fn_portcullisref1_carried_l2 (m + 4) (itr _ (m + 3)) (l, 0) = _
  rw [carried_step hf hl (fun i => by have := h i; omega) (by omega)]
  show fn_portcullisref1_carried_l2 (m + 4) (itr _ (m + 2)) (_, _) = _
  rw [carried_step hf n1 a1 (by omega)]
  show fn_portcullisref1_carried_l2 (m + 4) (itr _ (m + 1)) (_, _) = _
  rw [carried_step hf n2 a2 (by omega)]
  show fn_portcullisref1_carried_l2 (m + 4) (itr _ m) (_, _) = _
  unfold fn_portcullisref1_carried_l2
  refine e_decF (by omega) ?_
  refine e_cF ?_
  rfl
end Go.Proofs.Ythgbffnahanfhaa

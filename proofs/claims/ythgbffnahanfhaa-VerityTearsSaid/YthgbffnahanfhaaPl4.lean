/- The one-time sum of the reference: the product, and the whole. -/
import Derived.Test.YthgbffnahanfhaaPl3
set_option linter.unusedVariables false
set_option linter.unusedSimpArgs false
namespace Go.Proofs.Ythgbffnahanfhaa
open Go Go.EV
set_option maxRecDepth 20000
def rr (r : List Int) (i j : Nat) : Int := if j ≤ i then r.getD (i - j) 0 else 320 * r.getD (i + 17 - j) 0
def col (h r : List Int) (i : Nat) : Int := S 17 fun j => h.getD j 0 * rr r i j
theorem rr_bound {r : List Int} (hr : ∀ i, 0 ≤ r.getD i 0 ∧ r.getD i 0 ≤ 255) (i j : Nat) : 0 ≤ rr r i j ∧ rr r i j ≤ 81600 := by
  unfold rr; split
  · have := hr (i - j); omega
  · have := hr (i + 17 - j); omega
theorem prod_bound {a b A B : Int} (ha : 0 ≤ a ∧ a ≤ A) (hb : 0 ≤ b ∧ b ≤ B) : 0 ≤ a * b ∧ a * b ≤ A * B :=
  ⟨Int.mul_nonneg ha.1 hb.1, Int.mul_le_mul ha.2 hb.2 hb.1 (by omega)⟩
theorem term_bound {h r : List Int} (hh : ∀ i, 0 ≤ h.getD i 0 ∧ h.getD i 0 ≤ 1023) (hr : ∀ i, 0 ≤ r.getD i 0 ∧ r.getD i 0 ≤ 255) (i j : Nat) : 0 ≤ h.getD j 0 * rr r i j ∧ h.getD j 0 * rr r i j ≤ 83476800 :=
  prod_bound (A := 1023) (B := 81600) (hh j) (rr_bound hr i j)
theorem part_bound {h r : List Int} (hh : ∀ i, 0 ≤ h.getD i 0 ∧ h.getD i 0 ≤ 1023) (hr : ∀ i, 0 ≤ r.getD i 0 ∧ r.getD i 0 ≤ 255) (i k : Nat) (hk : k ≤ 17) : 0 ≤ S k (fun j => h.getD j 0 * rr r i j) ∧ S k (fun j => h.getD j 0 * rr r i j) ≤ 1419105600 := by
  have := S_bound (n := k) (f := fun j => h.getD j 0 * rr r i j) (M := 83476800) fun j _ => term_bound hh hr i j
  omega
theorem times_l1 {fu : Nat} {h r : List Int} (hf : 17 < fu) (hl : h.length = 17) (rl : r.length = 17) (hh : ∀ i, 0 ≤ h.getD i 0 ∧ h.getD i 0 ≤ 1023) (hr : ∀ i, 0 ≤ r.getD i 0 ∧ r.getD i 0 ≤ 255) {i : Nat} (hi : i < 17) :
    itr (fn_portcullisref1_times_l1 fu h r (i : Int)) fu (0, 0) = some (S (i + 1) fun j => h.getD j 0 * rr r i j) := by
  refine itr_run' (fun k => (S k (fun j => h.getD j 0 * rr r i j), (k : Int))) (i + 1) _ rfl (by omega) ?_ ?_
  · intro k hk rec
    have b1 := part_bound hh hr i k (by omega)
    have b2 := part_bound hh hr i (k + 1) (by omega)
    have b3 := term_bound hh hr i k
    have e3 : rr r i k = r.getD (i - k) 0 := by unfold rr; rw [if_pos (by omega)]
    have e2 : S (k + 1) (fun j => h.getD j 0 * rr r i j) = S k (fun j => h.getD j 0 * rr r i j) + h.getD k 0 * rr r i k := rfl
    rw [e3] at b3 e2
    unfold fn_portcullisref1_times_l1
    refine e_decT (by omega) ?_
    refine e_cT ?_
    refine e_gd (by omega) ?_
    refine e_ldz k rfl (h.getD k 0) (by omega) rfl ?_
    refine e_wi (by omega) ?_
    refine e_gd (by omega) ?_
    refine e_ldz (i - k) (by omega) (r.getD (i - k) 0) (by omega) rfl ?_
    refine e_wi (by omega) ?_
    refine e_wi (by omega) ?_
    refine e_wi (by omega) ?_
    show rec (_, _) = rec (S (k + 1) _, _)
    rw [e2]; rfl
  · intro rec
    unfold fn_portcullisref1_times_l1
    refine e_decF (by omega) ?_
    refine e_cF ?_
    rfl
theorem times_l2 {fu : Nat} {h r : List Int} (hf : 17 < fu) (hl : h.length = 17) (rl : r.length = 17) (hh : ∀ i, 0 ≤ h.getD i 0 ∧ h.getD i 0 ≤ 1023) (hr : ∀ i, 0 ≤ r.getD i 0 ∧ r.getD i 0 ≤ 255) {i : Nat} (hi : i < 17) {x y : Int} (hx : x = S (i + 1) fun j => h.getD j 0 * rr r i j) (hy : y = (i : Int) + 1) :
    itr (fn_portcullisref1_times_l2 fu h r (i : Int)) fu (x, y) = some (col h r i) := by
  refine itr_run' (fun k => (S (i + 1 + k) (fun j => h.getD j 0 * rr r i j), ((i + 1 + k : Nat) : Int))) (16 - i) _ (by rw [hx, hy]; simp) (by omega) ?_ ?_
  · intro k hk rec
    have b1 := part_bound hh hr i (i + 1 + k) (by omega)
    have b2 := part_bound hh hr i (i + 1 + k + 1) (by omega)
    have b3 := term_bound hh hr i (i + 1 + k)
    have b4 := hh (i + 1 + k)
    have e3 : rr r i (i + 1 + k) = 320 * r.getD (16 - k) 0 := by unfold rr; rw [if_neg (by omega)]; congr 2; omega
    have e2 : S (i + 1 + k + 1) (fun j => h.getD j 0 * rr r i j) = S (i + 1 + k) (fun j => h.getD j 0 * rr r i j) + h.getD (i + 1 + k) 0 * rr r i (i + 1 + k) := rfl
    have e5 : h.getD (i + 1 + k) 0 * (320 * r.getD (16 - k) 0) = 320 * h.getD (i + 1 + k) 0 * r.getD (16 - k) 0 := by rw [← Int.mul_assoc, Int.mul_comm _ 320]
    rw [e3, e5] at b3 e2
    unfold fn_portcullisref1_times_l2
    refine e_decT (by omega) ?_
    refine e_cT ?_
    refine e_gd (by omega) ?_
    refine e_ldz (i + 1 + k) rfl (h.getD (i + 1 + k) 0) (by omega) rfl ?_
    refine e_wi (by omega) ?_
    refine e_wi (by omega) ?_
    refine e_wi (by omega) ?_
    refine e_gd (by omega) ?_
    refine e_ldz (16 - k) (by omega) (r.getD (16 - k) 0) (by omega) rfl ?_
    refine e_wi (by omega) ?_
    refine e_wi (by omega) ?_
    refine e_wi (by omega) ?_
    show rec (_, _) = rec (S (i + 1 + k + 1) _, _)
    rw [e2]; rfl
  · intro rec
    have e : i + 1 + (16 - i) = 17 := by omega
    show fn_portcullisref1_times_l2 fu h r (i : Int) rec (S (i + 1 + (16 - i)) _, ((i + 1 + (16 - i) : Nat) : Int)) = _
    rw [e]
    unfold fn_portcullisref1_times_l2
    refine e_decF (by omega) ?_
    refine e_cF ?_
    rfl
theorem times_l3 {fu : Nat} {h r : List Int} (hf : 17 < fu) (hl : h.length = 17) (rl : r.length = 17) (hh : ∀ i, 0 ≤ h.getD i 0 ∧ h.getD i 0 ≤ 1023) (hr : ∀ i, 0 ≤ r.getD i 0 ∧ r.getD i 0 ≤ 255) :
    itr (fn_portcullisref1_times_l3 fu h r) fu (List.replicate 17 0, 0) = some (fil (col h r) 17 (List.replicate 17 0)) := by
  refine itr_run' (fun k => (fil (col h r) k (List.replicate 17 0), (k : Int))) 17 _ (by rw [fil_zero]; rfl) (by omega) ?_ ?_
  · intro k hk rec
    unfold fn_portcullisref1_times_l3
    refine e_decT (by omega) ?_
    refine e_cT ?_
    refine e_bind _ (times_l1 hf hl rl hh hr hk) ?_
    refine e_wi (by omega) ?_
    refine e_bind _ (times_l2 hf hl rl hh hr hk rfl rfl) ?_
    refine e_gd (by omega) ?_
    refine e_updz k rfl _ (by rw [fil_length] <;> simp <;> omega) (fil_set (by simpa using hk) rfl) ?_
    refine e_wi (by omega) ?_
    rfl
  · intro rec
    unfold fn_portcullisref1_times_l3
    refine e_decF (by omega) ?_
    refine e_cF ?_
    rfl
theorem rot {r : List Int} {j : Nat} (hj : j < 17) : S 17 (fun i => rr r i j * 256 ^ i) = 256 ^ j * V17 r - 1361129467683753853853498429727072845819 * (64 * S j fun k => r.getD (17 - j + k) 0 * 256 ^ k) := by
  have : j = 0 ∨ j = 1 ∨ j = 2 ∨ j = 3 ∨ j = 4 ∨ j = 5 ∨ j = 6 ∨ j = 7 ∨ j = 8 ∨ j = 9 ∨ j = 10 ∨ j = 11 ∨ j = 12 ∨ j = 13 ∨ j = 14 ∨ j = 15 ∨ j = 16 := by omega
  rcases this with rfl | rfl | rfl | rfl | rfl | rfl | rfl | rfl | rfl | rfl | rfl | rfl | rfl | rfl | rfl | rfl | rfl <;> (simp [S, V17, rr] <;> omega)
theorem col_val {h r : List Int} : ∃ q, S 17 (fun i => col h r i * 256 ^ i) = V17 h * V17 r - 1361129467683753853853498429727072845819 * q := by
  have e1 : S 17 (fun i => col h r i * 256 ^ i) = S 17 fun i => S 17 fun j => 256 ^ i * (h.getD j 0 * rr r i j) := by
    refine S_congr fun i _ => ?_
    show col h r i * 256 ^ i = S 17 _
    rw [S_mul, Int.mul_comm]; rfl
  have e2 : (S 17 fun i => S 17 fun j => 256 ^ i * (h.getD j 0 * rr r i j)) = S 17 fun j => V17 r * (h.getD j 0 * 256 ^ j) + (-1361129467683753853853498429727072845819) * (h.getD j 0 * (64 * S j fun k => r.getD (17 - j + k) 0 * 256 ^ k)) := by
    rw [S_comm]
    refine S_congr fun j hj => ?_
    have : (S 17 fun i => 256 ^ i * (h.getD j 0 * rr r i j)) = h.getD j 0 * S 17 fun i => rr r i j * 256 ^ i := by
      rw [← S_mul]; refine S_congr fun i _ => ?_
      rw [Int.mul_comm, Int.mul_assoc]
    rw [this, rot hj]
    generalize S j _ = c
    generalize V17 r = R
    generalize h.getD j 0 = a
    generalize (256 : Int) ^ j = B
    rw [Int.mul_sub, ← Int.mul_assoc a B R, Int.mul_comm (a * B) R, Int.neg_mul, ← Int.sub_eq_add_neg]
    congr 1
    rw [← Int.mul_assoc, Int.mul_comm a, Int.mul_assoc]
  refine ⟨S 17 fun j => h.getD j 0 * (64 * S j fun k => r.getD (17 - j + k) 0 * 256 ^ k), ?_⟩
  rw [e1, e2, S_add, S_mul, S_mul, Int.neg_mul, ← Int.sub_eq_add_neg, Int.mul_comm]; rfl
theorem times_all {fu : Nat} {h r : List Int} (hf : 17 < fu) (hl : h.length = 17) (rl : r.length = 17) (hh : ∀ i, 0 ≤ h.getD i 0 ∧ h.getD i 0 ≤ 1023) (hr : ∀ i, 0 ≤ r.getD i 0 ∧ r.getD i 0 ≤ 255) :
    ∃ m, fn_portcullisref1_times fu h r = some m ∧ Dg 255 m ∧ ∃ q, V17 m = V17 h * V17 r - 1361129467683753853853498429727072845819 * q := by
  have hg : ∀ i, i < 17 → (fil (col h r) 17 (List.replicate 17 0)).getD i 0 = col h r i := fun i hi => by rw [fil_getD _ (by simp), if_pos hi]
  have hlen : (fil (col h r) 17 (List.replicate 17 0)).length = 17 := by rw [fil_length] <;> simp
  obtain ⟨m, hm, d, q, hq⟩ := carried_all (fu := fu) (l := fil (col h r) 17 (List.replicate 17 0)) (by omega) hlen fun i => by
    by_cases hi : i < 17
    · rw [hg i hi]; have := part_bound hh hr i 17 (by omega); unfold col; omega
    · rw [getD_ge (by omega)]; omega
  refine ⟨m, ?_, d, ?_⟩
  · unfold fn_portcullisref1_times
    refine e_gd hl ?_
    refine e_gd rl ?_
    refine e_bind _ (times_l3 hf hl rl hh hr) ?_
    refine e_bind _ hm ?_
    refine e_gd d.n ?_
    rfl
  · obtain ⟨q2, hq2⟩ := col_val (h := h) (r := r)
    refine ⟨q + q2, ?_⟩
    have : V17 (fil (col h r) 17 (List.replicate 17 0)) = S 17 fun i => col h r i * 256 ^ i := S_congr fun i hi => by rw [hg i hi]
    rw [hq, this, hq2]; omega
/-- the last reduction -/
theorem whole_l1 {fu : Nat} {l : List Int} (hf : 17 < fu) (hl : l.length = 17) (h : ∀ i, 0 ≤ l.getD i 0 ∧ l.getD i 0 ≤ 1125899906842624) :
    itr (fn_portcullisref1_whole_l1 fu) fu (l, 5, 0) = some (fil (md 5 l) 17 l) := by
  refine itr_run' (fun k => (fil (md 5 l) k l, cr 5 l k, (k : Int))) 17 _ (by rw [fil_zero]; rfl) hf ?_ ?_
  · intro k hk rec
    have hb := cr_bound (c0 := 5) (by omega) h k
    have hb2 := h k
    unfold fn_portcullisref1_whole_l1
    refine e_decT (by omega) ?_
    refine e_cT ?_
    refine e_gd (by omega) ?_
    refine e_ldz k rfl (l.getD k 0) (by rw [fil_length] <;> omega) (by rw [fil_getD _ (by omega), if_neg (by omega)]) ?_
    refine e_wi (by omega) ?_
    refine e_nmv (iand_i255 (by omega)) ?_
    refine e_gd (by omega) ?_
    refine e_updz k rfl _ (by rw [fil_length] <;> omega) (fil_set (by omega) rfl) ?_
    refine e_nmv ishr_i8 ?_
    refine e_wi (by omega) ?_
    rfl
  · intro rec
    unfold fn_portcullisref1_whole_l1
    refine e_decF (by omega) ?_
    refine e_cF ?_
    rfl
theorem V17_top (l : List Int) : V17 l = S 16 (fun i => l.getD i 0 * 256 ^ i) + l.getD 16 0 * 340282366920938463463374607431768211456 := rfl
theorem S16_bound {f : Nat → Int} (h : ∀ i, i < 16 → 0 ≤ f i ∧ f i ≤ 255) : 0 ≤ S 16 (fun i => f i * 256 ^ i) ∧ S 16 (fun i => f i * 256 ^ i) < 340282366920938463463374607431768211456 := by
  have m0 := h 0 (by omega)
  have m1 := h 1 (by omega)
  have m2 := h 2 (by omega)
  have m3 := h 3 (by omega)
  have m4 := h 4 (by omega)
  have m5 := h 5 (by omega)
  have m6 := h 6 (by omega)
  have m7 := h 7 (by omega)
  have m8 := h 8 (by omega)
  have m9 := h 9 (by omega)
  have m10 := h 10 (by omega)
  have m11 := h 11 (by omega)
  have m12 := h 12 (by omega)
  have m13 := h 13 (by omega)
  have m14 := h 14 (by omega)
  have m15 := h 15 (by omega)
  simp only [S, Nat.zero_add, Nat.reduceAdd]; omega
theorem whole_all {fu : Nat} {l : List Int} (hf : 17 < fu) (dl : Dg 255 l) :
    ∃ m, fn_portcullisref1_whole fu l = some m ∧ m.length = 17 ∧ (∀ i, 0 ≤ m.getD i 0 ∧ m.getD i 0 ≤ 255) ∧ V17 m = V17 l % 1361129467683753853853498429727072845819 := by
  obtain ⟨m, hm, d, q, hq⟩ := carried_all (fu := fu) (l := l) (by omega) dl.n fun i => by have := dl.all (by omega) i; omega
  have hb : ∀ i, 0 ≤ m.getD i 0 ∧ m.getD i 0 ≤ 1125899906842624 := fun i => by have := d.all (by omega) i; omega
  have hs := cr_sum 5 m 17
  have c17 : cr 5 m 17 = (cr 5 m 16 + m.getD 16 0) / 256 := rfl
  have m16 : md 5 m 16 = (cr 5 m 16 + m.getD 16 0) % 256 := rfl
  have hs16 := cr_sum 5 m 16
  have b1 := S16_bound (f := fun i => m.getD i 0) fun i _ => d.all (by omega) i
  have b2 := S16_bound (f := md 5 m) fun i _ => md_bound i
  have t := d.t
  have cb := cr_bound (c0 := 5) (by omega) hb 16
  have e : (256 : Int) ^ 16 = 340282366920938463463374607431768211456 := by decide
  rw [e] at hs16
  have v := V17_top m
  have hlen : (fil (md 5 m) 17 m).length = 17 := by rw [fil_length] <;> have := d.n <;> omega
  have hg : ∀ i, i < 17 → (fil (md 5 m) 17 m).getD i 0 = md 5 m i := fun i hi => by rw [fil_getD _ (by have := d.n; omega), if_pos hi]
  have hcr : cr 5 m 16 ≤ 1 := by omega
  have h16 := hg 16 (by omega)
  have vf : V17 (fil (md 5 m) 17 m) = S 16 (fun i => md 5 m i * 256 ^ i) + md 5 m 16 * 340282366920938463463374607431768211456 := by
    rw [V17_top, h16, S_congr fun i hi => by rw [hg i (by omega)]]
  by_cases ht : md 5 m 16 ≥ 4
  · refine ⟨(fil (md 5 m) 17 m).set 16 (md 5 m 16 - 4), ?_, ?_, ?_, ?_⟩
    · unfold fn_portcullisref1_whole
      refine e_gd dl.n ?_
      refine e_bind _ hm ?_
      refine e_gd d.n ?_
      refine e_bind _ (whole_l1 hf d.n hb) ?_
      refine e_ldn _ (by omega) h16 ?_
      refine e_decT ht ?_
      refine e_cT ?_
      refine e_ldn _ (by omega) h16 ?_
      refine e_wi (by omega) ?_
      refine e_updn _ (by omega) rfl ?_
      rfl
    · rw [List.length_set, hlen]
    · intro i
      by_cases hi : i = 16
      · subst hi; rw [lset_eq (by omega)]; omega
      · rw [lset_ne (by omega)]
        by_cases hi2 : i < 17
        · rw [hg i hi2]; exact md_bound i
        · rw [getD_ge (by omega)]; omega
    · rw [V17_top, lset_eq (by omega), S_congr fun i hi => by rw [lset_ne (by omega), hg i (by omega)]]
      have hc : (cr 5 m 16 + m.getD 16 0) / 256 = 0 := by omega
      have hW : 0 ≤ S 16 (fun i => md 5 m i * 256 ^ i) + (md 5 m 16 - 4) * 340282366920938463463374607431768211456 ∧ S 16 (fun i => md 5 m i * 256 ^ i) + (md 5 m 16 - 4) * 340282366920938463463374607431768211456 < 1361129467683753853853498429727072845819 := by omega
      have hV : V17 l = S 16 (fun i => md 5 m i * 256 ^ i) + (md 5 m 16 - 4) * 340282366920938463463374607431768211456 + 1361129467683753853853498429727072845819 * (q + 1) := by omega
      rw [hV, Int.add_mul_emod_self_left, Int.emod_eq_of_lt hW.1 hW.2]
  · refine ⟨m, ?_, d.n, d.all (by omega), ?_⟩
    · unfold fn_portcullisref1_whole
      refine e_gd dl.n ?_
      refine e_bind _ hm ?_
      refine e_gd d.n ?_
      refine e_bind _ (whole_l1 hf d.n hb) ?_
      refine e_ldn _ (by omega) h16 ?_
      refine e_decF ht ?_
      refine e_cF ?_
      rfl
    · omega
end Go.Proofs.Ythgbffnahanfhaa

/- The one-time sum of the reference, whole. -/
import Derived.Test.YthgbffnahanfhaaPl4
set_option linter.unusedVariables false
set_option linter.unusedSimpArgs false
namespace Go.Proofs.Ythgbffnahanfhaa
open Go Go.EV
set_option maxRecDepth 20000
theorem byte_of {l : List Int} (w : InK .u8 l) (i : Nat) : 0 ≤ l.getD i 0 ∧ l.getD i 0 ≤ 255 := by
  by_cases h : i < l.length
  · rw [List.getD_eq_getElem?_getD, List.getElem?_eq_getElem h]
    have := w _ (List.getElem_mem h)
    unfold IntKind.has at this
    simp [IntKind.min, IntKind.max, IntKind.signed, IntKind.bits] at this
    simp only [Option.getD_some]; omega
  · rw [getD_ge (by omega)]; omega
theorem getD_set {l : List Int} {i j : Nat} {v : Int} (h : i < l.length) : (l.set i v).getD j 0 = if i = j then v else l.getD j 0 := by
  split
  · rename_i e; subst e; exact lset_eq h
  · exact lset_ne ‹_›
/-- the digits of the key, with the bits taken out -/
def cl (key : List Int) (i : Nat) : Int :=
  if i = 3 ∨ i = 7 ∨ i = 11 ∨ i = 15 then key.getD i 0 % 16 else if i = 4 ∨ i = 8 ∨ i = 12 then key.getD i 0 / 4 * 4 else if i < 16 then key.getD i 0 else 0
theorem cl_bound {key : List Int} (w : InK .u8 key) (i : Nat) : 0 ≤ cl key i ∧ cl key i ≤ 255 := by
  have := byte_of w i
  unfold cl; split
  · omega
  · split
    · omega
    · split <;> omega
theorem poly_l1 {fu : Nat} {key : List Int} (hf : 17 < fu) (hl : key.length = 32) (w : InK .u8 key) :
    itr (fn_portcullisref1_Poly_l1 fu key) fu (List.replicate 17 0, 0) = some (fil (fun i => key.getD i 0) 16 (List.replicate 17 0)) := by
  refine itr_run' (fun k => (fil (fun i => key.getD i 0) k (List.replicate 17 0), (k : Int))) 16 _ (by rw [fil_zero]; rfl) (by omega) ?_ ?_
  · intro k hk rec
    have b := byte_of w k
    unfold fn_portcullisref1_Poly_l1
    refine e_decT (by omega) ?_
    refine e_cT ?_
    refine e_gd (by omega) ?_
    refine e_ldz k rfl (key.getD k 0) (by omega) rfl ?_
    refine e_wi (by omega) ?_
    refine e_gd (by omega) ?_
    refine e_updz k rfl _ (by rw [fil_length] <;> simp <;> omega) (fil_set (by simp; omega) rfl) ?_
    refine e_wi (by omega) ?_
    rfl
  · intro rec
    unfold fn_portcullisref1_Poly_l1
    refine e_decF (by omega) ?_
    refine e_cF ?_
    rfl
def sl2 (l : List Int) : Nat → List Int
  | 0 => l
  | k + 1 => (sl2 l k).set (3 + 4 * k) ((sl2 l k).getD (3 + 4 * k) 0 % 16)
def sl3 (l : List Int) : Nat → List Int
  | 0 => l
  | k + 1 => (sl3 l k).set (4 + 4 * k) ((sl3 l k).getD (4 + 4 * k) 0 / 4 * 4)
theorem sl2_length (l : List Int) (k : Nat) : (sl2 l k).length = l.length := by
  induction k with
  | zero => rfl
  | succ k ih => unfold sl2; rw [List.length_set, ih]
theorem sl3_length (l : List Int) (k : Nat) : (sl3 l k).length = l.length := by
  induction k with
  | zero => rfl
  | succ k ih => unfold sl3; rw [List.length_set, ih]
theorem sl2_byte {l : List Int} (h : ∀ i, 0 ≤ l.getD i 0 ∧ l.getD i 0 ≤ 255) (hl : l.length = 17) {k : Nat} (hk : k ≤ 3 + 1) : ∀ i, 0 ≤ (sl2 l k).getD i 0 ∧ (sl2 l k).getD i 0 ≤ 255 := by
  induction k with
  | zero => exact h
  | succ k ih =>
    intro i
    have := ih (by omega)
    unfold sl2
    rw [getD_set (by rw [sl2_length]; omega)]
    split
    · have := this (3 + 4 * k); omega
    · exact this i
theorem sl3_byte {l : List Int} (h : ∀ i, 0 ≤ l.getD i 0 ∧ l.getD i 0 ≤ 255) (hl : l.length = 17) {k : Nat} (hk : k ≤ 3) : ∀ i, 0 ≤ (sl3 l k).getD i 0 ∧ (sl3 l k).getD i 0 ≤ 255 := by
  induction k with
  | zero => exact h
  | succ k ih =>
    intro i
    have := ih (by omega)
    unfold sl3
    rw [getD_set (by rw [sl3_length]; omega)]
    split
    · have := this (4 + 4 * k); omega
    · exact this i
theorem poly_l2 {fu : Nat} {l : List Int} (hf : 17 < fu) (hl : l.length = 17) (h : ∀ i, 0 ≤ l.getD i 0 ∧ l.getD i 0 ≤ 255) :
    itr (fn_portcullisref1_Poly_l2 fu) fu (l, 3) = some (sl2 l 4) := by
  refine itr_run' (fun k => (sl2 l k, ((3 + 4 * k : Nat) : Int))) 4 _ rfl (by omega) ?_ ?_
  · intro k hk rec
    have b := sl2_byte h hl (k := k) (by omega) (3 + 4 * k)
    unfold fn_portcullisref1_Poly_l2
    refine e_decT (by omega) ?_
    refine e_cT ?_
    refine e_gd (by omega) ?_
    refine e_ldz (3 + 4 * k) rfl _ (by rw [sl2_length]; omega) rfl ?_
    refine e_nmv (iand_i15 (by omega)) ?_
    refine e_gd (by omega) ?_
    refine e_updz (3 + 4 * k) rfl (sl2 l (k + 1)) (by rw [sl2_length]; omega) rfl ?_
    refine e_wi (by omega) ?_
    congr 1
  · intro rec
    unfold fn_portcullisref1_Poly_l2
    refine e_decF (by omega) ?_
    refine e_cF ?_
    rfl
theorem poly_l3 {fu : Nat} {l : List Int} (hf : 17 < fu) (hl : l.length = 17) (h : ∀ i, 0 ≤ l.getD i 0 ∧ l.getD i 0 ≤ 255) :
    itr (fn_portcullisref1_Poly_l3 fu) fu (l, 4) = some (sl3 l 3) := by
  refine itr_run' (fun k => (sl3 l k, ((4 + 4 * k : Nat) : Int))) 3 _ rfl (by omega) ?_ ?_
  · intro k hk rec
    have b := sl3_byte h hl (k := k) (by omega) (4 + 4 * k)
    unfold fn_portcullisref1_Poly_l3
    refine e_decT (by omega) ?_
    refine e_cT ?_
    refine e_gd (by omega) ?_
    refine e_ldz (4 + 4 * k) rfl _ (by rw [sl3_length]; omega) rfl ?_
    refine e_nmv (iand_i252 (by omega)) ?_
    refine e_gd (by omega) ?_
    refine e_updz (4 + 4 * k) rfl (sl3 l (k + 1)) (by rw [sl3_length]; omega) rfl ?_
    refine e_wi (by omega) ?_
    congr 1
  · intro rec
    unfold fn_portcullisref1_Poly_l3
    refine e_decF (by omega) ?_
    refine e_cF ?_
    rfl
theorem sl2_get {l : List Int} (hl : l.length = 17) {k : Nat} (hk : k ≤ 3 + 1) (i : Nat) : (sl2 l k).getD i 0 = if i % 4 = 3 ∧ i < 3 + 4 * k then l.getD i 0 % 16 else l.getD i 0 := by
  induction k with
  | zero => rw [if_neg (by omega)]; rfl
  | succ k ih =>
    have ih := ih (by omega)
    by_cases e : 3 + 4 * k = i
    · subst e; unfold sl2
      rw [lset_eq (by rw [sl2_length]; omega), ih, if_neg (by omega), if_pos (by omega)]
    · unfold sl2
      rw [lset_ne e, ih]
      have : (i % 4 = 3 ∧ i < 3 + 4 * k) ↔ (i % 4 = 3 ∧ i < 3 + 4 * (k + 1)) := by omega
      simp only [this]
theorem sl3_get {l : List Int} (hl : l.length = 17) {k : Nat} (hk : k ≤ 3) (i : Nat) : (sl3 l k).getD i 0 = if i % 4 = 0 ∧ 4 ≤ i ∧ i < 4 + 4 * k then l.getD i 0 / 4 * 4 else l.getD i 0 := by
  induction k with
  | zero => rw [if_neg (by omega)]; rfl
  | succ k ih =>
    have ih := ih (by omega)
    by_cases e : 4 + 4 * k = i
    · subst e; unfold sl3
      rw [lset_eq (by rw [sl3_length]; omega), ih, if_neg (by omega), if_pos (by omega)]
    · unfold sl3
      rw [lset_ne e, ih]
      have : (i % 4 = 0 ∧ 4 ≤ i ∧ i < 4 + 4 * k) ↔ (i % 4 = 0 ∧ 4 ≤ i ∧ i < 4 + 4 * (k + 1)) := by omega
      simp only [this]
theorem cl_get {key : List Int} {i : Nat} (hi : i < 17) : (sl3 (sl2 (fil (fun i => key.getD i 0) 16 (List.replicate 17 0)) 4) 3).getD i 0 = cl key i := by
  have hl : (fil (fun i => key.getD i 0) 16 (List.replicate 17 0)).length = 17 := by rw [fil_length] <;> simp
  have hg : (fil (fun i => key.getD i 0) 16 (List.replicate 17 0)).getD i 0 = if i < 16 then key.getD i 0 else 0 := by
    rw [fil_getD _ (by simp)]; split
    · rfl
    · rw [getD_rep (by omega)]
  rw [sl3_get (by rw [sl2_length, hl]) (by omega), sl2_get hl (by omega), hg]
  unfold cl
  by_cases h1 : i = 3 ∨ i = 7 ∨ i = 11 ∨ i = 15
  · rw [if_pos h1, if_neg (by omega), if_pos (by omega), if_pos (by omega)]
  · rw [if_neg h1]
    by_cases h2 : i = 4 ∨ i = 8 ∨ i = 12
    · rw [if_pos h2, if_pos (by omega), if_neg (by omega), if_pos (by omega)]
    · rw [if_neg h2, if_neg (by omega), if_neg (by omega)]
theorem poly_l4 {fu : Nat} {b : List Int} {m : Nat} (hf : 17 < fu) (hl : 16 * m + 16 ≤ b.length) (w : InK .u8 b) (hm : m < 1000000) :
    itr (fn_portcullisref1_Poly_l4 fu b ((16 * m : Nat) : Int) 16) fu (List.replicate 17 0, 0) = some (fil (fun i => b.getD (16 * m + i) 0) 16 (List.replicate 17 0)) := by
  refine itr_run' (fun k => (fil (fun i => b.getD (16 * m + i) 0) k (List.replicate 17 0), (k : Int))) 16 _ (by rw [fil_zero]; rfl) (by omega) ?_ ?_
  · intro k hk rec
    have b1 := byte_of w (16 * m + k)
    unfold fn_portcullisref1_Poly_l4
    refine e_decT (by omega) ?_
    refine e_cT ?_
    refine e_wi (by omega) ?_
    refine e_gd (by omega) ?_
    refine e_ldz (16 * m + k) (by omega) (b.getD (16 * m + k) 0) (by omega) rfl ?_
    refine e_wi (by omega) ?_
    refine e_gd (by omega) ?_
    refine e_updz k rfl _ (by rw [fil_length] <;> simp <;> omega) (fil_set (by simp; omega) rfl) ?_
    refine e_wi (by omega) ?_
    rfl
  · intro rec
    unfold fn_portcullisref1_Poly_l4
    refine e_decF (by omega) ?_
    refine e_cF ?_
    rfl
theorem poly_l5 {fu : Nat} {h l : List Int} (hf : 17 < fu) (hl : h.length = 17) (ll : l.length = 17) (hh : ∀ i, 0 ≤ h.getD i 0 ∧ h.getD i 0 ≤ 255) (hr : ∀ i, 0 ≤ l.getD i 0 ∧ l.getD i 0 ≤ 255) :
    itr (fn_portcullisref1_Poly_l5 fu l) fu (h, 0) = some (fil (fun i => h.getD i 0 + l.getD i 0) 17 h) := by
  refine itr_run' (fun k => (fil (fun i => h.getD i 0 + l.getD i 0) k h, (k : Int))) 17 _ (by rw [fil_zero]; rfl) (by omega) ?_ ?_
  · intro k hk rec
    have b1 := hh k
    have b2 := hr k
    unfold fn_portcullisref1_Poly_l5
    refine e_decT (by omega) ?_
    refine e_cT ?_
    refine e_gd (by omega) ?_
    refine e_ldz k rfl (h.getD k 0) (by rw [fil_length] <;> omega) (by rw [fil_getD _ (by omega), if_neg (by omega)]) ?_
    refine e_gd (by omega) ?_
    refine e_ldz k rfl (l.getD k 0) (by omega) rfl ?_
    refine e_wi (by omega) ?_
    refine e_gd (by omega) ?_
    refine e_updz k rfl _ (by rw [fil_length] <;> omega) (fil_set (by omega) rfl) ?_
    refine e_wi (by omega) ?_
    rfl
  · intro rec
    unfold fn_portcullisref1_Poly_l5
    refine e_decF (by omega) ?_
    refine e_cF ?_
    rfl
def blk (b : List Int) (m : Nat) : Int := S 16 (fun i => b.getD (16 * m + i) 0 * 256 ^ i) + 340282366920938463463374607431768211456
def RV (key : List Int) : Int := S 16 fun i => cl key i * 256 ^ i
def PP (key b : List Int) : Nat → Int
  | 0 => 0
  | m + 1 => (PP key b m + blk b m) * RV key
theorem poly_l6 {fu : Nat} {key b r : List Int} {n : Nat} (hn : n < 100000) (hf : 17 < fu) (hf2 : n < fu) (rl : r.length = 17) (wk : InK .u8 key) (hr : ∀ i, i < 17 → r.getD i 0 = cl key i) (hl : b.length = 16 * n) (w : InK .u8 b) :
    ∃ o, (Dg 255 o ∧ ∃ q, V17 o = PP key b n - 1361129467683753853853498429727072845819 * q) ∧ itr (fn_portcullisref1_Poly_l6 fu b r) fu (List.replicate 17 0, 0) = some o := by
  have hrb : ∀ i, 0 ≤ r.getD i 0 ∧ r.getD i 0 ≤ 255 := fun i => by
    by_cases hi : i < 17
    · rw [hr i hi]; exact cl_bound wk i
    · rw [getD_ge (by omega)]; omega
  have hRV : V17 r = RV key := by
    rw [V17_top, hr 16 (by omega), S_congr fun i hi => by rw [hr i (by omega)]]
    have : cl key 16 = 0 := by simp [cl]
    rw [this]; unfold RV; omega
  refine itr_inv n (fun k z => Dg 255 z.1 ∧ z.2 = ((16 * k : Nat) : Int) ∧ ∃ q, V17 z.1 = PP key b k - 1361129467683753853853498429727072845819 * q) _ ?_ ?_ hf2 ?_
  · rintro k ⟨h, x⟩ hk ⟨dh, hx, q, hq⟩
    dsimp only at dh hx hq
    subst hx
    have hg1 : ∀ i, ((fil (fun i => b.getD (16 * k + i) 0) 16 (List.replicate 17 0)).set 16 1).getD i 0 = if i < 16 then b.getD (16 * k + i) 0 else if i = 16 then 1 else 0 := by
      intro i
      rw [getD_set (by rw [fil_length] <;> simp)]
      split
      · rename_i e; subst e; rfl
      · rw [fil_getD _ (by simp)]; split
        · rfl
        · rw [if_neg (by omega), getD_ge (by simp; omega)]
    have hl1 : ((fil (fun i => b.getD (16 * k + i) 0) 16 (List.replicate 17 0)).set 16 1).length = 17 := by rw [List.length_set, fil_length] <;> simp
    have hb1 : ∀ i, 0 ≤ ((fil (fun i => b.getD (16 * k + i) 0) 16 (List.replicate 17 0)).set 16 1).getD i 0 ∧ ((fil (fun i => b.getD (16 * k + i) 0) 16 (List.replicate 17 0)).set 16 1).getD i 0 ≤ 255 := fun i => by
      rw [hg1]; split
      · exact byte_of w _
      · split <;> omega
    have hx5 := poly_l5 (fu := fu) hf dh.n hl1 (dh.all (by omega)) hb1
    have hv1 : V17 ((fil (fun i => b.getD (16 * k + i) 0) 16 (List.replicate 17 0)).set 16 1) = blk b k := by
      rw [V17_top, hg1 16, S_congr fun i hi => by rw [hg1 i, if_pos hi]]; rfl
    obtain ⟨B, hB⟩ : ∃ B, (fil (fun i => b.getD (16 * k + i) 0) 16 (List.replicate 17 0)).set 16 1 = B := ⟨_, rfl⟩
    rw [hB] at hl1 hx5 hv1
    simp only [hB] at hb1
    have hl2 : (fil (fun i => h.getD i 0 + B.getD i 0) 17 h).length = 17 := by rw [fil_length] <;> have := dh.n <;> omega
    have hg2 : ∀ i, (fil (fun i => h.getD i 0 + B.getD i 0) 17 h).getD i 0 = if i < 17 then h.getD i 0 + B.getD i 0 else 0 := fun i => by
      rw [fil_getD _ (by have := dh.n; omega)]; split
      · rfl
      · rw [getD_ge (by have := dh.n; omega)]
    have hv2 : V17 (fil (fun i => h.getD i 0 + B.getD i 0) 17 h) = V17 h + V17 B := by
      unfold V17
      rw [← S_add]; refine S_congr fun i hi => ?_
      rw [hg2, if_pos hi, Int.add_mul]
    obtain ⟨m, hm, dm, q2, hq2⟩ := times_all (fu := fu) hf hl2 rl (fun i => by
      rw [hg2]; split
      · have := dh.all (by omega) i; have := hb1 i; omega
      · omega) hrb
    refine ⟨(m, ((16 * (k + 1) : Nat) : Int)), ⟨dm, rfl, ⟨q * RV key + q2, ?_⟩⟩, ?_⟩
    · show V17 m = (PP key b k + blk b k) * RV key - _
      rw [hq2, hv2, hRV, hq, hv1, Int.mul_add, ← Int.mul_assoc]
      generalize RV key = R
      rw [Int.add_mul, Int.sub_mul, Int.add_mul]; omega
    · intro rec
      unfold fn_portcullisref1_Poly_l6
      refine e_decT (by omega) ?_
      refine e_cT ?_
      refine e_wi (by omega) ?_
      refine e_bind 16 ?_ ?_
      · by_cases h16 : (b.length : Int) - ((16 * k : Nat) : Int) > 16
        · refine e_decT h16 ?_
          rfl
        · refine e_decF h16 ?_
          refine e_cF ?_
          congr 1; omega
      refine e_bind _ (poly_l4 hf (by omega) w (by omega)) ?_
      refine e_gd (by omega) ?_
      refine e_updz 16 rfl B (by rw [fil_length] <;> simp) hB ?_
      refine e_bind _ hx5 ?_
      refine e_bind _ hm ?_
      refine e_gd dm.n ?_
      refine e_wi (by omega) ?_
      congr 1
  · rintro ⟨h, x⟩ ⟨dh, hx, q, hq⟩
    dsimp only at dh hx hq
    subst hx
    refine ⟨h, ⟨dh, q, hq⟩, fun rec => ?_⟩
    unfold fn_portcullisref1_Poly_l6
    refine e_decF (by omega) ?_
    refine e_cF ?_
    rfl
  · refine ⟨⟨by simp, by simp, ?_, by simp⟩, rfl, 0, ?_⟩
    · intro i h1 h2; rw [getD_rep (by omega)]; omega
    · simp [V17, S, PP]
theorem poly_l7 {fu : Nat} {key l : List Int} (hf : 17 < fu) (hk : key.length = 32) (wk : InK .u8 key) (hl : l.length = 17) (hb : ∀ i, 0 ≤ l.getD i 0 ∧ l.getD i 0 ≤ 255) :
    ∃ o, (o.length = 16 ∧ (∀ i, 0 ≤ o.getD i 0 ∧ o.getD i 0 ≤ 255) ∧ S 16 (fun i => o.getD i 0 * 256 ^ i) = (S 16 (fun i => l.getD i 0 * 256 ^ i) + S 16 (fun i => key.getD (16 + i) 0 * 256 ^ i)) % 340282366920938463463374607431768211456) ∧
    itr (fn_portcullisref1_Poly_l7 fu key l) fu (List.replicate 16 0, 0, 0) = some o := by
  have hs : ∀ k, k ≤ 16 → (fil (fun i => l.getD i 0 + key.getD (16 + i) 0) 16 (List.replicate 17 0)).length = 17 := fun k _ => by rw [fil_length] <;> simp
  obtain ⟨L, hL⟩ : ∃ L, fil (fun i => l.getD i 0 + key.getD (16 + i) 0) 16 (List.replicate 17 0) = L := ⟨_, rfl⟩
  have hg : ∀ i, i < 16 → L.getD i 0 = l.getD i 0 + key.getD (16 + i) 0 := fun i hi => by rw [← hL, fil_getD _ (by simp), if_pos hi]
  have hb2 : ∀ i, 0 ≤ L.getD i 0 ∧ L.getD i 0 ≤ 1125899906842624 := fun i => by
    by_cases hi : i < 16
    · rw [hg i hi]; have := hb i; have := byte_of wk (16 + i); omega
    · rw [← hL, fil_getD _ (by simp), if_neg hi]
      by_cases h17 : i < 17
      · rw [getD_rep h17]; omega
      · rw [getD_ge (by simp; omega)]; omega
  refine ⟨fil (md 0 L) 16 (List.replicate 16 0), ⟨by rw [fil_length] <;> simp, ?_, ?_⟩, ?_⟩
  · intro i
    rw [fil_getD _ (by simp)]; split
    · exact md_bound i
    · rw [getD_ge (by simp; omega)]; omega
  · have h1 := cr_sum 0 L 16
    have h2 : S 16 (fun i => L.getD i 0 * 256 ^ i) = S 16 (fun i => l.getD i 0 * 256 ^ i) + S 16 (fun i => key.getD (16 + i) 0 * 256 ^ i) := by
      rw [← S_add]; exact S_congr fun i hi => by rw [hg i hi, Int.add_mul]
    have h3 : S 16 (fun i => (fil (md 0 L) 16 (List.replicate 16 0)).getD i 0 * 256 ^ i) = S 16 fun i => md 0 L i * 256 ^ i := S_congr fun i hi => by rw [fil_getD _ (by simp), if_pos hi]
    have h4 := S16_bound (f := md 0 L) fun i _ => md_bound i
    have e : (256 : Int) ^ 16 = 340282366920938463463374607431768211456 := by decide
    rw [e, h2] at h1
    rw [h3]; omega
  · refine itr_run' (fun k => (fil (md 0 L) k (List.replicate 16 0), cr 0 L k, (k : Int))) 16 _ (by rw [fil_zero]; rfl) (by omega) ?_ ?_
    · intro k hk' rec
      have b1 := cr_bound (c0 := 0) (by omega) hb2 k
      have b2 := hb k
      have b3 := byte_of wk (16 + k)
      have b4 := hg k hk'
      have e1 : md 0 L k = (cr 0 L k + l.getD k 0 + key.getD (16 + k) 0) % 256 := by unfold md; rw [b4]; congr 1; omega
      have e2 : cr 0 L (k + 1) = (cr 0 L k + l.getD k 0 + key.getD (16 + k) 0) / 256 := by show (cr 0 L k + L.getD k 0) / 256 = _; rw [b4]; congr 1; omega
      unfold fn_portcullisref1_Poly_l7
      refine e_decT (by omega) ?_
      refine e_cT ?_
      refine e_gd (by omega) ?_
      refine e_ldz k rfl (l.getD k 0) (by omega) rfl ?_
      refine e_wi (by omega) ?_
      refine e_wi (by omega) ?_
      refine e_gd (by omega) ?_
      refine e_ldz (16 + k) (by omega) (key.getD (16 + k) 0) (by omega) rfl ?_
      refine e_wi (by omega) ?_
      refine e_wi (by omega) ?_
      refine e_nmv (iand_i255 (by omega)) ?_
      refine e_wu8 (by omega) ?_
      refine e_gd (by omega) ?_
      refine e_updz k rfl _ (by rw [fil_length] <;> simp <;> omega) (fil_set (by simp; omega) e1.symm) ?_
      refine e_nmv ishr_i8 ?_
      refine e_wi (by omega) ?_
      show rec (_, _, _) = rec (_, cr 0 L (k + 1), _)
      rw [e2]; rfl
    · intro rec
      unfold fn_portcullisref1_Poly_l7
      refine e_decF (by omega) ?_
      refine e_cF ?_
      rfl
theorem ref_poly {fu : Nat} {key b : List Int} {n : Nat} (hn : n < 100000) (hf : 17 < fu) (hf2 : n < fu) (hk : key.length = 32) (wk : InK .u8 key) (hl : b.length = 16 * n) (w : InK .u8 b) :
    ∃ o, (o.length = 16 ∧ (∀ i, 0 ≤ o.getD i 0 ∧ o.getD i 0 ≤ 255) ∧ S 16 (fun i => o.getD i 0 * 256 ^ i) = (PP key b n % 1361129467683753853853498429727072845819 + S 16 (fun i => key.getD (16 + i) 0 * 256 ^ i)) % 340282366920938463463374607431768211456) ∧
    fn_portcullisref1_Poly fu key b = some o := by
  have l1 : (fil (fun i => key.getD i 0) 16 (List.replicate 17 0)).length = 17 := by rw [fil_length] <;> simp
  have b1 : ∀ i, 0 ≤ (fil (fun i => key.getD i 0) 16 (List.replicate 17 0)).getD i 0 ∧ (fil (fun i => key.getD i 0) 16 (List.replicate 17 0)).getD i 0 ≤ 255 := fun i => by
    rw [fil_getD _ (by simp)]; split
    · exact byte_of wk i
    · by_cases h17 : i < 17
      · rw [getD_rep h17]; omega
      · rw [getD_ge (by simp; omega)]; omega
  have l2 : (sl2 (fil (fun i => key.getD i 0) 16 (List.replicate 17 0)) 4).length = 17 := by rw [sl2_length, l1]
  have l3 : (sl3 (sl2 (fil (fun i => key.getD i 0) 16 (List.replicate 17 0)) 4) 3).length = 17 := by rw [sl3_length, l2]
  obtain ⟨h, ⟨dh, q, hq⟩, h6⟩ := poly_l6 (fu := fu) (n := n) hn hf hf2 l3 wk (fun i hi => cl_get hi) hl w
  obtain ⟨m, hm, lm, bm, vm⟩ := whole_all hf dh
  obtain ⟨o, ⟨lo, bo, vo⟩, h7⟩ := poly_l7 hf hk wk lm bm
  refine ⟨o, ⟨lo, bo, ?_⟩, ?_⟩
  · rw [vo]
    have e1 := V17_top m
    have e2 : PP key b n % 1361129467683753853853498429727072845819 = V17 m := by
      rw [vm, hq, Int.sub_eq_add_neg, ← Int.mul_neg, Int.add_mul_emod_self_left]
    rw [e2]; omega
  · unfold fn_portcullisref1_Poly
    refine e_gd hk ?_
    refine e_bind _ (poly_l1 hf hk wk) ?_
    refine e_bind _ (poly_l2 hf l1 b1) ?_
    refine e_bind _ (poly_l3 hf l2 (sl2_byte b1 l1 (by omega))) ?_
    refine e_bind _ h6 ?_
    refine e_bind _ hm ?_
    refine e_gd lm ?_
    refine e_bind _ h7 ?_
    rfl
end Go.Proofs.Ythgbffnahanfhaa

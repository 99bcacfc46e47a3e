/- The stream of both, block by block. -/
import Derived.Test.YthgbffnahanfhaaPl9
set_option linter.unusedVariables false
set_option linter.unusedSimpArgs false
namespace Go.Proofs.Ythgbffnahanfhaa
open Go Go.EV
set_option maxRecDepth 20000
theorem u32_range (x : Int) : 0 ≤ IntKind.u32.wrap x ∧ IntKind.u32.wrap x < 4294967296 := by rw [w_u32']; omega
theorem u8_range (x : Int) : 0 ≤ IntKind.u8.wrap x ∧ IntKind.u8.wrap x ≤ 255 := by rw [w_u8']; omega
theorem rot16 {fu : Nat} {x : Int} : fn_math_bits_RotateLeft32 fu x 16 = fn_portcullisref1_rol fu x 16 := by
  unfold fn_math_bits_RotateLeft32 fn_portcullisref1_rol
  have e1 : IntKind.u64.wrap 16 = 16 := by decide
  have e2 : iand .u64 16 31 = 16 := by decide
  simp only [nm, e1, e2]
theorem rot12 {fu : Nat} {x : Int} : fn_math_bits_RotateLeft32 fu x 12 = fn_portcullisref1_rol fu x 12 := by
  unfold fn_math_bits_RotateLeft32 fn_portcullisref1_rol
  have e1 : IntKind.u64.wrap 12 = 12 := by decide
  have e2 : iand .u64 12 31 = 12 := by decide
  simp only [nm, e1, e2]
theorem rot8 {fu : Nat} {x : Int} : fn_math_bits_RotateLeft32 fu x 8 = fn_portcullisref1_rol fu x 8 := by
  unfold fn_math_bits_RotateLeft32 fn_portcullisref1_rol
  have e1 : IntKind.u64.wrap 8 = 8 := by decide
  have e2 : iand .u64 8 31 = 8 := by decide
  simp only [nm, e1, e2]
theorem rot7 {fu : Nat} {x : Int} : fn_math_bits_RotateLeft32 fu x 7 = fn_portcullisref1_rol fu x 7 := by
  unfold fn_math_bits_RotateLeft32 fn_portcullisref1_rol
  have e1 : IntKind.u64.wrap 7 = 7 := by decide
  have e2 : iand .u64 7 31 = 7 := by decide
  simp only [nm, e1, e2]
theorem quarter_eq {fu : Nat} {s : List Int} {a b c d : Int} : fn_chacha_quarter fu s a b c d = fn_portcullisref1_quarter fu s a b c d := by
  unfold fn_chacha_quarter fn_portcullisref1_quarter
  simp only [rot16, rot12, rot8, rot7]
theorem rol_some {fu : Nat} {x : Int} {n : Int} (hn : 0 ≤ n) (hn2 : n < 32) : ∃ v, fn_portcullisref1_rol fu x n = some v := by
  apply Exists.intro
  unfold fn_portcullisref1_rol
  refine e_gd hn ?_
  refine e_nm ?_
  refine e_wu (by omega) ?_
  refine e_gd (by omega) ?_
  refine e_nm ?_
  refine e_nm ?_
  rfl
theorem quarter_some {fu : Nat} {s : List Int} {a b c d : Int} (hs : s.length = 16) (ha : 0 ≤ a ∧ a < 16) (hb : 0 ≤ b ∧ b < 16) (hc : 0 ≤ c ∧ c < 16) (hd : 0 ≤ d ∧ d < 16) :
    ∃ l, fn_portcullisref1_quarter fu s a b c d = some l ∧ l.length = 16 := by
  have key : ∃ l, l.length = 16 ∧ fn_portcullisref1_quarter fu s a b c d = some l := by
    unfold fn_portcullisref1_quarter
    have stp : ∀ (l : List Int) (i j : Int) (F : List Int → Int → Option (List Int)), l.length = 16 → (0 ≤ i ∧ i < 16) → (0 ≤ j ∧ j < 16) → (∀ l' v, l'.length = 16 → ∃ m, m.length = 16 ∧ F l' v = some m) → ∀ v, ∃ m, m.length = 16 ∧ (upd l i.toNat v).bind (fun l' => F l' v) = some m := by
      intro l i j F hl hi hj hF v
      obtain ⟨m, hm, h⟩ := hF (l.set i.toNat v) v (by rw [List.length_set, hl])
      exact ⟨m, hm, e_upd (by omega) h⟩
    have ld : ∀ (l : List Int) (i : Int) (F : Int → Option (List Int)), l.length = 16 → (0 ≤ i ∧ i < 16) → (∀ v, ∃ m, m.length = 16 ∧ F v = some m) → ∃ m, m.length = 16 ∧ (gd (0 ≤ i ∧ i < ((16 : Nat) : Int)) ((l[i.toNat]?).bind F)) = some m := by
      intro l i F hl hi hF
      obtain ⟨m, hm, h⟩ := hF (l.getD i.toNat 0)
      exact ⟨m, hm, e_gd (by omega) (e_ld (by omega) h)⟩
    have st : ∀ (l : List Int) (i : Int) (v : Int) (F : List Int → Option (List Int)), l.length = 16 → (0 ≤ i ∧ i < 16) → (∀ l', l'.length = 16 → ∃ m, m.length = 16 ∧ F l' = some m) → ∃ m, m.length = 16 ∧ (gd (0 ≤ i ∧ i < ((16 : Nat) : Int)) ((upd l i.toNat v).bind F)) = some m := by
      intro l i v F hl hi hF
      obtain ⟨m, hm, h⟩ := hF (l.set i.toNat v) (by rw [List.length_set, hl])
      exact ⟨m, hm, e_gd (by omega) (e_upd (by omega) h)⟩
    have rl : ∀ (x n : Int) (F : Int → Option (List Int)), 0 ≤ n → n < 32 → (∀ v, ∃ m, m.length = 16 ∧ F v = some m) → ∃ m, m.length = 16 ∧ ((fn_portcullisref1_rol fu x n).bind F) = some m := by
      intro x n F h0 h1 hF
      obtain ⟨v, hv⟩ := rol_some (fu := fu) (x := x) h0 h1
      obtain ⟨m, hm, h⟩ := hF v
      exact ⟨m, hm, e_bind v hv h⟩
    have nn : ∀ (x : Int) (F : Int → Option (List Int)), (∃ m, m.length = 16 ∧ F x = some m) → ∃ m, m.length = 16 ∧ (nm x F) = some m := fun x F h => h
    have g0 : ∀ (F : Option (List Int)), (∃ m, m.length = 16 ∧ F = some m) → ∃ m, m.length = 16 ∧ (gd (s.length = 16) F) = some m := by
      rintro F ⟨m, hm, h⟩; exact ⟨m, hm, e_gd hs h⟩
    refine g0 _ ?_
    refine ld _ _ _ hs ha fun _ => ld _ _ _ hs hb fun _ => nn _ _ <| st _ _ _ _ hs ha fun l7 h7 => ld _ _ _ h7 hd fun _ => ld _ _ _ h7 ha fun _ => nn _ _ <| rl _ _ _ (by omega) (by omega) fun _ => st _ _ _ _ h7 hd fun l19 h19 => ?_
    refine ld _ _ _ h19 hc fun _ => ld _ _ _ h19 hd fun _ => nn _ _ <| st _ _ _ _ h19 hc fun l27 h27 => ld _ _ _ h27 hb fun _ => ld _ _ _ h27 hc fun _ => nn _ _ <| rl _ _ _ (by omega) (by omega) fun _ => st _ _ _ _ h27 hb fun l39 h39 => ?_
    refine ld _ _ _ h39 ha fun _ => ld _ _ _ h39 hb fun _ => nn _ _ <| st _ _ _ _ h39 ha fun l47 h47 => ld _ _ _ h47 hd fun _ => ld _ _ _ h47 ha fun _ => nn _ _ <| rl _ _ _ (by omega) (by omega) fun _ => st _ _ _ _ h47 hd fun l59 h59 => ?_
    refine ld _ _ _ h59 hc fun _ => ld _ _ _ h59 hd fun _ => nn _ _ <| st _ _ _ _ h59 hc fun l67 h67 => ld _ _ _ h67 hb fun _ => ld _ _ _ h67 hc fun _ => nn _ _ <| rl _ _ _ (by omega) (by omega) fun _ => st _ _ _ _ h67 hb fun l79 h79 => ?_
    exact ⟨l79, h79, rfl⟩
  obtain ⟨l, h1, h2⟩ := key
  exact ⟨l, h2, h1⟩
noncomputable def qq (s : List Int) (a b c d : Int) : List Int := (fn_portcullisref1_quarter 0 s a b c d).getD []
theorem qq_some {fu : Nat} {s : List Int} {a b c d : Int} (hs : s.length = 16) (ha : 0 ≤ a ∧ a < 16) (hb : 0 ≤ b ∧ b < 16) (hc : 0 ≤ c ∧ c < 16) (hd : 0 ≤ d ∧ d < 16) :
    fn_portcullisref1_quarter fu s a b c d = some (qq s a b c d) ∧ (qq s a b c d).length = 16 := by
  obtain ⟨l, h, hl⟩ := quarter_some (fu := 0) hs ha hb hc hd
  have e : qq s a b c d = l := by unfold qq; rw [h]; rfl
  rw [e]; exact ⟨h, hl⟩
noncomputable def co (l : List Int) : Nat → List Int
  | 0 => l
  | k + 1 => qq (co l k) (k : Int) (4 + (k : Int)) (8 + (k : Int)) (12 + (k : Int))
noncomputable def di (l : List Int) : Nat → List Int
  | 0 => l
  | k + 1 => qq (di l k) (k : Int) (4 + ((k : Int) + 1) % 4) (8 + ((k : Int) + 2) % 4) (12 + ((k : Int) + 3) % 4)
theorem co_length {l : List Int} (hl : l.length = 16) {k : Nat} (hk : k ≤ 4) : (co l k).length = 16 := by
  induction k with
  | zero => exact hl
  | succ k ih => unfold co; exact (qq_some (fu := 0) (ih (by omega)) (by omega) (by omega) (by omega) (by omega)).2
theorem di_length {l : List Int} (hl : l.length = 16) {k : Nat} (hk : k ≤ 4) : (di l k).length = 16 := by
  induction k with
  | zero => exact hl
  | succ k ih => unfold di; exact (qq_some (fu := 0) (ih (by omega)) (by omega) (by omega) (by omega) (by omega)).2
theorem block_l1 {fu : Nat} {l : List Int} (hf : 40 < fu) (hl : l.length = 16) : itr (fn_chacha_Block_l1 fu) fu (l, 0) = some (co l 4) := by
  refine itr_run' (fun k => (co l k, (k : Int))) 4 (co l 4) rfl (by omega) ?_ ?_
  · intro k hk rec
    have h := qq_some (fu := fu) (a := (k : Int)) (b := 4 + (k : Int)) (c := 8 + (k : Int)) (d := 12 + (k : Int)) (co_length hl (k := k) (by omega)) (by omega) (by omega) (by omega) (by omega)
    unfold fn_chacha_Block_l1
    refine e_decT (by omega) ?_
    refine e_cT ?_
    refine e_wi (by omega) ?_
    refine e_wi (by omega) ?_
    refine e_wi (by omega) ?_
    refine e_bind _ (quarter_eq.trans h.1) ?_
    refine e_gd h.2 ?_
    refine e_wi (by omega) ?_
    rfl
  · intro rec
    unfold fn_chacha_Block_l1
    refine e_decF (by omega) ?_
    refine e_cF ?_
    rfl
theorem block_l2 {fu : Nat} {l : List Int} (hf : 40 < fu) (hl : l.length = 16) : itr (fn_chacha_Block_l2 fu) fu (l, 0) = some (di l 4) := by
  refine itr_run' (fun k => (di l k, (k : Int))) 4 (di l 4) rfl (by omega) ?_ ?_
  · intro k hk rec
    have h := qq_some (fu := fu) (a := (k : Int)) (b := 4 + ((k : Int) + 1) % 4) (c := 8 + ((k : Int) + 2) % 4) (d := 12 + ((k : Int) + 3) % 4) (di_length hl (k := k) (by omega)) (by omega) (by omega) (by omega) (by omega)
    unfold fn_chacha_Block_l2
    refine e_decT (by omega) ?_
    refine e_cT ?_
    refine e_wi (by omega) ?_
    refine e_mod (by omega) ?_
    refine e_wi (by omega) ?_
    refine e_wi (by omega) ?_
    refine e_mod (by omega) ?_
    refine e_wi (by omega) ?_
    refine e_wi (by omega) ?_
    refine e_mod (by omega) ?_
    refine e_wi (by omega) ?_
    refine e_bind _ (quarter_eq.trans h.1) ?_
    refine e_gd h.2 ?_
    refine e_wi (by omega) ?_
    rfl
  · intro rec
    unfold fn_chacha_Block_l2
    refine e_decF (by omega) ?_
    refine e_cF ?_
    rfl
theorem round_prog {fu : Nat} {l : List Int} {x : Int} (hf : 40 < fu) (hl : l.length = 16) (hx : 0 ≤ x ∧ x < 10) (rec : (List Int × Int) → Option (List Int)) :
    fn_chacha_Block_l3 fu rec (l, x) = rec (di (co l 4) 4, x + 1) := by
  unfold fn_chacha_Block_l3
  refine e_decT (by omega) ?_
  refine e_cT ?_
  refine e_bind _ (block_l1 hf hl) ?_
  refine e_bind _ (block_l2 hf (co_length hl (by omega))) ?_
  refine e_wi (by omega) ?_
  rfl
theorem co4 (l : List Int) : co l 4 = qq (qq (qq (qq l 0 4 8 12) 1 5 9 13) 2 6 10 14) 3 7 11 15 := by simp [co]
theorem di4 (l : List Int) : di l 4 = qq (qq (qq (qq l 0 5 10 15) 1 6 11 12) 2 7 8 13) 3 4 9 14 := by simp [di]
theorem round_ref {fu : Nat} {l : List Int} {x : Int} (hl : l.length = 16) (hx : 0 ≤ x ∧ x < 10) (rec : (List Int × Int) → Option (List Int)) :
    fn_portcullisref1_Block_l3 fu rec (l, x) = rec (di (co l 4) 4, x + 1) := by
  rw [co4, di4]
  have h1 := qq_some (fu := fu) (s := l) (a := 0) (b := 4) (c := 8) (d := 12) hl (by decide) (by decide) (by decide) (by decide)
  generalize qq l 0 4 8 12 = s1 at *
  have h2 := qq_some (fu := fu) (s := s1) (a := 1) (b := 5) (c := 9) (d := 13) h1.2 (by decide) (by decide) (by decide) (by decide)
  generalize qq s1 1 5 9 13 = s2 at *
  have h3 := qq_some (fu := fu) (s := s2) (a := 2) (b := 6) (c := 10) (d := 14) h2.2 (by decide) (by decide) (by decide) (by decide)
  generalize qq s2 2 6 10 14 = s3 at *
  have h4 := qq_some (fu := fu) (s := s3) (a := 3) (b := 7) (c := 11) (d := 15) h3.2 (by decide) (by decide) (by decide) (by decide)
  generalize qq s3 3 7 11 15 = s4 at *
  have h5 := qq_some (fu := fu) (s := s4) (a := 0) (b := 5) (c := 10) (d := 15) h4.2 (by decide) (by decide) (by decide) (by decide)
  generalize qq s4 0 5 10 15 = s5 at *
  have h6 := qq_some (fu := fu) (s := s5) (a := 1) (b := 6) (c := 11) (d := 12) h5.2 (by decide) (by decide) (by decide) (by decide)
  generalize qq s5 1 6 11 12 = s6 at *
  have h7 := qq_some (fu := fu) (s := s6) (a := 2) (b := 7) (c := 8) (d := 13) h6.2 (by decide) (by decide) (by decide) (by decide)
  generalize qq s6 2 7 8 13 = s7 at *
  have h8 := qq_some (fu := fu) (s := s7) (a := 3) (b := 4) (c := 9) (d := 14) h7.2 (by decide) (by decide) (by decide) (by decide)
  generalize qq s7 3 4 9 14 = s8 at *
  unfold fn_portcullisref1_Block_l3
  refine e_decT (by omega) ?_
  refine e_cT ?_
  refine e_bind _ h1.1 ?_
  refine e_gd h1.2 ?_
  refine e_bind _ h2.1 ?_
  refine e_gd h2.2 ?_
  refine e_bind _ h3.1 ?_
  refine e_gd h3.2 ?_
  refine e_bind _ h4.1 ?_
  refine e_gd h4.2 ?_
  refine e_bind _ h5.1 ?_
  refine e_gd h5.2 ?_
  refine e_bind _ h6.1 ?_
  refine e_gd h6.2 ?_
  refine e_bind _ h7.1 ?_
  refine e_gd h7.2 ?_
  refine e_bind _ h8.1 ?_
  refine e_gd h8.2 ?_
  refine e_wi (by omega) ?_
  rfl
theorem rounds {fu : Nat} {l : List Int} (hf : 40 < fu) (hl : l.length = 16) : ∃ o, o.length = 16 ∧ itr (fn_portcullisref1_Block_l3 fu) fu (l, 0) = some o ∧ itr (fn_chacha_Block_l3 fu) fu (l, 0) = some o := by
  have e : itr (fn_portcullisref1_Block_l3 fu) fu (l, 0) = itr (fn_chacha_Block_l3 fu) fu (l, 0) := by
    refine itr_congr (fun z => z.1.length = 16 ∧ 0 ≤ z.2) ?_ fu (l, 0) ⟨hl, by show (0 : Int) ≤ 0; omega⟩
    rintro ⟨l, x⟩ rec rec' ⟨h1, h2⟩ hr
    dsimp only at h1 h2
    by_cases hx : x < 10
    · rw [round_prog hf h1 ⟨h2, hx⟩, round_ref h1 ⟨h2, hx⟩]
      have hd := di_length (co_length h1 (k := 4) (by omega)) (k := 4) (by omega)
      generalize di (co l 4) 4 = D at *
      exact hr (D, x + 1) ⟨hd, by dsimp only; omega⟩
    · unfold fn_portcullisref1_Block_l3 fn_chacha_Block_l3
      refine e_decF hx ?_
      refine e_cF ?_
      exact (e_decF hx (e_cF rfl)).symm
  obtain ⟨o, ho, hi⟩ := itr_inv (b := fn_portcullisref1_Block_l3 fu) 10 (fun k z => z.1.length = 16 ∧ z.2 = (k : Int)) (fun o => o.length = 16) (by
    rintro k ⟨l, x⟩ hk ⟨h1, h2⟩
    dsimp only at h1 h2
    subst h2
    have hd := di_length (co_length h1 (k := 4) (by omega)) (k := 4) (by omega)
    have hr := fun rec => round_ref (fu := fu) (x := (k : Int)) h1 (by omega) rec
    generalize di (co l 4) 4 = D at *
    exact ⟨(D, (k : Int) + 1), ⟨hd, by simp⟩, hr⟩) (by
    rintro ⟨l, x⟩ ⟨h1, h2⟩
    dsimp only at h1 h2
    subst h2
    refine ⟨l, h1, fun rec => ?_⟩
    unfold fn_portcullisref1_Block_l3
    exact e_decF (by omega) (e_cF rfl)) (show 10 < fu by omega) (z := (l, 0)) ⟨hl, rfl⟩
  exact ⟨o, ho, hi, e ▸ hi⟩
noncomputable def bf (a b : List Int) (i : Nat) : Int := IntKind.u8.wrap (ishr .u32 (IntKind.u32.wrap (b.getD (i / 4) 0 + a.getD (i / 4) 0)) ((8 * (i % 4) : Nat) : Int))
theorem last_prog {fu : Nat} {a b : List Int} (hf : 64 < fu) (ha : a.length = 16) (hb : b.length = 16) : itr (fn_chacha_Block_l4 fu a b) fu (List.replicate 64 0, 0) = some (fil (bf a b) 64 (List.replicate 64 0)) := by
  refine itr_run' (fun k => (fil (bf a b) k (List.replicate 64 0), (k : Int))) 64 _ (by rw [fil_zero]; rfl) (by omega) ?_ ?_
  · intro k hk rec
    unfold fn_chacha_Block_l4
    refine e_decT (by omega) ?_
    refine e_cT ?_
    refine e_nmv (w := ((k / 4 : Nat) : Int)) (by rw [Int.tdiv_eq_ediv_of_nonneg (by omega), w_i64 (by omega)]; omega) ?_
    refine e_gd (by omega) ?_
    refine e_ldz (k / 4) rfl (b.getD (k / 4) 0) (by omega) rfl ?_
    refine e_nmv (w := ((k / 4 : Nat) : Int)) (by rw [Int.tdiv_eq_ediv_of_nonneg (by omega), w_i64 (by omega)]; omega) ?_
    refine e_gd (by omega) ?_
    refine e_ldz (k / 4) rfl (a.getD (k / 4) 0) (by omega) rfl ?_
    refine e_nm ?_
    refine e_nmv (w := ((k % 4 : Nat) : Int)) (by rw [Int.tmod_eq_emod_of_nonneg (by omega)]; omega) ?_
    refine e_nmv (w := ((8 * (k % 4) : Nat) : Int)) (by rw [w_i64 (by omega)]; omega) ?_
    refine e_gd (by omega) ?_
    refine e_nm ?_
    refine e_nm ?_
    refine e_gd (by omega) ?_
    refine e_updz k rfl _ (by rw [fil_length] <;> simp <;> omega) (fil_set (by simp; omega) rfl) ?_
    refine e_wi (by omega) ?_
    rfl
  · intro rec
    unfold fn_chacha_Block_l4
    refine e_decF (by omega) ?_
    refine e_cF ?_
    rfl
theorem last_ref {fu : Nat} {a b : List Int} (hf : 64 < fu) (ha : a.length = 16) (hb : b.length = 16) : itr (fn_portcullisref1_Block_l4 fu a b) fu (List.replicate 64 0, 0) = some (fil (bf a b) 64 (List.replicate 64 0)) := by
  refine itr_run' (fun k => (fil (bf a b) k (List.replicate 64 0), (k : Int))) 64 _ (by rw [fil_zero]; rfl) (by omega) ?_ ?_
  · intro k hk rec
    have hw := u32_range (b.getD (k / 4) 0 + a.getD (k / 4) 0)
    have hs : 0 ≤ ishr .u32 (IntKind.u32.wrap (b.getD (k / 4) 0 + a.getD (k / 4) 0)) ((8 * (k % 4) : Nat) : Int) ∧ ishr .u32 (IntKind.u32.wrap (b.getD (k / 4) 0 + a.getD (k / 4) 0)) ((8 * (k % 4) : Nat) : Int) < 4294967296 := by
      rw [ishr_n (by show _ ≤ 32; omega)]
      have h1 := Int.ediv_nonneg hw.1 (show (0 : Int) ≤ 2 ^ (8 * (k % 4)) from Int.le_of_lt (Int.pow_pos (by decide)))
      have h2 := Int.ediv_le_self (2 ^ (8 * (k % 4))) hw.1
      omega
    unfold fn_portcullisref1_Block_l4
    refine e_decT (by omega) ?_
    refine e_cT ?_
    refine e_nmv (w := ((k / 4 : Nat) : Int)) (by rw [Int.tdiv_eq_ediv_of_nonneg (by omega), w_i64 (by omega)]; omega) ?_
    refine e_gd (by omega) ?_
    refine e_ldz (k / 4) rfl (b.getD (k / 4) 0) (by omega) rfl ?_
    refine e_nmv (w := ((k / 4 : Nat) : Int)) (by rw [Int.tdiv_eq_ediv_of_nonneg (by omega), w_i64 (by omega)]; omega) ?_
    refine e_gd (by omega) ?_
    refine e_ldz (k / 4) rfl (a.getD (k / 4) 0) (by omega) rfl ?_
    refine e_nm ?_
    refine e_nmv (w := ((k % 4 : Nat) : Int)) (by rw [Int.tmod_eq_emod_of_nonneg (by omega)]; omega) ?_
    refine e_nmv (w := ((8 * (k % 4) : Nat) : Int)) (by rw [w_i64 (by omega)]; omega) ?_
    refine e_wu (by omega) ?_
    refine e_gd (by omega) ?_
    refine e_nm ?_
    refine e_nmv (iand_w255 hs) ?_
    refine e_nmv (w := bf a b k) (by unfold bf; rw [w_u8', w_u8']; omega) ?_
    refine e_gd (by omega) ?_
    refine e_updz k rfl _ (by rw [fil_length] <;> simp <;> omega) (fil_set (by simp; omega) rfl) ?_
    refine e_wi (by omega) ?_
    rfl
  · intro rec
    unfold fn_portcullisref1_Block_l4
    refine e_decF (by omega) ?_
    refine e_cF ?_
    rfl
theorem little_some {fu : Nat} {b : List Int} (h : 4 ≤ b.length) : ∃ v, fn_portcullisref1_little fu b = some v := by
  apply Exists.intro
  unfold fn_portcullisref1_little
  refine e_gd (by omega) ?_
  refine e_ld (by omega) ?_
  refine e_nm ?_
  refine e_gd (by omega) ?_
  refine e_ld (by omega) ?_
  refine e_nm ?_
  refine e_nm ?_
  refine e_nm ?_
  refine e_gd (by omega) ?_
  refine e_ld (by omega) ?_
  refine e_nm ?_
  refine e_nm ?_
  refine e_nm ?_
  refine e_gd (by omega) ?_
  refine e_ld (by omega) ?_
  refine e_nm ?_
  refine e_nm ?_
  refine e_nm ?_
  rfl
theorem begin_l1 {fu : Nat} {key l : List Int} (hf : 40 < fu) (hk : key.length = 32) (hl : l.length = 16) : ∃ o, o.length = 16 ∧ itr (fn_portcullisref1_Block_l1 fu key) fu (l, 0) = some o := by
  refine itr_inv 8 (fun k z => z.1.length = 16 ∧ z.2 = (k : Int)) _ ?_ ?_ (by omega) ⟨hl, rfl⟩
  · rintro k ⟨l, x⟩ hk8 ⟨h1, h2⟩
    dsimp only at h1 h2
    subst h2
    obtain ⟨v, hv⟩ := little_some (fu := fu) (b := sub key (4 * (k : Int)).toNat (32 - (4 * (k : Int)).toNat)) (by rw [sub_length]; omega)
    refine ⟨(l.set (4 + k) v, ((k + 1 : Nat) : Int)), ⟨by dsimp only; rw [List.length_set, h1], rfl⟩, fun rec => ?_⟩
    unfold fn_portcullisref1_Block_l1
    refine e_decT (by omega) ?_
    refine e_cT ?_
    refine e_wi (by omega) ?_
    refine e_wi (by omega) ?_
    refine e_gd (by omega) ?_
    refine e_bind _ hv ?_
    refine e_gd (by omega) ?_
    refine e_updz (4 + k) (by omega) _ (by omega) rfl ?_
    refine e_wi (by omega) ?_
    rfl
  · rintro ⟨l, x⟩ ⟨h1, h2⟩
    dsimp only at h1 h2
    subst h2
    refine ⟨l, h1, fun rec => ?_⟩
    unfold fn_portcullisref1_Block_l1
    exact e_decF (by omega) (e_cF rfl)
theorem begin_l2 {fu : Nat} {nonce l : List Int} (hf : 40 < fu) (hk : nonce.length = 12) (hl : l.length = 16) : ∃ o, o.length = 16 ∧ itr (fn_portcullisref1_Block_l2 fu nonce) fu (l, 0) = some o := by
  refine itr_inv 3 (fun k z => z.1.length = 16 ∧ z.2 = (k : Int)) _ ?_ ?_ (by omega) ⟨hl, rfl⟩
  · rintro k ⟨l, x⟩ hk8 ⟨h1, h2⟩
    dsimp only at h1 h2
    subst h2
    obtain ⟨v, hv⟩ := little_some (fu := fu) (b := sub nonce (4 * (k : Int)).toNat (12 - (4 * (k : Int)).toNat)) (by rw [sub_length]; omega)
    refine ⟨(l.set (13 + k) v, ((k + 1 : Nat) : Int)), ⟨by dsimp only; rw [List.length_set, h1], rfl⟩, fun rec => ?_⟩
    unfold fn_portcullisref1_Block_l2
    refine e_decT (by omega) ?_
    refine e_cT ?_
    refine e_wi (by omega) ?_
    refine e_wi (by omega) ?_
    refine e_gd (by omega) ?_
    refine e_bind _ hv ?_
    refine e_gd (by omega) ?_
    refine e_updz (13 + k) (by omega) _ (by omega) rfl ?_
    refine e_wi (by omega) ?_
    rfl
  · rintro ⟨l, x⟩ ⟨h1, h2⟩
    dsimp only at h1 h2
    subst h2
    refine ⟨l, h1, fun rec => ?_⟩
    unfold fn_portcullisref1_Block_l2
    exact e_decF (by omega) (e_cF rfl)
/-- a block of the stream, in both -/
theorem block_both {fu : Nat} {key nonce : List Int} {c : Int} (hf : 64 < fu) (hk : key.length = 32) (hn : nonce.length = 12) (hc : c = 0 ∨ c = 1) :
    ∃ o, o.length = 64 ∧ (∀ i, 0 ≤ o.getD i 0 ∧ o.getD i 0 ≤ 255) ∧ fn_portcullisref1_Block fu key c nonce = some o ∧ fn_chacha_Block fu key c nonce = some o := by
  obtain ⟨a, la, ha⟩ := begin_l1 (fu := fu) (key := key) (l := [1634760805, 857760878, 2036477234, 1797285236, 0, 0, 0, 0, 0, 0, 0, 0, 0, 0, 0, 0]) (by omega) hk rfl
  obtain ⟨b, lb, hb⟩ := begin_l2 (fu := fu) (nonce := nonce) (l := a.set 12 c) (by omega) hn (by rw [List.length_set, la])
  obtain ⟨d, ld, hd1, hd2⟩ := rounds (fu := fu) (by omega) lb
  have w1 : IntKind.u32.wrap c = c := w_u32 (by omega)
  have w2 : IntKind.u32.wrap (iand .i64 c 4294967295) = c := by rcases hc with rfl | rfl <;> decide
  refine ⟨fil (bf b d) 64 (List.replicate 64 0), by rw [fil_length] <;> simp, fun i => ?_, ?_, ?_⟩
  · rw [fil_getD _ (by simp)]; split
    · exact u8_range _
    · rw [getD_ge (by simp; omega)]; omega
  · unfold fn_portcullisref1_Block
    refine e_gd hk ?_
    refine e_gd hn ?_
    refine e_updn _ (by simp) rfl ?_
    refine e_updn _ (by simp) rfl ?_
    refine e_updn _ (by simp) rfl ?_
    refine e_updn _ (by simp) rfl ?_
    refine e_bind a ha ?_
    refine e_nm ?_
    refine e_nmv w2 ?_
    refine e_updn _ (by omega) rfl ?_
    refine e_bind b hb ?_
    refine e_bind d hd1 ?_
    refine e_bind _ (last_ref hf lb ld) ?_
    rfl
  · unfold fn_chacha_Block
    refine e_gd hk ?_
    refine e_gd hn ?_
    refine e_nmv w1 ?_
    refine e_bind b ?_ ?_
    · unfold fn_chacha_begin
      refine e_gd hk ?_
      refine e_gd hn ?_
      refine e_bind a ha ?_
      refine e_updn _ (by omega) rfl ?_
      refine e_bind b hb ?_
      rfl
    refine e_gd lb ?_
    refine e_bind d hd2 ?_
    refine e_bind _ (last_prog hf lb ld) ?_
    rfl
/-- the stream over a block of the image -/
theorem turn_ref {fu : Nat} {key nonce p : List Int} (hf : 64 < fu) (hk : key.length = 32) (hn : nonce.length = 12) (hp : p.length = 64) :
    ∃ o, o.length = 64 ∧ (∀ i, 0 ≤ o.getD i 0 ∧ o.getD i 0 ≤ 255) ∧ fn_portcullisref1_Turn fu key 1 nonce p = some o := by
  obtain ⟨b, lb, bb, hb, _⟩ := block_both (fu := fu) hf hk hn (c := 1) (Or.inr rfl)
  refine ⟨fil (fun i => ixor .u8 (p.getD i 0) (b.getD i 0)) 64 p, by rw [fil_length] <;> omega, fun i => ?_, ?_⟩
  · rw [fil_getD _ (by omega)]; split
    · exact u8_range _
    · rw [getD_ge (by omega)]; omega
  · unfold fn_portcullisref1_Turn
    refine e_gd hk ?_
    refine e_gd hn ?_
    rw [decide_eq_true (by omega)]
    refine e_cT ?_
    refine e_gd (by omega) ?_
    refine e_nm ?_
    refine e_nmv (w := 1) (by decide) ?_
    refine e_bind _ (itr_run' (fun k => (fil (fun i => ixor .u8 (p.getD i 0) (b.getD i 0)) k p, if k = 0 then List.replicate 64 0 else b, (k : Int))) 64 (fil (fun i => ixor .u8 (p.getD i 0) (b.getD i 0)) 64 p) (by rw [fil_zero]; rfl) (by omega) ?_ ?_) rfl
    · intro k hk' rec
      unfold fn_portcullisref1_Turn_l1
      refine e_decT (by omega) ?_
      refine e_cT ?_
      refine e_bind b ?_ ?_
      · refine e_nmv (w := (k : Int)) (by rw [Int.tmod_eq_emod_of_nonneg (by omega)]; omega) ?_
        by_cases h0 : k = 0
        · subst h0
          refine e_eqT rfl ?_
          refine e_cT ?_
          refine e_nmv (w := 0) (by decide) ?_
          refine e_nmv (w := 1) (by decide) ?_
          refine e_bind _ hb ?_
          refine e_gd lb ?_
          rfl
        · refine e_eqF (by omega) ?_
          refine e_cF ?_
          rw [if_neg h0]
      refine e_gd (by omega) ?_
      refine e_ldz k rfl (p.getD k 0) (by rw [fil_length] <;> omega) (by rw [fil_getD _ (by omega), if_neg (by omega)]) ?_
      refine e_nmv (w := (k : Int)) (by rw [Int.tmod_eq_emod_of_nonneg (by omega)]; omega) ?_
      refine e_gd (by omega) ?_
      refine e_ldz k rfl (b.getD k 0) (by omega) rfl ?_
      refine e_nm ?_
      refine e_gd (by omega) ?_
      refine e_updz k rfl _ (by rw [fil_length] <;> omega) (fil_set (by omega) rfl) ?_
      refine e_wi (by omega) ?_
      show rec (_, b, _) = rec (_, (if k + 1 = 0 then _ else b), _)
      rw [if_neg (by omega)]; rfl
    · intro rec
      unfold fn_portcullisref1_Turn_l1
      refine e_decF (by omega) ?_
      refine e_cF ?_
      rfl
theorem turn_prog {fu : Nat} {key nonce p : List Int} (hf : 64 < fu) (hk : key.length = 32) (hn : nonce.length = 12) (hp : p.length = 64) :
    ∃ o, fn_chacha_Turn fu key 1 nonce p = some o := by
  obtain ⟨b, lb, bb, _, hb⟩ := block_both (fu := fu) hf hk hn (c := 1) (Or.inr rfl)
  refine ⟨fil (fun i => ixor .u8 (p.getD i 0) (b.getD i 0)) 64 (List.replicate 64 0), ?_⟩
  unfold fn_chacha_Turn
  refine e_gd hk ?_
  refine e_gd hn ?_
  rw [hp]
  refine e_gd (by omega) ?_
  refine e_nmv (w := 1) (by decide) ?_
  refine e_bind _ (itr_run' (fun k => (fil (fun i => ixor .u8 (p.getD i 0) (b.getD i 0)) k (List.replicate 64 0), if k = 0 then List.replicate 64 0 else b, if k = 0 then 1 else 2, (k : Int))) 64 (fil (fun i => ixor .u8 (p.getD i 0) (b.getD i 0)) 64 (List.replicate 64 0)) (by rw [fil_zero]; rfl) (by omega) ?_ ?_) rfl
  · intro k hk' rec
    unfold fn_chacha_Turn_l1
    refine e_decT (by omega) ?_
    refine e_cT ?_
    refine e_gd (by omega) ?_
    refine e_ldz k rfl (p.getD k 0) (by omega) rfl ?_
    refine e_bind (b, 2) ?_ ?_
    · refine e_nmv (w := (k : Int)) (by rw [Int.tmod_eq_emod_of_nonneg (by omega)]; omega) ?_
      by_cases h0 : k = 0
      · subst h0
        refine e_eqT rfl ?_
        refine e_cT ?_
        refine e_nmv (w := 1) (by decide) ?_
        refine e_bind _ hb ?_
        refine e_gd lb ?_
        refine e_nmv (w := 2) (by decide) ?_
        rfl
      · refine e_eqF (by omega) ?_
        refine e_cF ?_
        rw [if_neg h0, if_neg h0]
    refine e_nmv (w := (k : Int)) (by rw [Int.tmod_eq_emod_of_nonneg (by omega)]; omega) ?_
    refine e_gd (by omega) ?_
    refine e_ldz k rfl (b.getD k 0) (by omega) rfl ?_
    refine e_nm ?_
    refine e_gd (by omega) ?_
    refine e_updz k rfl _ (by rw [fil_length] <;> simp <;> omega) (fil_set (by simp; omega) rfl) ?_
    refine e_wi (by omega) ?_
    show rec (_, b, 2, _) = rec (_, (if k + 1 = 0 then _ else b), (if k + 1 = 0 then _ else _), _)
    rw [if_neg (by omega), if_neg (by omega)]; rfl
  · intro rec
    unfold fn_chacha_Turn_l1
    refine e_decF (by omega) ?_
    refine e_cF ?_
    rfl
end Go.Proofs.Ythgbffnahanfhaa

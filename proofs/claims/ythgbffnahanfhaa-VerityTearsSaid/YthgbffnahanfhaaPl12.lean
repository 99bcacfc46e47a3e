/- The tag, the seal and the opening. -/
import Derived.Test.YthgbffnahanfhaaPl11
set_option linter.unusedVariables false
set_option linter.unusedSimpArgs false
namespace Go.Proofs.Ythgbffnahanfhaa
open Go Go.EV
set_option maxRecDepth 20000
theorem rep_byte (n i : Nat) : 0 ≤ (List.replicate n (0 : Int)).getD i 0 ∧ (List.replicate n (0 : Int)).getD i 0 ≤ 255 := by
  by_cases h : i < n
  · rw [getD_rep h]; omega
  · rw [getD_ge (by simp; omega)]; omega
theorem app_byte {l m : List Int} (hl : ∀ i, 0 ≤ l.getD i 0 ∧ l.getD i 0 ≤ 255) (hm : ∀ i, 0 ≤ m.getD i 0 ∧ m.getD i 0 ≤ 255) (i : Nat) : 0 ≤ (l ++ m).getD i 0 ∧ (l ++ m).getD i 0 ≤ 255 := by
  by_cases h : i < l.length
  · rw [app_l h]; exact hl i
  · obtain ⟨j, rfl⟩ : ∃ j, i = l.length + j := ⟨i - l.length, by omega⟩
    rw [app_r]; exact hm j
theorem sub_byte {l : List Int} (hl : ∀ i, 0 ≤ l.getD i 0 ∧ l.getD i 0 ≤ 255) (o n : Nat) (i : Nat) : 0 ≤ (sub l o n).getD i 0 ∧ (sub l o n).getD i 0 ≤ 255 := by
  unfold sub
  rw [List.getD_eq_getElem?_getD, List.getElem?_take]
  split
  · rw [List.getElem?_drop, ← List.getD_eq_getElem?_getD]; exact hl _
  · simp
theorem rest_8 {fu : Nat} : fn_aead_rest fu 8 = some (List.replicate 8 0) := rfl
theorem rest_64 {fu : Nat} : fn_aead_rest fu 64 = some (List.replicate 0 0) := rfl
theorem tag_both {fu : Nat} {key nonce c : List Int} {v : Int} (hf : 200 < fu) (hk : key.length = 32) (hn : nonce.length = 12) (hc : c.length = 64) (wc : ∀ i, 0 ≤ c.getD i 0 ∧ c.getD i 0 ≤ 255) :
    ∃ t, t.length = 16 ∧ (∀ i, 0 ≤ t.getD i 0 ∧ t.getD i 0 ≤ 255) ∧ fn_portcullisref1_tag fu key nonce c (B8 v) = some t ∧ fn_aead_tag fu key nonce c (B8 v) = some t := by
  obtain ⟨b, lb, bb, hb1, hb2⟩ := block_both (fu := fu) (by omega) hk hn (c := 0) (Or.inl rfl)
  have hl := B8_length v
  have hw := B8_byte v
  generalize B8 v = d at *
  have w8 : ∀ i, 0 ≤ ([8, 0, 0, 0, 0, 0, 0, 0] : List Int).getD i 0 ∧ ([8, 0, 0, 0, 0, 0, 0, 0] : List Int).getD i 0 ≤ 255 := app_byte (l := [8]) (m := List.replicate 7 0) (fun i => by
    match i with
    | 0 => exact ⟨by decide, by decide⟩
    | n + 1 => rw [getD_ge (by simp)]; omega) (rep_byte 7)
  have w64 : ∀ i, 0 ≤ ([64, 0, 0, 0, 0, 0, 0, 0] : List Int).getD i 0 ∧ ([64, 0, 0, 0, 0, 0, 0, 0] : List Int).getD i 0 ≤ 255 := app_byte (l := [64]) (m := List.replicate 7 0) (fun i => by
    match i with
    | 0 => exact ⟨by decide, by decide⟩
    | n + 1 => rw [getD_ge (by simp)]; omega) (rep_byte 7)
  have wk := sub_byte bb 0 32
  have lk : (sub b 0 32).length = 32 := by rw [sub_length]; omega
  obtain ⟨t, lt, bt, h1, h2⟩ := poly_same (fu := fu) (n := 6) (key := sub b 0 32) (b0 := d) (b1 := List.replicate 8 0) (b2 := c) (b3 := List.replicate 0 0) (b4 := [8, 0, 0, 0, 0, 0, 0, 0]) (b5 := [64, 0, 0, 0, 0, 0, 0, 0]) (by omega) lk (inK_of wk) (by simp [hl, hc]) (by omega) (by omega)
    (inK_of hw) (inK_of (rep_byte 8)) (inK_of wc) (inK_of (rep_byte 0)) (inK_of w8) (inK_of w64)
  refine ⟨t, lt, bt, ?_, ?_⟩
  · have f1 := filled_some (fu := fu) (b := d) 8 (by omega) (by omega) (by omega) (by omega)
    have f2 := filled_some (fu := fu) (b := d ++ List.replicate 8 0 ++ c) 0 (by omega) (by omega) (by simp; omega) (by simp; omega)
    unfold fn_portcullisref1_tag
    refine e_gd hk ?_
    refine e_gd hn ?_
    refine e_bind _ hb1 ?_
    refine e_gd lb ?_
    refine e_put (by rw [sub_length]; simp; omega) ?_
    have ek : List.take 0 (List.replicate 32 (0 : Int)) ++ sub b 0 (min 32 32) ++ List.drop (0 + (sub b 0 (min 32 32)).length) (List.replicate 32 0) = sub b 0 32 := by
      rw [show min 32 32 = 32 from rfl, lk]; simp
    rw [ek, decide_eq_true (by omega)]
    refine e_cT ?_
    refine e_gd (by omega) ?_
    refine e_nm ?_
    refine e_bind _ f1 ?_
    refine e_gd (by simp; omega) ?_
    refine e_nm ?_
    refine e_bind _ f2 ?_
    rw [hl, hc]
    refine e_bind _ (len_8 (by omega)) ?_
    refine e_gd (by simp; omega) ?_
    refine e_nm ?_
    refine e_bind _ (len_64 (by omega)) ?_
    refine e_gd (by simp; omega) ?_
    refine e_nm ?_
    refine e_bind t ?_ ?_
    · rw [← h2]; congr 1; simp
    refine e_gd lt ?_
    rfl
  · unfold fn_aead_tag
    refine e_gd hk ?_
    refine e_gd hn ?_
    refine e_bind _ hb2 ?_
    refine e_gd lb ?_
    refine e_nm ?_
    rw [hl, hc]
    refine e_bind _ rest_8 ?_
    refine e_bind _ rest_64 ?_
    refine e_bind _ (eight_8 (by omega)) ?_
    refine e_bind _ (eight_64 (by omega)) ?_
    refine e_bind _ h1 ?_
    refine e_gd lt ?_
    rfl
theorem same_self {fu : Nat} {a : List Int} (hf : a.length < fu) (hl : a.length < 1000000) (w : ∀ i, 0 ≤ a.getD i 0 ∧ a.getD i 0 ≤ 255) : fn_mac_Same fu a a = some true := by
  unfold fn_mac_Same
  refine e_neF rfl ?_
  refine e_cF ?_
  refine e_bind 0 ?_ ?_
  · refine itr_run' (fun k => ((0 : Int), (k : Int))) a.length 0 rfl hf ?_ ?_
    · intro k hk rec
      have b := w k
      unfold fn_mac_Same_l1
      refine e_decT (by omega) ?_
      refine e_cT ?_
      refine e_gd (by omega) ?_
      refine e_ldz k rfl (a.getD k 0) hk rfl ?_
      refine e_gd (by omega) ?_
      refine e_ldz k rfl (a.getD k 0) hk rfl ?_
      refine e_nmv (w := 0) ?_ ?_
      · obtain ⟨n, hn⟩ := Int.eq_ofNat_of_zero_le b.1
        rw [hn, ixor_un .u8 rfl (by show n < 2 ^ 8; omega) (by show n < 2 ^ 8; omega), Nat.xor_self]; rfl
      refine e_nmv (w := 0) (by decide) ?_
      refine e_wi (by omega) ?_
      rfl
    · intro rec
      unfold fn_mac_Same_l1
      refine e_decF (by omega) ?_
      refine e_cF ?_
      rfl
  · refine e_eqT rfl ?_
    rfl
/-- what the reference seals, the program opens -/
theorem seal_open {fu : Nat} {key p : List Int} {v i : Int} (hf : 200 < fu) (hk : key.length = 32) (hv : 0 ≤ v ∧ v ≤ 1073741824) (hi : 0 ≤ i ∧ i ≤ 31) (hp : p.length = 64) :
    ∃ c, fn_portcullisref16_SealBlock fu key v i p = some (Sum.inr c) ∧ c.length = 80 ∧ (∀ i, 0 ≤ c.getD i 0 ∧ c.getD i 0 ≤ 255) ∧ ∃ o, fn_image_Open fu key v i c = some (Sum.inr o) := by
  have ln : (List.replicate 4 (0 : Int) ++ B8 i).length = 12 := by simp [B8_length]
  have lv := B8_length v
  obtain ⟨c, lc, bc, hc⟩ := turn_ref (fu := fu) (key := key) (nonce := List.replicate 4 0 ++ B8 i) (by omega) hk ln hp
  obtain ⟨t, lt, bt, h1, h2⟩ := tag_both (fu := fu) (key := key) (nonce := List.replicate 4 0 ++ B8 i) (c := c) (v := v) hf hk ln lc bc
  obtain ⟨o, ho⟩ := turn_prog (fu := fu) (key := key) (nonce := List.replicate 4 0 ++ B8 i) (p := c) (by omega) hk ln lc
  refine ⟨c ++ t, ?_, by simp [lc, lt], app_byte bc bt, o, ?_⟩
  · unfold fn_portcullisref16_SealBlock
    refine e_gd hk ?_
    refine e_bind false ?_ ?_
    · refine e_bind true ?_ ?_
      · unfold fn_portcullisref16_small
        refine e_bind true ?_ rfl
        refine e_decT (by omega) ?_
        refine e_cTT ?_
        refine e_decT (by omega) ?_
        rfl
      refine e_notT ?_
      refine e_cFF ?_
      refine e_decF (by omega) ?_
      refine e_cFF ?_
      refine e_decF (by omega) ?_
      refine e_cFF ?_
      refine e_neF (by omega) ?_
      rfl
    refine e_cF ?_
    refine e_bind _ (nonce_ref (by omega) (by omega)) ?_
    refine e_gd ln ?_
    refine e_bind _ (one_ref (by omega) (by omega)) ?_
    refine e_bind (c ++ t) ?_ rfl
    unfold fn_portcullisref1_Seal
    refine e_gd hk ?_
    refine e_gd ln ?_
    refine e_bind _ hc ?_
    refine e_bind _ h1 ?_
    refine e_gd lt ?_
    refine e_gd (by simp [lc, lt]) ?_
    refine e_nm ?_
    rfl
  · have e1 : sub (c ++ t) 0 (64 : Int).toNat = c := by unfold sub; simp [← lc]
    have e2 : sub (c ++ t) (64 : Int).toNat ((c ++ t).length - (64 : Int).toNat) = t := by unfold sub; simp [← lc]
    have l80 : (c ++ t).length = 80 := by simp [lc, lt]
    unfold fn_image_Open
    refine e_gd hk ?_
    refine e_bind false ?_ ?_
    · refine e_bind true ?_ ?_
      · unfold fn_image_may
        refine e_bind true ?_ rfl
        refine e_decT (by omega) ?_
        refine e_cTT ?_
        refine e_decT (by omega) ?_
        refine e_cTT ?_
        refine e_decT (by omega) ?_
        refine e_cTT ?_
        refine e_decT (by omega) ?_
        rfl
      refine e_notT ?_
      refine e_cFF ?_
      refine e_neF (by omega) ?_
      rfl
    refine e_cF ?_
    refine e_bind (Sum.inr o) ?_ rfl
    refine e_bind _ (nonce_prog (by omega) (by omega)) ?_
    refine e_gd ln ?_
    refine e_bind _ (pack2 (by omega) (by omega)) ?_
    refine e_bind (Sum.inr o) ?_ rfl
    unfold fn_aead_Open
    refine e_gd hk ?_
    refine e_gd ln ?_
    refine e_nmv (w := 64) (by rw [l80]; decide) ?_
    refine e_decF (by omega) ?_
    refine e_cF ?_
    refine e_bind t ?_ ?_
    · refine e_gd (by omega) ?_
      rw [e1]
      refine e_bind _ h2 ?_
      refine e_gd lt ?_
      rfl
    refine e_gd (by omega) ?_
    rw [e2]
    refine e_bind _ (same_self (by omega) (by omega) bt) ?_
    refine e_notT ?_
    refine e_cF ?_
    refine e_gd (by omega) ?_
    rw [e1]
    refine e_bind _ ho ?_
    rfl
end Go.Proofs.Ythgbffnahanfhaa

/- The flash and the verity area as rows of bytes. -/
import Derived.Test.YthgbffnahanfhaaPl12
set_option linter.unusedVariables false
set_option linter.unusedSimpArgs false
namespace Go.Proofs.Ythgbffnahanfhaa
open Go Go.EV
set_option maxRecDepth 40000
theorem e_orc {β : Type} {n : Nat} {k : List Int → Option β} {r : Option β} (h : ∀ l, l.length = n → k l = r) : orc n k = r := by
  unfold orc
  rw [if_pos fun l hl => by rw [h l hl, h _ (by simp)]]
  exact h _ (by simp)
def pos : Nat → Nat
  | 0 => 1
  | k + 1 => pos k + min (if 8192 < pos k then 8192 else pos k) (32768 - pos k)
theorem pos_lt {k : Nat} (h : k < 16) : 1 ≤ pos k ∧ pos k < 32768 := by
  have : k = 0 ∨ k = 1 ∨ k = 2 ∨ k = 3 ∨ k = 4 ∨ k = 5 ∨ k = 6 ∨ k = 7 ∨ k = 8 ∨ k = 9 ∨ k = 10 ∨ k = 11 ∨ k = 12 ∨ k = 13 ∨ k = 14 ∨ k = 15 := by omega
  rcases this with rfl | rfl | rfl | rfl | rfl | rfl | rfl | rfl | rfl | rfl | rfl | rfl | rfl | rfl | rfl | rfl <;> decide
theorem pos_16 : pos 16 = 32768 := by decide
theorem rep_loop {fu : Nat} {l : List Int} (hf : 64 < fu) (hl : l.length = 32768) (z : List Int) (hz : z = List.replicate 1 255 ++ l.drop 1) : itr (fn_bytes_Repeat_l1 fu 32768 8192) fu (z, 1) = some (List.replicate 32768 255) := by
  refine itr_run' (fun k => (List.replicate (pos k) 255 ++ l.drop (pos k), (pos k : Int))) 16 _ (by rw [hz]; rfl) (by omega) ?_ ?_
  · intro k hk rec
    have hp := pos_lt hk
    have e : pos (k + 1) = pos k + min (if 8192 < pos k then 8192 else pos k) (32768 - pos k) := rfl
    rw [e]
    generalize pos k = p at *
    have st : ∀ q : Nat, q ≤ p → p + q ≤ 32768 → (List.replicate p (255 : Int) ++ l.drop p).take p ++ sub (List.replicate p 255 ++ l.drop p) 0 q ++ (List.replicate p (255 : Int) ++ l.drop p).drop (p + (sub (List.replicate p 255 ++ l.drop p) 0 q).length) = List.replicate (p + q) 255 ++ l.drop (p + q) := by
      intro q hq hpq
      have es : sub (List.replicate p 255 ++ l.drop p) 0 q = List.replicate q 255 := by
        unfold sub
        rw [List.drop_zero, List.take_append_of_le_length (by simp; omega), List.take_replicate, Nat.min_eq_left hq]
      rw [es, List.take_left' (by simp), List.length_replicate, List.replicate_append_replicate, List.drop_append, List.drop_eq_nil_of_le (by simp), List.length_replicate, List.drop_drop, List.nil_append, show p + (p + q - p) = p + q by omega]
    unfold fn_bytes_Repeat_l1
    refine e_decT (by omega) ?_
    refine e_cT ?_
    by_cases h8 : 8192 < p
    · rw [if_pos h8]
      refine e_ite (by omega) ?_
      refine e_gd (by omega) ?_
      refine e_gd (by omega) ?_
      have e1 : min (8192 : Int).toNat ((32768 : Int).toNat - ((p : Nat) : Int).toNat) = min 8192 (32768 - p) := by omega
      rw [e1, Int.toNat_natCast]
      refine e_put (by rw [sub_length]; simp; omega) ?_
      rw [st _ (by omega) (by omega)]
      refine e_wi (by omega) ?_
      congr 2
    · rw [if_neg h8]
      refine e_iteF (by omega) ?_
      refine e_gd (by omega) ?_
      refine e_gd (by omega) ?_
      have e1 : min ((p : Nat) : Int).toNat ((32768 : Int).toNat - ((p : Nat) : Int).toNat) = min p (32768 - p) := by omega
      rw [e1, Int.toNat_natCast]
      refine e_put (by rw [sub_length]; simp; omega) ?_
      rw [st _ (by omega) (by omega)]
      refine e_wi (by omega) ?_
      congr 2
  · intro rec
    rw [pos_16]
    unfold fn_bytes_Repeat_l1
    refine e_decF (by omega) ?_
    refine e_cF ?_
    rw [List.drop_eq_nil_of_le (by omega), List.append_nil]
theorem repeat_some {fu : Nat} (hf : 64 < fu) : fn_bytes_Repeat fu [255] 32768 = some (Sum.inr (List.replicate 32768 255)) := by
  unfold fn_bytes_Repeat
  refine e_eqF (by omega) ?_
  refine e_cF ?_
  refine e_decF (by omega) ?_
  refine e_cF ?_
  refine e_nmv (w := 1) (by decide) ?_
  refine e_nmv (w := 32768) (by decide) ?_
  refine e_bind (0, 32768) ?_ ?_
  · unfold fn_math_bits_Mul
    refine e_bind (0, 32768) ?_ rfl
    exact mul64 (by omega) (by omega)
  refine e_bind false ?_ ?_
  · refine e_decF (by omega) ?_
    refine e_cFF ?_
    refine e_decF (by omega) ?_
    rfl
  refine e_cF ?_
  refine e_nmv (w := 32768) (by decide) ?_
  refine e_eqF (by simp) ?_
  refine e_cF ?_
  refine e_bind 8192 ?_ ?_
  · refine e_decT (by omega) ?_
    refine e_cT ?_
    refine e_gd (by simp) ?_
    refine e_nmv (w := 8192) (by decide) ?_
    refine e_nmv (w := 8192) (by decide) ?_
    refine e_eqF (by omega) ?_
    rfl
  refine e_gd (by omega) ?_
  refine e_orc fun l hl => ?_
  refine e_gd (by omega) ?_
  have hl' : l.length = 32768 := hl
  refine e_put (by rw [sub_length, hl']; simp) ?_
  refine e_bind _ (rep_loop hf hl' _ (by rfl)) ?_
  rfl
theorem flash_new {fu : Nat} (hf : 64 < fu) : fn_flash_New fu 128 = some (Sum.inr (List.replicate 32768 255)) := by
  unfold fn_flash_New
  refine e_ite (by omega) ?_
  refine e_iteF (by omega) ?_
  refine e_nmv (w := 32768) (by decide) ?_
  refine e_bind _ (repeat_some hf) ?_
  rfl
/-- a flash that holds w at a place, and is clean elsewhere -/
def fl (a : Nat) (w : List Int) : List Int := List.replicate a 255 ++ (w ++ List.replicate (32768 - a - w.length) 255)
theorem fl_length {a : Nat} {w : List Int} (h : a + w.length ≤ 32768) : (fl a w).length = 32768 := by simp [fl]; omega
theorem fl_get {a : Nat} {w : List Int} {k : Nat} (h : k < w.length) : (fl a w).getD (a + k) 0 = w.getD k 0 := by
  have := app_r (l := List.replicate a 255) (m := w ++ List.replicate (32768 - a - w.length) 255) (i := k)
  rw [List.length_replicate] at this
  unfold fl; rw [this, app_l h]
theorem fl_set {a : Nat} {w : List Int} {k : Nat} {v : Int} (h : k < w.length) : (fl a w).set (a + k) v = fl a (w.set k v) := by
  unfold fl
  rw [List.set_append_right _ _ (by simp), List.length_replicate, show a + k - a = k by omega, List.set_append_left _ _ h, List.length_set]
theorem fl_sub {a : Nat} {w : List Int} (h : 80 ≤ w.length) : sub (fl a w) a 80 = w.take 80 := by
  unfold fl sub
  rw [List.drop_left' (by simp), List.take_append_of_le_length h]
theorem fl_all {a : Nat} (h : a + 256 ≤ 32768) : fl a (List.replicate 256 255) = List.replicate 32768 255 := by
  unfold fl
  rw [List.length_replicate, List.replicate_append_replicate, List.replicate_append_replicate]; congr 1; omega
theorem size_some {fu : Nat} {f : List Int} {f1 f2 f4 f5 : Int} {f3 : Bool} (hl : f.length = 32768) : fn_flash_Flash_Size fu f f1 f2 f3 f4 f5 = some 128 := by
  unfold fn_flash_Flash_Size
  rw [hl]
  refine e_nmv (w := 128) (by decide) ?_
  rfl
theorem verity_new {fu : Nat} {f : List Int} {f1 f2 f4 f5 s : Int} {f3 : Bool} (hl : f.length = 32768) (hs : 0 ≤ s ∧ s ≤ 1) : fn_verity_New fu f f1 f2 f3 f4 f5 s = some (Sum.inr (64 + s * 32)) := by
  unfold fn_verity_New
  refine e_bind false ?_ ?_
  · refine e_bind _ (size_some hl) ?_
    refine e_decF (by omega) ?_
    refine e_cFF ?_
    refine e_decF (by omega) ?_
    refine e_cFF ?_
    refine e_decF (by omega) ?_
    rfl
  refine e_cF ?_
  refine e_wi (by omega) ?_
  refine e_wi (by omega) ?_
  rfl
theorem verity_is {fu : Nat} {i : Int} (hi : 0 ≤ i ∧ i < 32) : fn_verity_is fu i = some true := by
  unfold fn_verity_is
  refine e_bind true ?_ rfl
  refine e_decT (by omega) ?_
  refine e_cTT ?_
  refine e_decT (by omega) ?_
  rfl
theorem flash_is {fu : Nat} {f : List Int} {f1 f2 f4 f5 : Int} {f3 : Bool} {a n : Nat} (hl : f.length = 32768) (h : a + n ≤ 32768) : fn_flash_Flash_is fu f f1 f2 f3 f4 f5 (a : Int) (n : Int) = some true := by
  unfold fn_flash_Flash_is
  refine e_bind true ?_ rfl
  refine e_decT (by omega) ?_
  refine e_cTT ?_
  refine e_decT (by omega) ?_
  refine e_cTT ?_
  refine e_decT (by omega) ?_
  refine e_cTT ?_
  refine e_wi (by omega) ?_
  refine e_decT (by omega) ?_
  rfl
theorem raw_some {fu : Nat} {w : List Int} {f1 f2 f4 f5 a1 i : Int} {a : Nat} (hw : w.length = 256) (ha : (a1 + i) * 256 = (a : Int)) (hb : 64 ≤ a1 ∧ a1 ≤ 96) (hi : 0 ≤ i ∧ i < 32) :
    fn_verity_Area_Raw fu (fl a w) f1 f2 false f4 f5 a1 i = some (Sum.inr (w.take 80)) := by
  have hl := fl_length (a := a) (w := w) (by omega)
  unfold fn_verity_Area_Raw
  refine e_bind _ (verity_is hi) ?_
  refine e_notT ?_
  refine e_cF ?_
  refine e_wi (by omega) ?_
  refine e_wi (by omega) ?_
  rw [ha]
  refine e_bind (Sum.inr (w.take 80)) ?_ rfl
  unfold fn_flash_Flash_Read
  refine e_bind false ?_ ?_
  · refine e_cFF ?_
    refine e_bind _ (flash_is (n := 80) hl (by omega)) ?_
    refine e_notT ?_
    rfl
  refine e_cF ?_
  refine e_wi (by omega) ?_
  refine e_gd (by omega) ?_
  refine e_bind (w.take 80) ?_ rfl
  unfold fn_bytes_Clone
  have es : sub (fl a w) ((a : Int)).toNat (((a : Int) + 80).toNat - ((a : Int)).toNat) = w.take 80 := by
    rw [show ((a : Int) + 80).toNat - ((a : Int)).toNat = 80 by omega, Int.toNat_natCast]; exact fl_sub (by omega)
  rw [es]
  refine e_gd (by simp; omega) ?_
  refine e_nm ?_
  rfl
theorem op_live {fu : Nat} {f : List Int} {f1 f2 f4 f5 n : Int} {f3 : Bool} (h0 : f1 ≠ 0) (h1 : -1 ≤ f1 ∧ f1 ≤ 1) : fn_flash_Flash_operation fu f f1 f2 f3 f4 f5 n = some (if f1 - 1 > -1 then f1 - 1 else -1, f2, f3, n, true) := by
  unfold fn_flash_Flash_operation
  refine e_neT h0 ?_
  refine e_cT ?_
  refine e_wi (by omega) ?_
  refine e_nm ?_
  rfl
theorem op_dies {fu : Nat} {f : List Int} {f2 f4 f5 n : Int} {f3 : Bool} : fn_flash_Flash_operation fu f 0 f2 f3 f4 f5 n = some (-1, 0, true, if n < (if f2 > 0 then f2 else 0) then n else (if f2 > 0 then f2 else 0), false) := by
  unfold fn_flash_Flash_operation
  refine e_neF rfl ?_
  refine e_cF ?_
  refine e_nm ?_
  refine e_nm ?_
  rfl
theorem erase_some {fu : Nat} {w : List Int} {f1 f2 f4 f5 x12 x13 x15 : Int} {t14 t16 : Bool} {s n : Nat} (hf : 300 < fu) (hw : w.length = 256) (hs : s < 128) (hn : x15 = (n : Int)) (hn2 : n ≤ 256)
    (hop : fn_flash_Flash_operation fu (fl (s * 256) w) f1 f2 false f4 f5 256 = some (x12, x13, t14, x15, t16)) :
    ∃ x, fn_flash_Flash_Erase fu (fl (s * 256) w) f1 f2 false f4 f5 (s : Int) = some (fl (s * 256) (fil (fun _ => 255) n w), x12, x13, t14, x, t16) := by
  have hl := fl_length (a := s * 256) (w := w) (by omega)
  have hx : ∃ x, (cond t16 (nm (IntKind.i64.wrap (f4 + 1)) fun x36 => nm (if 1099511627776 < x36 then 1099511627776 else x36) fun x37 => some x37) (some f4) : Option Int) = some x := by
    cases t16
    · exact ⟨_, rfl⟩
    · exact ⟨_, rfl⟩
  obtain ⟨x, hx⟩ := hx
  refine ⟨x, ?_⟩
  unfold fn_flash_Flash_Erase
  refine e_bind false ?_ ?_
  · refine e_cFF ?_
    refine e_decF (by omega) ?_
    refine e_cFF ?_
    refine e_bind _ (size_some hl) ?_
    refine e_decF (by omega) ?_
    rfl
  refine e_cF ?_
  refine e_bind _ hop ?_
  refine e_wi (by omega) ?_
  subst hn
  refine e_bind (fl (s * 256) (fil (fun _ => 255) n w)) ?_ ?_
  · refine itr_run' (fun k => (fl (s * 256) (fil (fun _ => 255) k w), (k : Int))) n _ (by rw [fil_zero]; rfl) (by omega) ?_ ?_
    · intro k hk rec
      have hfl := fil_length (f := fun _ => 255) (k := k) (l := w) (by omega)
      have hl2 := fl_length (a := s * 256) (w := fil (fun _ => 255) k w) (by omega)
      unfold fn_flash_Flash_Erase_l1
      refine e_decT (by omega) ?_
      refine e_cT ?_
      refine e_wi (by omega) ?_
      refine e_gd (by omega) ?_
      refine e_updz (s * 256 + k) (by omega) (fl (s * 256) (fil (fun _ => 255) (k + 1) w)) (by omega) (by rw [fl_set (by omega), fil_set (by omega) rfl]) ?_
      refine e_wi (by omega) ?_
      rfl
    · intro rec
      unfold fn_flash_Flash_Erase_l1
      refine e_decF (by omega) ?_
      refine e_cF ?_
      rfl
  refine e_bind x hx ?_
  rfl
theorem program_some {fu : Nat} {b : List Int} {f1 f2 f4 f5 x11 x12 x14 : Int} {t13 t15 : Bool} {s n : Nat} (hf : 300 < fu) (hb : b.length = 80) (wb : ∀ i, 0 ≤ b.getD i 0 ∧ b.getD i 0 ≤ 255) (hs : s < 128) (hn : x14 = (n : Int)) (hn2 : n ≤ 80)
    (hop : fn_flash_Flash_operation fu (fl (s * 256) (List.replicate 256 255)) f1 f2 false f4 f5 80 = some (x11, x12, t13, x14, t15)) :
    ∃ x, fn_flash_Flash_Program fu (fl (s * 256) (List.replicate 256 255)) f1 f2 false f4 f5 ((s * 256 : Nat) : Int) b = some (fl (s * 256) (fil (fun i => b.getD i 0) n (List.replicate 256 255)), x11, x12, t13, x, t15) := by
  have hl := fl_length (a := s * 256) (w := List.replicate 256 255) (by simp; omega)
  have hx : ∃ x, (cond t15 (nm (IntKind.i64.wrap (f5 + 1)) fun x36 => nm (if 1099511627776 < x36 then 1099511627776 else x36) fun x37 => some x37) (some f5) : Option Int) = some x := by
    cases t15
    · exact ⟨_, rfl⟩
    · exact ⟨_, rfl⟩
  obtain ⟨x, hx⟩ := hx
  refine ⟨x, ?_⟩
  unfold fn_flash_Flash_Program
  refine e_bind false ?_ ?_
  · refine e_cFF ?_
    rw [hb]
    refine e_bind _ (flash_is (n := 80) hl (by omega)) ?_
    refine e_notT ?_
    rfl
  refine e_cF ?_
  rw [hb]
  refine e_bind _ hop ?_
  subst hn
  refine e_gd (by omega) ?_
  refine e_bind (fl (s * 256) (fil (fun i => b.getD i 0) n (List.replicate 256 255))) ?_ ?_
  · refine itr_run' (fun k => (fl (s * 256) (fil (fun i => b.getD i 0) k (List.replicate 256 255)), (k : Int))) n _ (by rw [fil_zero]; rfl) (by omega) ?_ ?_
    · intro k hk rec
      have hfl := fil_length (f := fun i => b.getD i 0) (k := k) (l := List.replicate 256 255) (by simp; omega)
      rw [List.length_replicate] at hfl
      have hl2 := fl_length (a := s * 256) (w := fil (fun i => b.getD i 0) k (List.replicate 256 255)) (by omega)
      have b1 := wb k
      unfold fn_flash_Flash_Program_l1
      refine e_decT (by omega) ?_
      refine e_cT ?_
      refine e_gd (by omega) ?_
      refine e_ldz k rfl (b.getD k 0) (by omega) rfl ?_
      refine e_wi (by omega) ?_
      refine e_gd (by omega) ?_
      refine e_ldz (s * 256 + k) (by omega) 255 (by omega) (by rw [fl_get (by omega), fil_getD _ (by simp; omega), if_neg (by omega), getD_rep (by omega)]) ?_
      refine e_nmv (iand_b255 (by omega)) ?_
      refine e_gd (by omega) ?_
      refine e_updz (s * 256 + k) (by omega) (fl (s * 256) (fil (fun i => b.getD i 0) (k + 1) (List.replicate 256 255))) (by omega) (by rw [fl_set (by omega), fil_set (by simp; omega) rfl]) ?_
      refine e_wi (by omega) ?_
      rfl
    · intro rec
      unfold fn_flash_Flash_Program_l1
      refine e_decF (by omega) ?_
      refine e_cF ?_
      rfl
  refine e_bind x hx ?_
  rfl
end Go.Proofs.Ythgbffnahanfhaa

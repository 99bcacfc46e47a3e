/- Plain laws: bits of numbers, sums, rows filled step by step, loops with an invariant. -/
import Derived.Test.YthgbffnahanfhaaPl0
set_option linter.unusedVariables false
set_option linter.unusedSimpArgs false
namespace Go.EV
open Go
theorem ofInt_nat (w n : Nat) : (BitVec.ofInt w (n : Int)).toNat = n % 2 ^ w := by rw [BitVec.ofInt_natCast, BitVec.toNat_ofNat]
theorem wrap_nat (k : IntKind) {n : Nat} (h : n < 2 ^ (k.bits - 1)) (hk : 0 < k.bits) : k.wrap (n : Int) = n := by
  have e : k.bits = (k.bits - 1) + 1 := by omega
  have h2 : 2 ^ k.bits = 2 * 2 ^ (k.bits - 1) := by rw [e, Nat.pow_succ]; simp; omega
  have h3 : ((2 : Int) ^ k.bits) = ((2 ^ k.bits : Nat) : Int) := by simp
  have h4 : ((2 : Int) ^ (k.bits - 1)) = ((2 ^ (k.bits - 1) : Nat) : Int) := by simp
  unfold IntKind.wrap
  simp only [h3, h4]
  have : (n : Int) % ((2 ^ k.bits : Nat) : Int) = n := by rw [← Int.natCast_emod, Nat.mod_eq_of_lt (by omega)]
  rw [this]
  split
  · rename_i hh; simp only [Bool.and_eq_true, decide_eq_true_eq] at hh; omega
  · rfl
theorem iand_64 {a b : Nat} (ha : a < 2 ^ 63) (hb : b < 2 ^ 63) : iand .i64 (a : Int) (b : Int) = ((a &&& b : Nat) : Int) := by
  unfold iand
  rw [BitVec.toNat_and, ofInt_nat, ofInt_nat]
  have e : IntKind.bits .i64 = 64 := rfl
  rw [e, Nat.mod_eq_of_lt (by omega), Nat.mod_eq_of_lt (by omega), wrap_nat]
  · exact Nat.lt_of_le_of_lt Nat.and_le_left ha
  · decide
theorem wrap_un (k : IntKind) (hs : k.signed = false) {n : Nat} (h : n < 2 ^ k.bits) : k.wrap (n : Int) = n := by
  have h3 : ((2 : Int) ^ k.bits) = ((2 ^ k.bits : Nat) : Int) := by simp
  unfold IntKind.wrap
  simp only [h3, hs, Bool.false_and, Bool.false_eq_true, if_false]
  rw [← Int.natCast_emod, Nat.mod_eq_of_lt h]
theorem iand_un (k : IntKind) (hs : k.signed = false) {a b : Nat} (ha : a < 2 ^ k.bits) (hb : b < 2 ^ k.bits) : iand k (a : Int) (b : Int) = ((a &&& b : Nat) : Int) := by
  unfold iand
  rw [BitVec.toNat_and, ofInt_nat, ofInt_nat, Nat.mod_eq_of_lt ha, Nat.mod_eq_of_lt hb, wrap_un k hs]
  exact Nat.lt_of_le_of_lt Nat.and_le_left ha
theorem ior_un (k : IntKind) (hs : k.signed = false) {a b : Nat} (ha : a < 2 ^ k.bits) (hb : b < 2 ^ k.bits) : ior k (a : Int) (b : Int) = ((a ||| b : Nat) : Int) := by
  unfold ior
  rw [BitVec.toNat_or, ofInt_nat, ofInt_nat, Nat.mod_eq_of_lt ha, Nat.mod_eq_of_lt hb, wrap_un k hs]
  exact Nat.or_lt_two_pow ha hb
theorem ixor_un (k : IntKind) (hs : k.signed = false) {a b : Nat} (ha : a < 2 ^ k.bits) (hb : b < 2 ^ k.bits) : ixor k (a : Int) (b : Int) = ((a ^^^ b : Nat) : Int) := by
  unfold ixor
  rw [BitVec.toNat_xor, ofInt_nat, ofInt_nat, Nat.mod_eq_of_lt ha, Nat.mod_eq_of_lt hb, wrap_un k hs]
  exact Nat.xor_lt_two_pow ha hb
theorem iand_i255 {x : Int} (h : 0 ≤ x ∧ x < 9223372036854775808) : iand .i64 x 255 = x % 256 := by
  obtain ⟨n, rfl⟩ := Int.eq_ofNat_of_zero_le h.1
  rw [show (255 : Int) = ((255 : Nat) : Int) from rfl, iand_64 (by omega) (by omega), show (255 : Nat) = 2 ^ 8 - 1 from rfl, Nat.and_two_pow_sub_one_eq_mod]; omega
theorem iand_i3 {x : Int} (h : 0 ≤ x ∧ x < 9223372036854775808) : iand .i64 x 3 = x % 4 := by
  obtain ⟨n, rfl⟩ := Int.eq_ofNat_of_zero_le h.1
  rw [show (3 : Int) = ((3 : Nat) : Int) from rfl, iand_64 (by omega) (by omega), show (3 : Nat) = 2 ^ 2 - 1 from rfl, Nat.and_two_pow_sub_one_eq_mod]; omega
theorem iand_i15 {x : Int} (h : 0 ≤ x ∧ x < 9223372036854775808) : iand .i64 x 15 = x % 16 := by
  obtain ⟨n, rfl⟩ := Int.eq_ofNat_of_zero_le h.1
  rw [show (15 : Int) = ((15 : Nat) : Int) from rfl, iand_64 (by omega) (by omega), show (15 : Nat) = 2 ^ 4 - 1 from rfl, Nat.and_two_pow_sub_one_eq_mod]; omega
theorem iand_u3 {x : Int} (h : 0 ≤ x ∧ x < 18446744073709551616) : iand .u64 x 3 = x % 4 := by
  obtain ⟨n, rfl⟩ := Int.eq_ofNat_of_zero_le h.1
  rw [show (3 : Int) = ((3 : Nat) : Int) from rfl, iand_un .u64 rfl (by show n < 2 ^ 64; omega) (by decide), show (3 : Nat) = 2 ^ 2 - 1 from rfl, Nat.and_two_pow_sub_one_eq_mod]; omega
theorem iand_u32m {x : Int} (h : 0 ≤ x ∧ x < 18446744073709551616) : iand .u64 x 4294967295 = x % 4294967296 := by
  obtain ⟨n, rfl⟩ := Int.eq_ofNat_of_zero_le h.1
  rw [show (4294967295 : Int) = ((4294967295 : Nat) : Int) from rfl, iand_un .u64 rfl (by show n < 2 ^ 64; omega) (by decide), show (4294967295 : Nat) = 2 ^ 32 - 1 from rfl, Nat.and_two_pow_sub_one_eq_mod]; omega
theorem iand_w255 {x : Int} (h : 0 ≤ x ∧ x < 4294967296) : iand .u32 x 255 = x % 256 := by
  obtain ⟨n, rfl⟩ := Int.eq_ofNat_of_zero_le h.1
  rw [show (255 : Int) = ((255 : Nat) : Int) from rfl, iand_un .u32 rfl (by show n < 2 ^ 32; omega) (by decide), show (255 : Nat) = 2 ^ 8 - 1 from rfl, Nat.and_two_pow_sub_one_eq_mod]; omega
theorem iand_b255 {x : Int} (h : 0 ≤ x ∧ x < 256) : iand .u8 255 x = x := by
  obtain ⟨n, rfl⟩ := Int.eq_ofNat_of_zero_le h.1
  rw [show (255 : Int) = ((255 : Nat) : Int) from rfl, iand_un .u8 rfl (by decide) (by show n < 2 ^ 8; omega), Nat.and_comm, show (255 : Nat) = 2 ^ 8 - 1 from rfl, Nat.and_two_pow_sub_one_eq_mod]; omega
theorem nat_and252 {n : Nat} (h : n < 256) : n &&& 252 = n / 4 * 4 := by
  have h1 : (n &&& 252) / 2 ^ 2 = n / 4 := by
    rw [Nat.and_div_two_pow]
    rw [show 252 / 2 ^ 2 = 2 ^ 6 - 1 from rfl, Nat.and_two_pow_sub_one_eq_mod]; omega
  have h2 : (n &&& 252) % 2 ^ 2 = 0 := by rw [Nat.and_mod_two_pow]; simp
  omega
theorem iand_i252 {x : Int} (h : 0 ≤ x ∧ x < 256) : iand .i64 x 252 = x / 4 * 4 := by
  obtain ⟨n, rfl⟩ := Int.eq_ofNat_of_zero_le h.1
  rw [show (252 : Int) = ((252 : Nat) : Int) from rfl, iand_64 (by omega) (by omega), nat_and252 (by omega)]; omega
theorem nat_m1 {n : Nat} (h : n < 2 ^ 64) : n &&& 1152921487695413247 = n % 2 ^ 28 + n / 2 ^ 34 % 2 ^ 26 * 2 ^ 34 := by
  have h1 : (n &&& 1152921487695413247) % 2 ^ 28 = n % 2 ^ 28 := by
    rw [Nat.and_mod_two_pow, show 1152921487695413247 % 2 ^ 28 = 2 ^ 28 - 1 from rfl, Nat.and_two_pow_sub_one_eq_mod]; omega
  have h2 : (n &&& 1152921487695413247) / 2 ^ 28 % 2 ^ 6 = 0 := by
    rw [Nat.and_div_two_pow, Nat.and_mod_two_pow]; simp
  have h3 : (n &&& 1152921487695413247) / 2 ^ 34 = n / 2 ^ 34 % 2 ^ 26 := by
    rw [Nat.and_div_two_pow, show 1152921487695413247 / 2 ^ 34 = 2 ^ 26 - 1 from rfl, Nat.and_two_pow_sub_one_eq_mod]
  omega
theorem nat_m2 {n : Nat} (h : n < 2 ^ 64) : n &&& 1152921487695413244 = n / 4 % 2 ^ 26 * 4 + n / 2 ^ 34 % 2 ^ 26 * 2 ^ 34 := by
  have h0 : (n &&& 1152921487695413244) % 2 ^ 2 = 0 := by rw [Nat.and_mod_two_pow]; simp
  have h1 : (n &&& 1152921487695413244) / 2 ^ 2 % 2 ^ 26 = n / 4 % 2 ^ 26 := by
    rw [Nat.and_div_two_pow, Nat.and_mod_two_pow, show 1152921487695413244 / 2 ^ 2 % 2 ^ 26 = 2 ^ 26 - 1 from rfl, Nat.and_two_pow_sub_one_eq_mod]; omega
  have h2 : (n &&& 1152921487695413244) / 2 ^ 28 % 2 ^ 6 = 0 := by
    rw [Nat.and_div_two_pow, Nat.and_mod_two_pow]; simp
  have h3 : (n &&& 1152921487695413244) / 2 ^ 34 = n / 2 ^ 34 % 2 ^ 26 := by
    rw [Nat.and_div_two_pow, show 1152921487695413244 / 2 ^ 34 = 2 ^ 26 - 1 from rfl, Nat.and_two_pow_sub_one_eq_mod]
  omega
theorem iand_m1 {x : Int} (h : 0 ≤ x ∧ x < 18446744073709551616) : iand .u64 x 1152921487695413247 = x % 268435456 + x / 17179869184 % 67108864 * 17179869184 := by
  obtain ⟨n, rfl⟩ := Int.eq_ofNat_of_zero_le h.1
  rw [show (1152921487695413247 : Int) = ((1152921487695413247 : Nat) : Int) from rfl, iand_un .u64 rfl (by show n < 2 ^ 64; omega) (by decide), nat_m1 (by omega)]; omega
theorem iand_m2 {x : Int} (h : 0 ≤ x ∧ x < 18446744073709551616) : iand .u64 x 1152921487695413244 = x / 4 % 67108864 * 4 + x / 17179869184 % 67108864 * 17179869184 := by
  obtain ⟨n, rfl⟩ := Int.eq_ofNat_of_zero_le h.1
  rw [show (1152921487695413244 : Int) = ((1152921487695413244 : Nat) : Int) from rfl, iand_un .u64 rfl (by show n < 2 ^ 64; omega) (by decide), nat_m2 (by omega)]; omega
theorem ishr_n {k : IntKind} {x : Int} {s : Nat} (h : s ≤ k.bits) : ishr k x (s : Int) = x / 2 ^ s := by
  unfold ishr
  rw [Int.toNat_natCast, Nat.min_eq_left h, Int.fdiv_eq_ediv_of_nonneg]
  exact Int.le_of_lt (Int.pow_pos (by decide))
theorem ishl_n {k : IntKind} {x : Int} {s : Nat} (h : s ≤ k.bits) : ishl k x (s : Int) = k.wrap (x * 2 ^ s) := by
  unfold ishl
  rw [Int.toNat_natCast, Nat.min_eq_left h]
/-- two numbers whose bits lie apart -/
theorem ior_add {a b : Int} {s : Nat} (hs : s < 64) (ha : 0 ≤ a ∧ a < 2 ^ s) (hb : 0 ≤ b) (hab : b * 2 ^ s < 18446744073709551616) : ior .u64 a (b * 2 ^ s) = a + b * 2 ^ s := by
  obtain ⟨m, rfl⟩ := Int.eq_ofNat_of_zero_le ha.1
  obtain ⟨n, rfl⟩ := Int.eq_ofNat_of_zero_le hb
  have h1 : ((n : Int) * 2 ^ s) = ((n * 2 ^ s : Nat) : Int) := by simp
  have h2 : m < 2 ^ s := by have := ha.2; rw [show ((2 : Int) ^ s) = ((2 ^ s : Nat) : Int) by simp] at this; omega
  have h3 : 2 ^ s < 2 ^ 64 := Nat.pow_lt_pow_right (by decide) hs
  rw [h1] at hab ⊢
  rw [ior_un .u64 rfl (Nat.lt_trans h2 h3) (by show _ < 2 ^ 64; omega), Nat.or_comm, Nat.mul_comm n, ← Nat.two_pow_add_eq_or_of_lt h2]; omega
/-- a sum -/
def S : Nat → (Nat → Int) → Int
  | 0, _ => 0
  | n + 1, f => S n f + f n
theorem S_congr {n : Nat} {f g : Nat → Int} (h : ∀ i, i < n → f i = g i) : S n f = S n g := by
  induction n with
  | zero => rfl
  | succ n ih => show S n f + f n = S n g + g n; rw [ih fun i hi => h i (by omega), h n (by omega)]
theorem S_add (n : Nat) (f g : Nat → Int) : S n (fun i => f i + g i) = S n f + S n g := by
  induction n with
  | zero => rfl
  | succ n ih => show S n _ + (f n + g n) = S n f + f n + (S n g + g n); rw [ih]; omega
theorem S_mul (n : Nat) (c : Int) (f : Nat → Int) : S n (fun i => c * f i) = c * S n f := by
  induction n with
  | zero => show (0 : Int) = c * 0; simp
  | succ n ih => show S n _ + c * f n = c * (S n f + f n); rw [ih, Int.mul_add]
theorem S_comm (n m : Nat) (f : Nat → Nat → Int) : S n (fun i => S m (f i)) = S m (fun j => S n fun i => f i j) := by
  induction n with
  | zero => show (0 : Int) = S m fun j => 0; have := S_mul m 0 fun _ => 0; simp at this; exact this.symm
  | succ n ih => show S n _ + S m (f n) = S m (fun j => S n (fun i => f i j) + f n j); rw [ih, ← S_add]
theorem S_bound {n : Nat} {f : Nat → Int} {M : Int} (h : ∀ i, i < n → 0 ≤ f i ∧ f i ≤ M) : 0 ≤ S n f ∧ S n f ≤ n * M := by
  induction n with
  | zero => show 0 ≤ (0 : Int) ∧ 0 ≤ ((0 : Nat) : Int) * M; simp
  | succ n ih =>
    have h1 := ih fun i hi => h i (by omega)
    have h2 := h n (by omega)
    show 0 ≤ S n f + f n ∧ S n f + f n ≤ ((n + 1 : Nat) : Int) * M
    have : ((n + 1 : Nat) : Int) * M = n * M + M := by rw [Int.natCast_succ, Int.add_mul, Int.one_mul]
    omega
/-- a row whose first k entries are new -/
def fil (f : Nat → Int) (k : Nat) (l : List Int) : List Int := (List.range k).map f ++ l.drop k
theorem fil_length {f : Nat → Int} {k : Nat} {l : List Int} (h : k ≤ l.length) : (fil f k l).length = l.length := by simp [fil]; omega
theorem fil_zero (f : Nat → Int) (l : List Int) : fil f 0 l = l := by simp [fil]
theorem fil_set {f : Nat → Int} {k : Nat} {l : List Int} (h : k < l.length) {v : Int} (hv : v = f k) : (fil f k l).set k v = fil f (k + 1) l := by
  subst hv
  unfold fil
  rw [List.set_append_right _ _ (by simp), List.length_map, List.length_range, Nat.sub_self, List.drop_eq_getElem_cons h, List.set_cons_zero, List.range_succ, List.map_append, List.append_assoc]; rfl
theorem fil_getD {f : Nat → Int} {k : Nat} {l : List Int} (i : Nat) (hk : k ≤ l.length) : (fil f k l).getD i 0 = if i < k then f i else l.getD i 0 := by
  unfold fil
  rw [List.getD_eq_getElem?_getD, List.getD_eq_getElem?_getD, List.getElem?_append]
  simp only [List.length_map, List.length_range]
  split
  · rw [List.getElem?_map, List.getElem?_range (by assumption)]; rfl
  · rw [List.getElem?_drop]; congr 2; omega
/-- a loop with an invariant, and a number of rounds -/
theorem itr_inv {σ τ : Type} {b : (σ → Option τ) → σ → Option τ} (n : Nat) (I : Nat → σ → Prop) (Q : τ → Prop)
    (h1 : ∀ k z, k < n → I k z → ∃ z', I (k + 1) z' ∧ ∀ rec, b rec z = rec z') (h2 : ∀ z, I n z → ∃ o, Q o ∧ ∀ rec, b rec z = some o) {fu : Nat} (hf : n < fu) {z : σ} (h0 : I 0 z) : ∃ o, Q o ∧ itr b fu z = some o := by
  have key : ∀ d k fu z, k + d = n → d < fu → I k z → ∃ o, Q o ∧ itr b fu z = some o := by
    intro d
    induction d with
    | zero => intro k fu z hk hfu hz; obtain ⟨m, rfl⟩ : ∃ m, fu = m + 1 := ⟨fu - 1, by omega⟩; have : k = n := by omega
              subst this; obtain ⟨o, ho, hb⟩ := h2 z hz; exact ⟨o, ho, hb _⟩
    | succ d ih => intro k fu z hk hfu hz; obtain ⟨m, rfl⟩ : ∃ m, fu = m + 1 := ⟨fu - 1, by omega⟩
                   obtain ⟨z', hz', hb⟩ := h1 k z (by omega) hz
                   obtain ⟨o, ho, hi⟩ := ih (k + 1) m z' (by omega) (by omega) hz'
                   exact ⟨o, ho, (hb _).trans hi⟩
  exact key n 0 fu z (by omega) hf h0
/-- two loops that do the same where an invariant holds -/
theorem itr_congr {σ τ : Type} {b c : (σ → Option τ) → σ → Option τ} (I : σ → Prop) (h : ∀ z rec rec', I z → (∀ z', I z' → rec z' = rec' z') → b rec z = c rec' z) : ∀ (fu : Nat) (z : σ), I z → itr b fu z = itr c fu z := by
  intro fu
  induction fu with
  | zero => intro z _; rfl
  | succ n ih => intro z hz; exact h z _ _ hz fun z' hz' => ih z' hz'
end Go.EV
namespace Go.EV
open Go
theorem e_nmv {α β : Type} {v w : α} {k : α → Option β} {r : Option β} (hv : v = w) (h : k w = r) : nm v k = r := by rw [hv]; exact h
theorem e_ldz {β : Type} {l : List Int} {x : Int} {k : Int → Option β} {r : Option β} (i : Nat) (hx : x = (i : Int)) (v : Int) (hl : i < l.length) (hv : l.getD i 0 = v) (h : k v = r) : (l[x.toNat]?).bind k = r := by
  subst hx hv; rw [Int.toNat_natCast]; exact e_ld hl h
theorem e_ldn {β : Type} {l : List Int} {i : Nat} {k : Int → Option β} {r : Option β} (v : Int) (hl : i < l.length) (hv : l.getD i 0 = v) (h : k v = r) : (l[i]?).bind k = r := by
  subst hv; exact e_ld hl h
theorem e_updz {β : Type} {l : List Int} {x v : Int} {k : List Int → Option β} {r : Option β} (i : Nat) (hx : x = (i : Int)) (m : List Int) (hl : i < l.length) (hm : l.set i v = m) (h : k m = r) : (upd l x.toNat v).bind k = r := by
  subst hx hm; rw [Int.toNat_natCast]; exact e_upd hl h
theorem e_updn {β : Type} {l : List Int} {i : Nat} {v : Int} {k : List Int → Option β} {r : Option β} (m : List Int) (hl : i < l.length) (hm : l.set i v = m) (h : k m = r) : (upd l i v).bind k = r := by
  subst hm; exact e_upd hl h
theorem itr_run' {σ τ : Type} {b : (σ → Option τ) → σ → Option τ} {z : σ} {fu : Nat} (st : Nat → σ) (n : Nat) (out : τ) (h0 : z = st 0) (hf : n < fu) (h1 : ∀ k, k < n → ∀ rec, b rec (st k) = rec (st (k + 1))) (h2 : ∀ rec, b rec (st n) = some out) : itr b fu z = some out := by
  rw [h0]; exact itr_run st n out h1 h2 hf
theorem lset_eq {l : List Int} {i : Nat} {v : Int} (h : i < l.length) : (l.set i v).getD i 0 = v := by
  rw [List.getD_eq_getElem?_getD, List.getElem?_set_self h]; rfl
theorem lset_ne {l : List Int} {i j : Nat} {v : Int} (h : i ≠ j) : (l.set i v).getD j 0 = l.getD j 0 := by
  rw [List.getD_eq_getElem?_getD, List.getElem?_set_ne h, List.getD_eq_getElem?_getD]
theorem getD_rep {n i : Nat} {a : Int} (h : i < n) : (List.replicate n a).getD i 0 = a := by
  rw [List.getD_eq_getElem?_getD, List.getElem?_replicate, if_pos h]; rfl
theorem getD_ge {l : List Int} {i : Nat} (h : l.length ≤ i) : l.getD i 0 = 0 := by
  rw [List.getD_eq_getElem?_getD, List.getElem?_eq_none h]; rfl
theorem getD_map {f : Nat → Int} {n i : Nat} (h : i < n) : ((List.range n).map f).getD i 0 = f i := by
  rw [List.getD_eq_getElem?_getD, List.getElem?_map, List.getElem?_range h]; rfl
theorem ishr_i2 {x : Int} : ishr .i64 x 2 = x / 4 := ishr_n (k := .i64) (s := 2) (by decide)
theorem ishr_i8 {x : Int} : ishr .i64 x 8 = x / 256 := ishr_n (k := .i64) (s := 8) (by decide)
theorem ishr_u2 {x : Int} : ishr .u64 x 2 = x / 4 := ishr_n (k := .u64) (s := 2) (by decide)
theorem ishr_u32 {x : Int} : ishr .u64 x 32 = x / 4294967296 := ishr_n (k := .u64) (s := 32) (by decide)
theorem ishl_u62 {x : Int} : ishl .u64 x 62 = x * 4611686018427387904 % 18446744073709551616 := by
  have := ishl_n (k := .u64) (x := x) (s := 62) (by decide)
  rw [w_u64'] at this; exact this
end Go.EV

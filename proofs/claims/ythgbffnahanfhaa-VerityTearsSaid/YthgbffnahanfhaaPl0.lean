/- Plain laws: the words of the functions, one by one. -/
import Derived.Test.YthgbffnahanfhaaEvX
import Derived.Test.YthgbffnahanfhaaEvRow
set_option linter.unusedVariables false
set_option linter.unusedSimpArgs false
namespace Go.EV
open Go
theorem e_nm {α β : Type} {v : α} {k : α → Option β} {r : Option β} (h : k v = r) : nm v k = r := h
theorem e_gd {β : Type} {p : Prop} [Decidable p] {k r : Option β} (hp : p) (h : k = r) : gd p k = r := by unfold gd; rw [if_pos hp]; exact h
theorem e_bind {α β : Type} {e : Option α} {k : α → Option β} {r : Option β} (v : α) (he : e = some v) (h : k v = r) : e.bind k = r := by rw [he]; exact h
theorem e_ld {β : Type} {l : List Int} {i : Nat} {k : Int → Option β} {r : Option β} (hi : i < l.length) (h : k (l.getD i 0) = r) : (l[i]?).bind k = r := by
  rw [List.getElem?_eq_getElem hi]
  rw [List.getD_eq_getElem?_getD, List.getElem?_eq_getElem hi] at h; exact h
theorem e_upd {β : Type} {l : List Int} {i : Nat} {v : Int} {k : List Int → Option β} {r : Option β} (hi : i < l.length) (h : k (l.set i v) = r) : (upd l i v).bind k = r := by
  unfold upd; rw [if_pos hi]; exact h
theorem e_put {β : Type} {l m : List Int} {o : Nat} {k : List Int → Option β} {r : Option β} (hi : o + m.length ≤ l.length) (h : k (l.take o ++ m ++ l.drop (o + m.length)) = r) : (EV.put l o m).bind k = r := by
  unfold EV.put; rw [if_pos hi]; exact h
theorem e_cT {β : Type} {A B r : Option β} (h : A = r) : cond true A B = r := h
theorem e_cF {β : Type} {A B r : Option β} (h : B = r) : cond false A B = r := h
theorem e_cTT {β : Type} {A B r : Option β} (h : A = r) : cond (true == true) A B = r := h
theorem e_cFT {β : Type} {A B r : Option β} (h : B = r) : cond (false == true) A B = r := h
theorem e_cFF {β : Type} {A B r : Option β} (h : A = r) : cond (false == false) A B = r := h
theorem e_decT {β : Type} {p : Prop} [Decidable p] {k : Bool → Option β} {r : Option β} (hp : p) (h : k true = r) : nm (decide p) k = r := by rw [show decide p = true from decide_eq_true hp]; exact h
theorem e_decF {β : Type} {p : Prop} [Decidable p] {k : Bool → Option β} {r : Option β} (hp : ¬ p) (h : k false = r) : nm (decide p) k = r := by rw [show decide p = false from decide_eq_false hp]; exact h
theorem e_eqT {β : Type} {a b : Int} {k : Bool → Option β} {r : Option β} (hp : a = b) (h : k true = r) : nm (a == b) k = r := by rw [show (a == b) = true by simpa using hp]; exact h
theorem e_eqF {β : Type} {a b : Int} {k : Bool → Option β} {r : Option β} (hp : a ≠ b) (h : k false = r) : nm (a == b) k = r := by rw [show (a == b) = false by simpa using hp]; exact h
theorem e_neT {β : Type} {a b : Int} {k : Bool → Option β} {r : Option β} (hp : a ≠ b) (h : k true = r) : nm (a != b) k = r := by rw [show (a != b) = true by simpa using hp]; exact h
theorem e_neF {β : Type} {a b : Int} {k : Bool → Option β} {r : Option β} (hp : a = b) (h : k false = r) : nm (a != b) k = r := by rw [show (a != b) = false by simpa using hp]; exact h
theorem e_notT {β : Type} {k : Bool → Option β} {r : Option β} (h : k false = r) : nm (!true) k = r := h
theorem e_notF {β : Type} {k : Bool → Option β} {r : Option β} (h : k true = r) : nm (!false) k = r := h
theorem w_i64 {x : Int} (h : -9223372036854775808 ≤ x ∧ x < 9223372036854775808) : IntKind.i64.wrap x = x := by
  unfold IntKind.wrap; simp only [IntKind.bits, IntKind.signed]; simp only [Bool.true_and, decide_eq_true_eq, ge_iff_le]
  have e : (2 : Int) ^ 64 = 18446744073709551616 := by decide
  have e2 : (2 : Int) ^ (64 - 1) = 9223372036854775808 := by decide
  rw [e, e2]; split <;> omega
theorem w_u64 {x : Int} (h : 0 ≤ x ∧ x < 18446744073709551616) : IntKind.u64.wrap x = x := by
  unfold IntKind.wrap; simp only [IntKind.bits, IntKind.signed, Bool.false_and, Bool.false_eq_true, if_false]
  have e : (2 : Int) ^ 64 = 18446744073709551616 := by decide
  rw [e]; omega
theorem w_u64' (x : Int) : IntKind.u64.wrap x = x % 18446744073709551616 := by
  unfold IntKind.wrap; simp only [IntKind.bits, IntKind.signed, Bool.false_and, Bool.false_eq_true, if_false]; rfl
theorem w_u32' (x : Int) : IntKind.u32.wrap x = x % 4294967296 := by
  unfold IntKind.wrap; simp only [IntKind.bits, IntKind.signed, Bool.false_and, Bool.false_eq_true, if_false]; rfl
theorem w_u8' (x : Int) : IntKind.u8.wrap x = x % 256 := by
  unfold IntKind.wrap; simp only [IntKind.bits, IntKind.signed, Bool.false_and, Bool.false_eq_true, if_false]; rfl
theorem w_u32 {x : Int} (h : 0 ≤ x ∧ x < 4294967296) : IntKind.u32.wrap x = x := by rw [w_u32']; omega
theorem w_u8 {x : Int} (h : 0 ≤ x ∧ x < 256) : IntKind.u8.wrap x = x := by rw [w_u8']; omega
theorem e_wi {β : Type} {x : Int} {k : Int → Option β} {r : Option β} (hx : -9223372036854775808 ≤ x ∧ x < 9223372036854775808) (h : k x = r) : nm (IntKind.i64.wrap x) k = r := by rw [w_i64 hx]; exact h
theorem e_wu {β : Type} {x : Int} {k : Int → Option β} {r : Option β} (hx : 0 ≤ x ∧ x < 18446744073709551616) (h : k x = r) : nm (IntKind.u64.wrap x) k = r := by rw [w_u64 hx]; exact h
theorem e_wu8 {β : Type} {x : Int} {k : Int → Option β} {r : Option β} (hx : 0 ≤ x ∧ x < 256) (h : k x = r) : nm (IntKind.u8.wrap x) k = r := by rw [w_u8 hx]; exact h
theorem e_mod {β : Type} {x y : Int} {k : Int → Option β} {r : Option β} (hx : 0 ≤ x) (h : k (x % y) = r) : nm (x.tmod y) k = r := by
  rw [Int.tmod_eq_emod_of_nonneg hx]; exact h
theorem e_ite {β : Type} {p : Prop} [Decidable p] {a b : Int} {k : Int → Option β} {r : Option β} (hp : p) (h : k a = r) : nm (if p then a else b) k = r := by rw [if_pos hp]; exact h
theorem e_iteF {β : Type} {p : Prop} [Decidable p] {a b : Int} {k : Int → Option β} {r : Option β} (hp : ¬ p) (h : k b = r) : nm (if p then a else b) k = r := by rw [if_neg hp]; exact h

/-- a loop that is run along a row of states -/
theorem itr_run {σ τ : Type} {b : (σ → Option τ) → σ → Option τ} (st : Nat → σ) (n : Nat) (out : τ) (h1 : ∀ k, k < n → ∀ rec, b rec (st k) = rec (st (k + 1))) (h2 : ∀ rec, b rec (st n) = some out) {fu : Nat} (hf : n < fu) : itr b fu (st 0) = some out := by
  have key : ∀ d k fu, k + d = n → d < fu → itr b fu (st k) = some out := by
    intro d
    induction d with
    | zero => intro k fu hk hfu; obtain ⟨m, rfl⟩ : ∃ m, fu = m + 1 := ⟨fu - 1, by omega⟩; have : k = n := by omega
              subst this; exact h2 _
    | succ d ih => intro k fu hk hfu; obtain ⟨m, rfl⟩ : ∃ m, fu = m + 1 := ⟨fu - 1, by omega⟩
                   show b (itr b m) (st k) = _
                   rw [h1 k (by omega)]; exact ih (k + 1) m (by omega) (by omega)
  exact key n 0 fu (by omega) hf
theorem sub_length (l : List Int) (o n : Nat) : (sub l o n).length = min n (l.length - o) := by simp [sub]
theorem sub_all {l : List Int} {n : Nat} (h : l.length ≤ n) : sub l 0 n = l := by simp [sub, List.take_of_length_le h]
end Go.EV

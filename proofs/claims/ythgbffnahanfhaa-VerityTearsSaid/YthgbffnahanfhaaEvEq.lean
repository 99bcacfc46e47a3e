/- Lemmas on what lowered instructions do, part EvEq. No condition but those that a theorem names. -/
import Derived.Test.YthgbffnahanfhaaEvS4
import Derived.ChangeKeysEq
set_option linter.unusedVariables false
set_option linter.unusedSimpArgs false
namespace Go.EV
open Go
variable {P : Program} {a : Act} {w : World}

theorem allK_get {k : IntKind} {l : List C} {m : List Int} (h : allK k l) (hm : ints l = some m) : m.length = l.length ∧ ∀ (i : Nat) (x : Int), m[i]? = some x → l[i]? = some (C.v (.int k x)) := by
  induction l generalizing m with
  | nil => simp only [ints, Option.some.injEq] at hm; subst hm; simp
  | cons c r ih =>
    match c, h with
    | .v (.int k' n), ⟨hk, hr⟩ =>
      subst hk
      unfold ints at hm
      cases h2 : ints r with
      | none => rw [h2] at hm; cases hm
      | some l' =>
        rw [h2] at hm
        have hm : some (n :: l') = some m := hm
        cases hm
        obtain ⟨h3, h4⟩ := ih hr h2
        refine ⟨by simp [h3], fun i x hx => ?_⟩
        cases i with
        | zero => simp at hx; subst hx; rfl
        | succ i => simpa using h4 i x (by simpa using hx)

theorem eqItems_ints {d : Nat} {e : TypeId} {k : IntKind} (he : P.underlying e = some (.int k)) {xs ys : List C} {l m : List Int} (hx : allK k xs) (hy : allK k ys) (hl : ints xs = some l) (hm : ints ys = some m)
    (hlen : xs.length = ys.length) : ∀ (is : List Nat), (∀ i ∈ is, i < xs.length) →
    (Op.eqItems (d + 1) e 1 (xs.map C.den).toArray (ys.map C.den).toArray is).run P w = .ok (is.all fun i => l.getD i 0 == m.getD i 0) w
  | [], _ => by simp [Op.eqItems]
  | i :: is, h => by
    obtain ⟨l1, l2⟩ := allK_get hx hl
    obtain ⟨m1, m2⟩ := allK_get hy hm
    have hi := h i (by simp)
    have hil : i < l.length := by omega
    have him : i < m.length := by omega
    have gx := l2 i l[i] (List.getElem?_eq_getElem hil)
    have gy := m2 i m[i] (List.getElem?_eq_getElem him)
    have hag : isAggT P e = false := by simp [isAggT, he]
    have hsome : (P.underlying e).isSome = true := by simp [he]
    have px : (part e (xs.map C.den).toArray (i * 1)).run P w = .ok (.int k l[i]) w := by rw [Nat.mul_one]; exact part_cell hsome hag gx
    have py : (part e (ys.map C.den).toArray (i * 1)).run P w = .ok (.int k m[i]) w := by rw [Nat.mul_one]; exact part_cell hsome hag gy
    have ih := eqItems_ints (d := d) he hx hy hl hm hlen is (fun j hj => h j (by simp [hj]))
    simp only [Op.eqItems, Sem.run_bind, px, py, Result.andThen_ok, run_equalIn_int w d e k k l[i] m[i] he]
    simp only [List.all_cons, List.getD_eq_getElem?_getD, List.getElem?_eq_getElem hil, List.getElem?_eq_getElem him, Option.getD_some]
    cases hq : (l[i] == m[i]) with
    | false => simp [pure]
    | true =>
      simp only [Bool.not_true, Bool.false_eq_true, if_false, Bool.true_and]
      exact ih

theorem all_range (l m : List Int) (h : l.length = m.length) : ((List.range l.length).all fun i => l.getD i 0 == m.getD i 0) = (l == m) := by
  rw [Bool.eq_iff_iff]
  simp only [List.all_eq_true, List.mem_range, beq_iff_eq]
  constructor
  · intro hh
    apply List.ext_getElem h
    intro i h1 h2
    have := hh i h1
    simpa [List.getD_eq_getElem?_getD, List.getElem?_eq_getElem h1, List.getElem?_eq_getElem h2] using this
  · intro e i _; rw [e]

theorem equal_ints {t e : TypeId} {n : Nat} {k : IntKind} (ht : P.underlying t = some (.array n e)) (he : P.underlying e = some (.int k)) (hc : P.cellsOf e = 1) {xs ys : List C} {l m : List Int}
    (hx : allK k xs) (hy : allK k ys) (hl : ints xs = some l) (hm : ints ys = some m) (hxn : xs.length = n) (hyn : ys.length = n) :
    (Op.equal t (.agg (xs.map C.den).toArray) (.agg (ys.map C.den).toArray)).run P w = .ok (l == m) w := by
  obtain ⟨i, hi⟩ := info_of_underlying he
  unfold Op.equal
  rw [show Op.maxDepth = 9999 + 1 from rfl, run_equalIn_array w 9999 _ _ ht hi, hc]
  rw [eqItems_ints (d := 9998) he hx hy hl hm (by omega) (List.range n) (fun j hj => by have := List.mem_range.1 hj; omega)]
  obtain ⟨l1, _⟩ := allK_get hx hl
  obtain ⟨m1, _⟩ := allK_get hy hm
  rw [← all_range l m (by omega), show l.length = n by omega]

theorem sound_eqg {d : Option Tmp} {neg : Bool} {t e : TypeId} {n : Nat} {k : IntKind} {x y : Operand} {ty type : TypeId} {pos : String} {after : Array Edge} {g : Option (Nat × Bool)} {x' y' : A} {sl : List (Nat × SV)} {v : SV} {pc : Prop}
    (ht : P.underlying t = some (.array n e)) (he : P.underlying e = some (.int k)) (hc : P.cellsOf e = 1) (hgd : P.eqGuardType P.depth t = false)
    (hx : A.of x = some x') (hy : A.of y = some y') (hs : SlOK sl a) (hv : (IS.eqg neg n k x' y').val sl = some (v, pc)) (hp : pc) :
    (execOp a.eval ⟨d, .binOp (if neg then .neq else .eql) t x y ty, type, pos, after, g⟩).run P w = .ok (.value v.den) w := by
  simp only [IS.val] at hv
  split at hv
  · rename_i xs ys e1 e2
    split at hv <;> simp only [Option.some.injEq, Prod.mk.injEq, reduceCtorEq] at hv
    rename_i l m hl hm
    obtain ⟨rfl, rfl⟩ := hv
    obtain ⟨hkx, hky, hxn, hyn⟩ := hp
    have ex := ev_sound hs hx e1
    have ey := ev_sound hs hy e2
    simp only [SV.den] at ex ey
    have heq := equal_ints (P := P) (w := w) ht he hc hkx hky hl hm hxn hyn
    simp only [execOp]
    refine run_value ?_
    simp only [ex, ey]
    have hg : (eqGuard (if neg then .neq else .eql) t x y (.agg (xs.map C.den).toArray) (.agg (ys.map C.den).toArray)).run P w = .ok () w := by
      unfold eqGuard
      cases neg <;> simp [program, Sem.run_bind, Sem.run, hgd, pure, Result.andThen]
    rw [Sem.run_bind, hg]
    simp only [Result.andThen]
    cases neg
    · simp only [Bool.false_eq_true, if_false, binOp]; rw [Sem.run_bind, heq]; rfl
    · simp only [if_true, binOp]; rw [Sem.run_bind, heq]; rfl
  · cases hv

theorem sound_eqn {d : Option Tmp} {neg : Bool} {t e : TypeId} {x : Operand} {ty type : TypeId} {pos : String} {after : Array Edge} {g : Option (Nat × Bool)} {x' : A} {sl : List (Nat × SV)} {v : SV} {pc : Prop}
    (ht : P.underlying t = some (.pointer e)) (hx : A.of x = some x') (hs : SlOK sl a) (hv : (IS.eqn neg x').val sl = some (v, pc)) :
    (execOp a.eval ⟨d, .binOp (if neg then .neq else .eql) t x (.const (.pointer none)) ty, type, pos, after, g⟩).run P w = .ok (.value v.den) w := by
  have key : ∀ (p : Option Addr) (r : Bool), (r = p.isNone) → a.eval x = .pointer p → v = bb (if neg then !r else r) →
      (execOp a.eval ⟨d, .binOp (if neg then .neq else .eql) t x (.const (.pointer none)) ty, type, pos, after, g⟩).run P w = .ok (.value v.den) w := by
    intro p r hr ex hv
    subst hv
    simp only [execOp]
    refine run_value ?_
    have e0 : a.eval (.const (.pointer none)) = .pointer none := rfl
    simp only [ex, e0]
    have hg : (eqGuard (if neg then .neq else .eql) t x (.const (.pointer none)) (.pointer p) (.pointer none)).run P w = .ok () w := by
      unfold eqGuard; cases neg <;> simp [pure]
    rw [Sem.run_bind, hg]
    simp only [Result.andThen]
    have heq : (Op.equal t (.pointer p) (.pointer none)).run P w = .ok p.isNone w := by
      unfold Op.equal
      have h1 : ∀ d, (Op.equalIn (d + 1) t (.pointer p) (.pointer none)).run P w = .ok p.isNone w := by
        intro d
        unfold Op.equalIn
        rw [Sem.run_bind, run_underlying ht w]
        cases p <;> rfl
      exact h1 9999
    cases neg
    · simp only [Bool.false_eq_true, if_false, binOp]; rw [Sem.run_bind, heq, hr]; rfl
    · simp only [if_true, binOp]; rw [Sem.run_bind, heq, hr]; rfl
  simp only [IS.val] at hv
  split at hv <;> simp only [Option.some.injEq, Prod.mk.injEq, reduceCtorEq] at hv
  · rename_i id b o e1
    exact key (some ⟨b, o, none⟩) false rfl (ev_sound hs hx e1) (by rw [← hv.1]; cases neg <;> rfl)
  · rename_i e1
    exact key none true rfl (ev_sound hs hx e1) (by rw [← hv.1]; cases neg <;> rfl)
theorem sound_eqz {d : Option Tmp} {neg : Bool} {t e : TypeId} {x : Operand} {ty type : TypeId} {pos : String} {after : Array Edge} {g : Option (Nat × Bool)} {x' : A} {sl : List (Nat × SV)} {v : SV} {pc : Prop} {l0 c0 : Nat}
    (ht : P.underlying t = some (.slice e)) (hx : A.of x = some x') (hs : SlOK sl a) (hv : (IS.eqz neg x').val sl = some (v, pc)) :
    (execOp a.eval ⟨d, .binOp (if neg then .neq else .eql) t x (.const (.slice none l0 c0)) ty, type, pos, after, g⟩).run P w = .ok (.value v.den) w := by
  have key : ∀ (p : Option Addr) (l1 c1 : Nat) (r : Bool), (r = p.isNone) → a.eval x = .slice p l1 c1 → v = bb (if neg then !r else r) →
      (execOp a.eval ⟨d, .binOp (if neg then .neq else .eql) t x (.const (.slice none l0 c0)) ty, type, pos, after, g⟩).run P w = .ok (.value v.den) w := by
    intro p l1 c1 r hr ex hv
    subst hv
    simp only [execOp]
    refine run_value ?_
    have e0 : a.eval (.const (.slice none l0 c0)) = .slice none l0 c0 := rfl
    simp only [ex, e0]
    have hg : (eqGuard (if neg then .neq else .eql) t x (.const (.slice none l0 c0)) (.slice p l1 c1) (.slice none l0 c0)).run P w = .ok () w := by
      unfold eqGuard; cases neg <;> simp [pure]
    rw [Sem.run_bind, hg]
    simp only [Result.andThen]
    have heq : (Op.equal t (.slice p l1 c1) (.slice none l0 c0)).run P w = .ok p.isNone w := by
      unfold Op.equal
      have h1 : ∀ d, (Op.equalIn (d + 1) t (.slice p l1 c1) (.slice none l0 c0)).run P w = .ok p.isNone w := by
        intro d
        unfold Op.equalIn
        rw [Sem.run_bind, run_underlying ht w]
        cases p <;> rfl
      exact h1 9999
    cases neg
    · simp only [Bool.false_eq_true, if_false, binOp]; rw [Sem.run_bind, heq, hr]; rfl
    · simp only [if_true, binOp]; rw [Sem.run_bind, heq, hr]; rfl
  simp only [IS.val] at hv
  split at hv <;> simp only [Option.some.injEq, Prod.mk.injEq, reduceCtorEq] at hv
  · rename_i id b o l1 c1 e1
    exact key (some ⟨b, o, none⟩) l1 c1 false rfl (ev_sound hs hx e1) (by rw [← hv.1]; cases neg <;> rfl)
  · rename_i l1 c1 e1
    exact key none l1 c1 true rfl (ev_sound hs hx e1) (by rw [← hv.1]; cases neg <;> rfl)
end Go.EV

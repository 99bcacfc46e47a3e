/- Lemmas on what lowered instructions do, part EvB. No condition but those that a theorem names. -/
import Derived.Test.YthgbffnahanfhaaEvEq
set_option linter.unusedVariables false
set_option linter.unusedSimpArgs false
namespace Go.EV
open Go
variable {P : Program} {a : Act} {w : World}

theorem sound_bin {d : Option Tmp} {op : BinOp} {t : TypeId} {x y : Operand} {ty : TypeId} {type : TypeId} {pos : String} {after : Array Edge} {g : Option (Nat × Bool)} {x' y' : A} {sl : List (Nat × SV)} {v : SV} {pc : Prop}
    (hx : A.of x = some x') (hy : A.of y = some y') (hs : SlOK sl a) (hv : (IS.bin op x' y').val sl = some (v, pc)) (hp : pc) :
    (execOp a.eval ⟨d, .binOp op t x y ty, type, pos, after, g⟩).run P w = .ok (.value v.den) w := by
  simp only [execOp]
  refine run_value ?_
  rw [Sem.run_bind]
  simp only [IS.val] at hv
  split at hv
  · rename_i k m k' n e1 e2
    have ex := ev_sound hs hx e1
    have ey := ev_sound hs hy e2
    simp only [ex, ey, SV.den, C.den]
    have hg : (eqGuard op t x y (.int k m) (.int k' n)).run P w = .ok () w := by
      unfold eqGuard; split <;> simp [pure]
    rw [hg]
    simp only [Result.andThen]
    split at hv
    · exact shI_run hv hp
    · rename_i hsh
      split at hv
      · rename_i hk; subst hk; exact binI_run (by simpa using hsh) hv hp
      · cases hv
  · cases hv

theorem sound_binB {d : Option Tmp} {op : BinOp} {t : TypeId} {x y : Operand} {ty : TypeId} {type : TypeId} {pos : String} {after : Array Edge} {g : Option (Nat × Bool)} {x' y' : A} {sl : List (Nat × SV)} {v : SV} {pc : Prop}
    (hu : P.underlying t = some .bool) (hx : A.of x = some x') (hy : A.of y = some y') (hs : SlOK sl a) (hv : (IS.binB op x' y').val sl = some (v, pc)) :
    (execOp a.eval ⟨d, .binOp op t x y ty, type, pos, after, g⟩).run P w = .ok (.value v.den) w := by
  simp only [execOp]
  refine run_value ?_
  rw [Sem.run_bind]
  simp only [IS.val] at hv
  split at hv
  · rename_i p q e1 e2
    have ex := ev_sound hs hx e1
    have ey := ev_sound hs hy e2
    simp only [ex, ey, SV.den, C.den]
    have hg : (eqGuard op t x y (.bool p) (.bool q)).run P w = .ok () w := by
      unfold eqGuard; split <;> simp [pure]
    rw [hg]
    simp only [Result.andThen]
    split at hv <;> simp only [Option.some.injEq, Prod.mk.injEq, reduceCtorEq] at hv
    all_goals obtain ⟨rfl, rfl⟩ := hv
    · simp only [binOp]; rw [Sem.run_bind, equal_bool hu]; rfl
    · simp only [binOp]; rw [Sem.run_bind, equal_bool hu]; rfl
  · cases hv

theorem sound_binS {d : Option Tmp} {op : BinOp} {t : TypeId} {x y : Operand} {ty : TypeId} {type : TypeId} {pos : String} {after : Array Edge} {g : Option (Nat × Bool)} {x' y' : A} {sl : List (Nat × SV)} {v : SV} {pc : Prop}
    (hx : A.of x = some x') (hy : A.of y = some y') (hs : SlOK sl a) (hv : (IS.binS op x' y').val sl = some (v, pc)) :
    (execOp a.eval ⟨d, .binOp op t x y ty, type, pos, after, g⟩).run P w = .ok (.value v.den) w := by
  simp only [execOp]
  refine run_value ?_
  rw [Sem.run_bind]
  simp only [IS.val] at hv
  split at hv
  · rename_i p q e1 e2
    have ex := ev_sound hs hx e1
    have ey := ev_sound hs hy e2
    simp only [ex, ey, SV.den, C.den]
    have hg : (eqGuard op t x y (.string p) (.string q)).run P w = .ok () w := by
      unfold eqGuard; split <;> simp [pure]
    rw [hg]
    simp only [Result.andThen]
    split at hv <;> simp only [Option.some.injEq, Prod.mk.injEq, reduceCtorEq] at hv
    all_goals obtain ⟨rfl, rfl⟩ := hv
    all_goals simp [binOp, Op.stringOp, pure, bb, SV.den, C.den]
  · cases hv

theorem lowS_bin {d : Option Tmp} {op : BinOp} {t : TypeId} {x y : Operand} {ty : TypeId} {type : TypeId} {pos : String} {after : Array Edge} {g : Option (Nat × Bool)} {sl : List (Nat × SV)}
    {i : IS} {v : SV} {pc : Prop} (hl : lowS P (.binOp op t x y ty) = some i) (hs : SlOK sl a) (hv : i.val sl = some (v, pc)) (hp : pc) :
    (execOp a.eval ⟨d, .binOp op t x y ty, type, pos, after, g⟩).run P w = .ok (.value v.den) w := by
  simp only [lowS, Option.bind_eq_bind, Option.bind_eq_some_iff] at hl
  obtain ⟨x', hx, y', hy, hl⟩ := hl
  split at hl
  · simp only [Option.pure_def, Option.some.injEq] at hl
    subst hl
    exact sound_bin hx hy hs hv hp
  · split at hl
    · rename_i hu
      simp only [Option.pure_def, Option.some.injEq] at hl
      subst hl
      exact sound_binB hu hx hy hs hv
    · simp only [Option.pure_def, Option.some.injEq] at hl
      subst hl
      exact sound_binS hx hy hs hv
    · rename_i n e hu
      split at hl
      · rename_i k he
        split at hl
        · rename_i hc
          simp only [Option.pure_def, Option.some.injEq] at hl
          subst hl
          exact sound_eqg (neg := false) hu he hc.1 hc.2 hx hy hs hv hp
        · cases hl
      · rename_i k he
        split at hl
        · rename_i hc
          simp only [Option.pure_def, Option.some.injEq] at hl
          subst hl
          exact sound_eqg (neg := true) hu he hc.1 hc.2 hx hy hs hv hp
        · cases hl
      · cases hl
    · rename_i e hu
      have hyc : ∀ z, A.of y = some (.k z) → y = .const z := by
        intro z hz; cases y <;> simp only [A.of, Option.some.injEq, reduceCtorEq, A.k.injEq] at hz; subst hz; rfl
      split at hl
      · simp only [Option.pure_def, Option.some.injEq] at hl
        subst hl
        have := hyc _ hy; subst this
        exact sound_eqn (neg := false) hu hx hs hv
      · simp only [Option.pure_def, Option.some.injEq] at hl
        subst hl
        have := hyc _ hy; subst this
        exact sound_eqn (neg := true) hu hx hs hv
      · cases hl
    · rename_i e hu
      have hyc : ∀ z, A.of y = some (.k z) → y = .const z := by
        intro z hz; cases y <;> simp only [A.of, Option.some.injEq, reduceCtorEq, A.k.injEq] at hz; subst hz; rfl
      split at hl
      · simp only [Option.pure_def, Option.some.injEq] at hl
        subst hl
        have := hyc _ hy; subst this
        exact sound_eqz (neg := false) hu hx hs hv
      · simp only [Option.pure_def, Option.some.injEq] at hl
        subst hl
        have := hyc _ hy; subst this
        exact sound_eqz (neg := true) hu hx hs hv
      · cases hl
    · cases hl
end Go.EV

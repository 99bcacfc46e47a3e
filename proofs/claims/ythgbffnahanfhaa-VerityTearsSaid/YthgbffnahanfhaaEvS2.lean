/- Lemmas on what lowered instructions do, part EvS2. No condition but those that a theorem names. -/
import Derived.Test.YthgbffnahanfhaaEvS
set_option linter.unusedVariables false
set_option linter.unusedSimpArgs false
namespace Go.EV
open Go
variable {P : Program} {sl : List (Nat × SV)} {a : Act} {w : World}

theorem run_value {s : Sem Value} {v : Value} (h : s.run P w = .ok v w) : (do pure (Next.value (← s)) : Sem Next).run P w = .ok (.value v) w := by
  rw [Sem.run_bind, h]; rfl

theorem binI_run {op : BinOp} {k : IntKind} {x y : Int} {t : TypeId} {v : SV} {pc : Prop} (hs : isSh op = false) (h : binI op k x y = some (v, pc)) (hp : pc) :
    (binOp op t (.int k x) (.int k y)).run P w = .ok v.den w := by
  cases op <;> simp only [isSh, Bool.true_eq_false] at hs <;> simp only [binI, Option.some.injEq, Prod.mk.injEq, reduceCtorEq] at h
  all_goals (obtain ⟨rfl, rfl⟩ := h)
  all_goals simp only [binOp, ne_eq, not_true_eq_false, if_false]
  all_goals first | rfl | skip
  · unfold Op.intDiv; rw [if_neg hp]; rfl
  · unfold Op.intDiv; rw [if_neg hp]; rfl

theorem shI_run {op : BinOp} {k k' : IntKind} {x y : Int} {t : TypeId} {v : SV} {pc : Prop} (h : shI op k x y = some (v, pc)) (hp : pc) :
    (binOp op t (.int k x) (.int k' y)).run P w = .ok v.den w := by
  cases op <;> simp only [shI, Option.some.injEq, Prod.mk.injEq, reduceCtorEq] at h
  all_goals (obtain ⟨rfl, rfl⟩ := h)
  all_goals (simp only [binOp]; unfold Op.shift; rw [if_neg (by omega)]; rfl)

theorem equalIn_bool {n : Nat} {t : TypeId} {p q : Bool} (hu : P.underlying t = some .bool) : (Op.equalIn (n + 1) t (.bool p) (.bool q)).run P w = .ok (p == q) w := by
  simp only [Op.equalIn]
  rw [Sem.run_bind, run_underlying hu w]
  rfl
theorem equal_bool {t : TypeId} {p q : Bool} (hu : P.underlying t = some .bool) : (Op.equal t (.bool p) (.bool q)).run P w = .ok (p == q) w :=
  equalIn_bool (n := 9999) hu

theorem lowS_un {d : Option Tmp} {op : UnOp} {t : TypeId} {x : Operand} {type : TypeId} {pos : String} {after : Array Edge} {g : Option (Nat × Bool)}
    {i : IS} {v : SV} {pc : Prop} (hl : lowS P (.unOp op t x) = some i) (hs : SlOK sl a) (hv : i.val sl = some (v, pc)) (_hp : pc) :
    (execOp a.eval ⟨d, .unOp op t x, type, pos, after, g⟩).run P w = .ok (.value v.den) w := by
  simp only [lowS, Option.map_eq_some_iff] at hl
  obtain ⟨x', hx, rfl⟩ := hl
  simp only [execOp]
  refine run_value ?_
  simp only [IS.val] at hv
  split at hv <;> simp only [Option.some.injEq, Prod.mk.injEq, reduceCtorEq] at hv
  all_goals (obtain ⟨rfl, rfl⟩ := hv; rename_i e1; have ex := ev_sound hs hx e1; simp only [ex, SV.den, C.den])
  all_goals first | rfl | simp [Op.unary, Op.intArith, Op.intBits, ib, bb, SV.den, C.den, pure]

theorem lowS_cv {d : Option Tmp} {s t : TypeId} {x : Operand} {type : TypeId} {pos : String} {after : Array Edge} {g : Option (Nat × Bool)}
    {i : IS} {v : SV} {pc : Prop} (hl : lowS P (.convert s t x) = some i) (hs : SlOK sl a) (hv : i.val sl = some (v, pc)) (_hp : pc)
    (hsrc : (P.underlying s).isSome = true) :
    (execOp a.eval ⟨d, .convert s t x, type, pos, after, g⟩).run P w = .ok (.value v.den) w := by
  simp only [lowS] at hl
  split at hl
  · rename_i k hu
    simp only [Option.map_eq_some_iff] at hl
    obtain ⟨x', hx, rfl⟩ := hl
    simp only [execOp]
    refine run_value ?_
    simp only [IS.val] at hv
    split at hv <;> simp only [Option.some.injEq, Prod.mk.injEq, reduceCtorEq] at hv
    obtain ⟨rfl, rfl⟩ := hv
    rename_i e1
    have ex := ev_sound hs hx e1
    simp only [ex, SV.den, C.den]
    obtain ⟨ds, hds⟩ := Option.isSome_iff_exists.1 hsrc
    unfold convert
    rw [Sem.run_bind, run_underlying hds w]
    simp only [Result.andThen]
    rw [Sem.run_bind, run_underlying hu w]
    simp only [Result.andThen]
    cases ds <;> simp [Conv.intToInt, ib, SV.den, C.den, pure]
  · cases hl
end Go.EV

/- Lemmas on what lowered instructions do, part EvS3. No condition but those that a theorem names. -/
import Derived.Test.YthgbffnahanfhaaEvS2
set_option linter.unusedVariables false
set_option linter.unusedSimpArgs false
namespace Go.EV
open Go
variable {P : Program} {sl : List (Nat × SV)} {a : Act} {w : World}


/-- what an instruction of slots does, for its op -/
def Sound (P : Program) (op : Op) (i : IS) : Prop :=
  ∀ (sl : List (Nat × SV)) (a : Act) (w : World) (v : SV) (pc : Prop) (d : Option Tmp) (type : TypeId) (pos : String) (after : Array Edge) (g : Option (Nat × Bool)),
    SlOK sl a → i.val sl = some (v, pc) → pc → (execOp a.eval ⟨d, op, type, pos, after, g⟩).run P w = .ok (.value v.den) w

theorem sound_move {x : Operand} {i : IS} (hl : lowS P (.move x) = some i) : Sound P (.move x) i := by
  intro sl a w v pc d type pos after g hs hv hp
  simp only [lowS, Option.map_eq_some_iff] at hl
  obtain ⟨x', hx, rfl⟩ := hl
  simp only [IS.val] at hv
  split at hv <;> simp only [Option.some.injEq, Prod.mk.injEq, reduceCtorEq] at hv
  obtain ⟨rfl, rfl⟩ := hv
  rename_i e1
  simp only [execOp, ev_sound hs hx e1]; rfl
theorem sound_assign {x : Operand} {i : IS} (hl : lowS P (.assign x) = some i) : Sound P (.assign x) i := by
  intro sl a w v pc d type pos after g hs hv hp
  simp only [lowS, Option.map_eq_some_iff] at hl
  obtain ⟨x', hx, rfl⟩ := hl
  simp only [IS.val] at hv
  split at hv <;> simp only [Option.some.injEq, Prod.mk.injEq, reduceCtorEq] at hv
  obtain ⟨rfl, rfl⟩ := hv
  rename_i e1
  simp only [execOp, ev_sound hs hx e1]; rfl
theorem sound_pick {x y z : Operand} {i : IS} (hl : lowS P (.pick x y z) = some i) : Sound P (.pick x y z) i := by
  intro sl a w v pc d type pos after g hs hv hp
  simp only [lowS, Option.bind_eq_bind, Option.bind_eq_some_iff, Option.pure_def, Option.some.injEq] at hl
  obtain ⟨x', hx, y', hy, z', hz, rfl⟩ := hl
  simp only [IS.val] at hv
  split at hv <;> simp only [Option.some.injEq, Prod.mk.injEq, reduceCtorEq] at hv
  obtain ⟨rfl, rfl⟩ := hv
  rename_i e1 e2 e3
  simp only [execOp, ev_sound hs hx e1, ev_sound hs hy e2, ev_sound hs hz e3, SV.den, C.den]
  simp only [asBool]
  rw [Sem.run_bind]
  simp only [pure, Sem.run, Result.andThen]
  split <;> rfl
theorem sound_nil {x : Operand} {i : IS} (hl : lowS P (.nilCheck x) = some i) : Sound P (.nilCheck x) i := by
  intro sl a w v pc d type pos after g hs hv hp
  simp only [lowS, Option.map_eq_some_iff] at hl
  obtain ⟨x', hx, rfl⟩ := hl
  simp only [IS.val] at hv
  split at hv <;> simp only [Option.some.injEq, Prod.mk.injEq, reduceCtorEq] at hv
  obtain ⟨rfl, rfl⟩ := hv
  rename_i e1
  simp only [execOp, ev_sound hs hx e1, SV.den, C.den]; rfl
theorem sound_ext {x : Operand} {n : Nat} {i : IS} (hl : lowS P (.extract x n) = some i) : Sound P (.extract x n) i := by
  intro sl a w v pc d type pos after g hs hv hp
  simp only [lowS, Option.map_eq_some_iff] at hl
  obtain ⟨x', hx, rfl⟩ := hl
  simp only [IS.val] at hv
  split at hv <;> simp only [Option.some.injEq, Prod.mk.injEq, reduceCtorEq] at hv
  all_goals (obtain ⟨rfl, rfl⟩ := hv; rename_i e1; simp only [execOp, ev_sound hs hx e1, SV.den]; rfl)

theorem fieldPlace_run {bk o : Nat} {f : Field} (h : P.cellsOf f.type ≠ 0) : (fieldPlace ⟨bk, o, none⟩ f).run P w = .ok ⟨bk, o + f.offset, none⟩ w := by
  unfold fieldPlace
  have hi : (P.info? f.type).isNone = false := by
    cases hi : P.info? f.type with
    | none => exact absurd (by simp [Program.cellsOf, hi]) h
    | some i => rfl
  rw [Sem.run_bind, info_of_cells hi w]
  simp only [Result.andThen, h, if_false]
  simp only [Addr.add]
  split
  · rename_i h0; rw [h0]; rfl
  · rfl
theorem sound_fa {s : TypeId} {x : Operand} {n : Nat} {i : IS} (hl : lowS P (.fieldAddr s x n) = some i) : Sound P (.fieldAddr s x n) i := by
  intro sl a w v pc d type pos after g hs hv hp
  simp only [lowS] at hl
  split at hl
  · rename_i fs hu
    split at hl
    · rename_i fd hf
      split at hl
      · cases hl
      · rename_i hc
        simp only [Option.map_eq_some_iff] at hl
        obtain ⟨x', hx, rfl⟩ := hl
        simp only [IS.val] at hv
        split at hv <;> simp only [Option.some.injEq, Prod.mk.injEq, reduceCtorEq] at hv
        obtain ⟨rfl, rfl⟩ := hv
        rename_i e1
        simp only [execOp, ev_sound hs hx e1, SV.den, C.den]
        refine run_value ?_
        unfold Instr.fieldAt
        rw [Sem.run_bind, run_underlying hu w]
        simp only [Result.andThen, hf, Instr.sureAddr]
        rw [Sem.run_bind]
        simp only [pure, Sem.run, Result.andThen]
        rw [Sem.run_bind, fieldPlace_run hc]
        rfl
    · cases hl
  · cases hl

theorem part_agg {e : TypeId} {l : List C} {off : Nat} (hi : (P.underlying e).isSome = true) (hg : isAggT P e = true) :
    (part e (l.map C.den).toArray off).run P w = .ok (.agg ((cut l off (P.cellsOf e)).map C.den).toArray) w := by
  unfold part
  rw [Sem.run_bind, isAgg_run hi w, hg]
  simp only [Result.andThen, if_true]
  rw [Sem.run_bind, info_of_cells (info_of_und hi) w]
  simp only [Result.andThen, pure, Sem.run]
  congr 2
  apply Array.ext'
  simp [cut, List.extract, List.map_drop, List.map_take]
theorem part_cell {e : TypeId} {l : List C} {off : Nat} {x : C} (hi : (P.underlying e).isSome = true) (hg : isAggT P e = false) (hx : l[off]? = some x) :
    (part e (l.map C.den).toArray off).run P w = .ok x.den w := by
  unfold part
  rw [Sem.run_bind, isAgg_run hi w, hg]
  simp only [Result.andThen, Bool.false_eq_true, if_false]
  simp [hx, pure]
theorem sound_fl {s : TypeId} {x : Operand} {n : Nat} {i : IS} (hl : lowS P (.field s x n) = some i) : Sound P (.field s x n) i := by
  intro sl a w v pc d type pos after g hs hv hp
  simp only [lowS] at hl
  split at hl
  · rename_i fs hu
    split at hl
    · rename_i fd hf
      split at hl
      · rename_i hi
        simp only [Option.map_eq_some_iff] at hl
        obtain ⟨x', hx, rfl⟩ := hl
        simp only [IS.val] at hv
        split at hv
        · rename_i l e1
          simp only [execOp, ev_sound hs hx e1, SV.den]
          refine run_value ?_
          unfold Instr.field
          rw [Sem.run_bind, run_underlying hu w]
          simp only [Result.andThen, hf, asAgg]
          rw [Sem.run_bind]
          simp only [pure, Sem.run, Result.andThen]
          split at hv
          · rename_i hg
            simp only [Option.some.injEq, Prod.mk.injEq] at hv
            obtain ⟨rfl, rfl⟩ := hv
            exact part_agg hi hg
          · rename_i hg
            split at hv <;> simp only [Option.some.injEq, Prod.mk.injEq, reduceCtorEq] at hv
            rename_i c hc
            obtain ⟨rfl, rfl⟩ := hv
            exact part_cell hi (by simpa using hg) hc
        · cases hv
      · cases hl
    · cases hl
  · cases hl

theorem Addr_add {b o n : Nat} : (⟨b, o, none⟩ : Addr).add n = ⟨b, o + n, none⟩ := by
  unfold Addr.add; split
  · rename_i h; subst h; rfl
  · rfl

theorem sound_ia {t : TypeId} {x y : Operand} {i : IS} (hl : lowS P (.indexAddr t x y) = some i) : Sound P (.indexAddr t x y) i := by
  intro sl a w v pc d type pos after g hs hv hp
  simp only [lowS] at hl
  split at hl
  · rename_i n e hu
    split at hl
    · cases hl
    · rename_i hi
      have hi : (P.info? e).isNone = false := (Bool.not_eq_true _).mp hi
      simp only [Option.bind_eq_bind, Option.bind_eq_some_iff, Option.pure_def, Option.some.injEq] at hl
      obtain ⟨x', hx, y', hy, rfl⟩ := hl
      simp only [IS.val] at hv
      split at hv <;> simp only [Option.some.injEq, Prod.mk.injEq, reduceCtorEq] at hv
      obtain ⟨rfl, rfl⟩ := hv
      rename_i e1 e2
      simp only [execOp, ev_sound hs hx e1, ev_sound hs hy e2, SV.den, C.den]
      refine run_value ?_
      unfold Instr.indexAt
      simp [asIntOf, Sem.run_bind, run_underlying hu, Instr.sureAddr, pure, Sem.run, Result.andThen, hp.1, hp.2, info_of_cells hi, Addr_add]
  · rename_i e hu
    split at hl
    · cases hl
    · rename_i hi
      have hi : (P.info? e).isNone = false := (Bool.not_eq_true _).mp hi
      simp only [Option.bind_eq_bind, Option.bind_eq_some_iff, Option.pure_def, Option.some.injEq] at hl
      obtain ⟨x', hx, y', hy, rfl⟩ := hl
      simp only [IS.val] at hv
      split at hv <;> simp only [Option.some.injEq, Prod.mk.injEq, reduceCtorEq] at hv
      obtain ⟨rfl, rfl⟩ := hv
      rename_i e1 e2
      simp only [execOp, ev_sound hs hx e1, ev_sound hs hy e2, SV.den, C.den]
      refine run_value ?_
      unfold Instr.indexAt
      simp [asIntOf, Sem.run_bind, run_underlying hu, pure, Sem.run, Result.andThen, hp.1, hp.2, info_of_cells hi, Addr_add]
  · cases hl

theorem sound_ix {t : TypeId} {x y : Operand} {i : IS} (hl : lowS P (.index t x y) = some i) : Sound P (.index t x y) i := by
  intro sl a w v pc d type pos after g hs hv hp
  simp only [lowS] at hl
  split at hl
  · rename_i n e hu
    split at hl
    · cases hl
    · rename_i hi
      have hi : (P.underlying e).isSome = true := by cases hq : P.underlying e <;> simp_all
      split at hl
      · cases hl
      · rename_i hsz
        simp only [Option.bind_eq_bind, Option.bind_eq_some_iff, Option.pure_def, Option.some.injEq] at hl
        obtain ⟨x', hx, y', hy, rfl⟩ := hl
        simp only [IS.val] at hv
        split at hv
        · rename_i l k m e1 e2
          simp only [execOp, ev_sound hs hx e1, ev_sound hs hy e2, SV.den, C.den]
          refine run_value ?_
          unfold Instr.index
          simp only [asIntOf, Sem.run_bind, run_underlying hu, pure, Sem.run, Result.andThen]
          split at hv
          · rename_i hg
            simp only [Option.some.injEq, Prod.mk.injEq] at hv
            obtain ⟨rfl, rfl⟩ := hv
            rw [if_pos ⟨hp.1, by omega⟩, Sem.run_bind, info_of_cells (info_of_und hi) w]
            simp only [Result.andThen]
            exact part_agg hi hg
          · rename_i hg
            simp only [Option.some.injEq, Prod.mk.injEq] at hv
            obtain ⟨rfl, rfl⟩ := hv
            rw [if_pos ⟨hp.1.1, by omega⟩, Sem.run_bind, info_of_cells (info_of_und hi) w, hint_eq hp.2.2]
            simp only [Result.andThen]
            have h1 : P.cellsOf e = 1 := by simp only [not_and, Decidable.not_not] at hsz; exact hsz (by simpa using hg)
            rw [h1, Nat.mul_one]
            refine part_cell hi (by simpa using hg) ?_
            rw [List.getD_eq_getElem?_getD, List.getElem?_eq_getElem hp.2.1]; rfl
        · cases hv
  · cases hl
end Go.EV

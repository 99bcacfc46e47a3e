/- Lemmas on what lowered instructions do, part EvS4. No condition but those that a theorem names. -/
import Derived.Test.YthgbffnahanfhaaEvS3
set_option linter.unusedVariables false
set_option linter.unusedSimpArgs false
namespace Go.EV
open Go
variable {P : Program} {sl : List (Nat × SV)} {a : Act} {w : World}

theorem optI_sound {dflt m : Int} {x : Option Operand} {y : Option A} (hs : SlOK sl a) (ho : ofO x = some y) (hv : optI sl dflt y = some m) :
    (x = none ∧ m = dflt) ∨ ∃ k, x.map a.eval = some (.int k m) := by
  cases x with
  | none => simp only [ofO, Option.some.injEq] at ho; subst ho; simp only [optI, Option.some.injEq] at hv; exact .inl ⟨rfl, hv.symm⟩
  | some x =>
    simp only [ofO, Option.map_eq_some_iff] at ho
    obtain ⟨x', hx, rfl⟩ := ho
    simp only [optI] at hv
    split at hv <;> simp only [Option.some.injEq, reduceCtorEq] at hv
    subst hv
    rename_i k n e1
    exact .inr ⟨k, by simp [ev_sound hs hx e1, SV.den, C.den]⟩

theorem sliceBound_run {k : IntKind} {i : Int} {y : Nat} {code : BoundsCode} (h0 : 0 ≤ i) (h1 : i ≤ y) : (Instr.sliceBound (.int k i) y code).run P w = .ok i.toNat w := by
  unfold Instr.sliceBound
  simp [asIntOf, Sem.run_bind, pure, Sem.run, Result.andThen, h0, h1]

def IsB (o : Option Value) (dflt m : Int) : Prop := (o = none ∧ m = dflt) ∨ ∃ k, o = some (.int k m)
theorem sliceBounds_val {b : Bool} {ln cap : Nat} {lo hi mx : Option Value} {l h m : Int} (hl : IsB lo 0 l) (hh : IsB hi ln h) (hm : IsB mx cap m)
    (h0 : 0 ≤ l) (h1 : l ≤ h) (h2 : h ≤ m) (h3 : m ≤ cap) (hmx : mx = none ∨ hi ≠ none) :
    (Instr.sliceBounds b ln cap lo hi mx).run P w = .ok (l.toNat, h.toNat, m.toNat) w := by
  have b1 : ∀ k c, (Instr.sliceBound (.int k m) cap c).run P w = .ok m.toNat w := fun k c => sliceBound_run (by omega) h3
  have b2 : ∀ k c, (Instr.sliceBound (.int k h) m.toNat c).run P w = .ok h.toNat w := fun k c => sliceBound_run (by omega) (by omega)
  have b3 : ∀ k c, (Instr.sliceBound (.int k l) h.toNat c).run P w = .ok l.toNat w := fun k c => sliceBound_run (by omega) (by omega)
  rcases hm with ⟨rfl, rfl⟩ | ⟨km, rfl⟩
  · rcases hh with ⟨rfl, rfl⟩ | ⟨kh, rfl⟩
    · rcases hl with ⟨rfl, rfl⟩ | ⟨kl, rfl⟩
      · simp [Instr.sliceBounds, pure]
      · simp only [Int.toNat_natCast] at b3
        simp [Instr.sliceBounds, Sem.run_bind, b3, Result.andThen, pure]
    · simp only [Int.toNat_natCast] at b2
      rcases hl with ⟨rfl, rfl⟩ | ⟨kl, rfl⟩
      · simp [Instr.sliceBounds, Sem.run_bind, b2, Result.andThen, pure]
      · simp [Instr.sliceBounds, Sem.run_bind, b2, b3, Result.andThen, pure]
  · rcases hh with ⟨rfl, rfl⟩ | ⟨kh, rfl⟩
    · rcases hmx with h | h
      · cases h
      · exact absurd rfl h
    · rcases hl with ⟨rfl, rfl⟩ | ⟨kl, rfl⟩
      · simp [Instr.sliceBounds, Sem.run_bind, b1, b2, Result.andThen, pure]
      · simp [Instr.sliceBounds, Sem.run_bind, b1, b2, b3, Result.andThen, pure]
theorem sliceBounds_run {b : Bool} {ln cap : Nat} {lo hi mx : Option Operand} {lo' hi' mx' : Option A} {l h m : Int} (hs : SlOK sl a)
    (ol : ofO lo = some lo') (oh : ofO hi = some hi') (om : ofO mx = some mx') (vl : optI sl 0 lo' = some l) (vh : optI sl ln hi' = some h) (vm : optI sl cap mx' = some m)
    (h0 : 0 ≤ l) (h1 : l ≤ h) (h2 : h ≤ m) (h3 : m ≤ cap) (hmx : mx = none ∨ hi ≠ none) :
    (Instr.sliceBounds b ln cap (lo.map a.eval) (hi.map a.eval) (mx.map a.eval)).run P w = .ok (l.toNat, h.toNat, m.toNat) w := by
  have f : ∀ {dflt : Int} {m : Int} {x : Option Operand} {y : Option A}, ofO x = some y → optI sl dflt y = some m → IsB (x.map a.eval) dflt m := fun ho hv => by
    rcases optI_sound hs ho hv with ⟨rfl, rfl⟩ | ⟨k, e⟩
    · exact .inl ⟨rfl, rfl⟩
    · exact .inr ⟨k, e⟩
  exact sliceBounds_val (f ol vl) (f oh vh) (f om vm) h0 h1 h2 h3 (by
    rcases hmx with rfl | h
    · exact .inl rfl
    · exact .inr (by cases hi <;> simp at h ⊢))

theorem sound_slice {t : TypeId} {x : Operand} {lo hi mx : Option Operand} {i : IS} (hl : lowS P (.slice t x lo hi mx) = some i) (hmx : mx = none ∨ hi ≠ none) : Sound P (.slice t x lo hi mx) i := by
  intro sl a w v pc d type pos after g hs hv hp
  simp only [lowS] at hl
  split at hl
  · rename_i e hu
    split at hl
    · cases hl
    · rename_i hq
      have hi' : (P.info? e).isNone = false := (Bool.not_eq_true _).mp hq
      simp only [Option.bind_eq_bind, Option.bind_eq_some_iff, Option.pure_def, Option.some.injEq] at hl
      obtain ⟨x', hx, lo', hlo, h', hhi, m', hm, rfl⟩ := hl
      simp only [IS.val] at hv
      split at hv
      · split at hv <;> simp only [Option.some.injEq, Prod.mk.injEq, reduceCtorEq] at hv
        obtain ⟨rfl, rfl⟩ := hv
        rename_i ln cap e1 _ _ _ l h m vl vh vm
        simp only [execOp, ev_sound hs hx e1, SV.den, C.den]
        refine run_value ?_
        unfold Instr.sliceAt
        rw [Sem.run_bind, run_underlying hu w]
        simp only [Result.andThen]
        unfold Instr.slice
        rw [Sem.run_bind, run_underlying hu w]
        simp only [Result.andThen]
        rw [Sem.run_bind, sliceBounds_run hs hlo hhi hm vl vh vm hp.1 hp.2.1 hp.2.2.1 hp.2.2.2 hmx]
        simp only [Result.andThen]
        rw [Sem.run_bind, info_of_cells hi' w]
        simp [Result.andThen, pure, Sem.run]
      · split at hv <;> simp only [Option.some.injEq, Prod.mk.injEq, reduceCtorEq] at hv
        obtain ⟨rfl, rfl⟩ := hv
        rename_i id b o ln cap e1 _ _ _ l h m vl vh vm
        simp only [execOp, ev_sound hs hx e1, SV.den, C.den]
        refine run_value ?_
        unfold Instr.sliceAt
        rw [Sem.run_bind, run_underlying hu w]
        simp only [Result.andThen]
        unfold Instr.slice
        rw [Sem.run_bind, run_underlying hu w]
        simp only [Result.andThen]
        rw [Sem.run_bind, sliceBounds_run hs hlo hhi hm vl vh vm hp.1 hp.2.1 hp.2.2.1 hp.2.2.2 hmx]
        simp only [Result.andThen]
        rw [Sem.run_bind, info_of_cells hi' w]
        simp only [Result.andThen, pure, Sem.run]
        by_cases hml : m = l
        · subst hml; simp
        · have : ¬ m.toNat = l.toNat := by omega
          simp [hml, this, Addr_add]
      · cases hv
  · rename_i n e hu
    split at hl
    · cases hl
    · rename_i hq
      have hi' : (P.info? e).isNone = false := (Bool.not_eq_true _).mp hq
      simp only [Option.bind_eq_bind, Option.bind_eq_some_iff, Option.pure_def, Option.some.injEq] at hl
      obtain ⟨x', hx, lo', hlo, h', hhi, m', hm, rfl⟩ := hl
      simp only [IS.val] at hv
      split at hv
      · split at hv <;> simp only [Option.some.injEq, Prod.mk.injEq, reduceCtorEq] at hv
        obtain ⟨rfl, rfl⟩ := hv
        rename_i id b o e1 _ _ _ l h m vl vh vm
        simp only [execOp, ev_sound hs hx e1, SV.den, C.den]
        refine run_value ?_
        unfold Instr.sliceAt
        rw [Sem.run_bind, run_underlying hu w]
        simp only [Result.andThen, Instr.sureAddr]
        rw [Sem.run_bind]
        simp only [pure, Sem.run, Result.andThen]
        rw [Sem.run_bind, sliceBounds_run hs hlo hhi hm vl vh vm hp.1 hp.2.1 hp.2.2.1 hp.2.2.2 hmx]
        simp only [Result.andThen]
        rw [Sem.run_bind, info_of_cells hi' w]
        simp only [Result.andThen, pure, Sem.run]
        by_cases hml : m = l
        · subst hml; simp
        · have : ¬ m.toNat = l.toNat := by omega
          simp [hml, this, Addr_add]
      · cases hv
  · cases hl

theorem sound_sap {t : TypeId} {x : Operand} {i : IS} (hl : lowS P (.sliceToArrayPointer t x) = some i) : Sound P (.sliceToArrayPointer t x) i := by
  intro sl a w v pc d type pos after g hs hv hp
  simp only [lowS] at hl
  split at hl
  · rename_i n e hu
    simp only [Option.map_eq_some_iff] at hl
    obtain ⟨x', hx, rfl⟩ := hl
    simp only [IS.val] at hv
    split at hv <;> simp only [Option.some.injEq, Prod.mk.injEq, reduceCtorEq] at hv
    obtain ⟨rfl, rfl⟩ := hv
    rename_i e1
    simp only [execOp, ev_sound hs hx e1, SV.den, C.den]
    refine run_value ?_
    unfold Instr.arrayAt
    rw [Sem.run_bind, run_underlying hu w]
    simp only [Result.andThen]
    rw [if_neg (by omega)]
    rfl
  · cases hl

theorem run_callBuiltin {c : Call} {b : Builtin} {d : Option Tmp} {type : TypeId} {pos : String} {after : Array Edge} {g : Option (Nat × Bool)} {r : Result Next} (hc : c.callee = .builtin b)
    (h : (builtin b c.argTypes type (c.args.map fun | .const _ => true | _ => false) (c.args.map a.eval)).run P w = r) :
    (execOp a.eval ⟨d, .call c, type, pos, after, g⟩).run P w = r := by
  simp only [execOp, resolve, hc]
  rw [Sem.run_bind]
  simp only [pure, Sem.run, Result.andThen, invoke]
  exact h

theorem sound_len {args : Array Operand} {ts : Array TypeId} {i : IS} (hl : lowS P (.call ⟨.builtin .len, args, ts⟩) = some i) : Sound P (.call ⟨.builtin .len, args, ts⟩) i := by
  intro sl a w v pc d type pos after g hs hv hp
  simp only [lowS] at hl
  refine run_callBuiltin rfl ?_
  simp only [builtin]
  refine run_value ?_
  unfold Builtin.len_
  split at hl
  · rename_i x t hx ht
    have hx' : (args.map a.eval)[0]? = some (a.eval x) := by simp [hx]
    simp only [ht, hx']
    split at hl
    · rename_i hu
      simp only [Option.map_eq_some_iff] at hl
      obtain ⟨x', hx, rfl⟩ := hl
      simp only [IS.val] at hv
      split at hv <;> simp only [Option.some.injEq, Prod.mk.injEq, reduceCtorEq] at hv
      all_goals obtain ⟨rfl, rfl⟩ := hv
      all_goals (rename_i e1; simp only [ev_sound hs hx e1, SV.den, C.den]; rw [Sem.run_bind, run_underlying hu w])
      rfl
    · rename_i hu
      simp only [Option.map_eq_some_iff] at hl
      obtain ⟨x', hx, rfl⟩ := hl
      simp only [IS.val] at hv
      split at hv <;> simp only [Option.some.injEq, Prod.mk.injEq, reduceCtorEq] at hv
      all_goals obtain ⟨rfl, rfl⟩ := hv
      all_goals (rename_i e1; simp only [ev_sound hs hx e1, SV.den, C.den]; rw [Sem.run_bind, run_underlying hu w])
      · rfl
      · rfl
    · rename_i n e hu
      simp only [Option.some.injEq] at hl
      subst hl
      simp only [IS.val, Option.some.injEq, Prod.mk.injEq] at hv
      obtain ⟨rfl, rfl⟩ := hv
      rw [Sem.run_bind, run_underlying hu w]
      cases a.eval x <;> rfl
    · rename_i arr hu
      split at hl <;> simp only [Option.some.injEq, reduceCtorEq] at hl
      rename_i n e hu2
      subst hl
      simp only [IS.val, Option.some.injEq, Prod.mk.injEq] at hv
      obtain ⟨rfl, rfl⟩ := hv
      rw [Sem.run_bind, run_underlying hu w]
      cases a.eval x <;> (simp only [Result.andThen]; rw [Sem.run_bind, run_underlying hu2 w]; rfl)
    · cases hl
  · cases hl

theorem sound_min {args : Array Operand} {ts : Array TypeId} {i : IS} (hl : lowS P (.call ⟨.builtin .min, args, ts⟩) = some i) :
    Sound P (.call ⟨.builtin .min, args, ts⟩) i := by
  intro sl a w v pc d type pos after g hs hv hp
  refine run_callBuiltin rfl ?_
  simp only [lowS] at hl
  simp only [builtin]
  refine run_value ?_
  split at hl <;> try (cases hl; done)
  rename_i x y hargs
  simp only [Option.bind_eq_bind, Option.bind_eq_some_iff, Option.pure_def, Option.some.injEq] at hl
  obtain ⟨x', hx, y', hy, rfl⟩ := hl
  simp only [IS.val] at hv
  split at hv <;> simp only [Option.some.injEq, Prod.mk.injEq, reduceCtorEq] at hv
  obtain ⟨rfl, rfl⟩ := hv
  rename_i e1 e2
  have hl2 : (args.map a.eval).toList = [a.eval x, a.eval y] := by simp [hargs]
  simp only [Builtin.min_, hl2, ev_sound hs hx e1, ev_sound hs hy e2, SV.den, C.den]
  rfl
theorem sound_max {args : Array Operand} {ts : Array TypeId} {i : IS} (hl : lowS P (.call ⟨.builtin .max, args, ts⟩) = some i) :
    Sound P (.call ⟨.builtin .max, args, ts⟩) i := by
  intro sl a w v pc d type pos after g hs hv hp
  refine run_callBuiltin rfl ?_
  simp only [lowS] at hl
  simp only [builtin]
  refine run_value ?_
  split at hl <;> try (cases hl; done)
  rename_i x y hargs
  simp only [Option.bind_eq_bind, Option.bind_eq_some_iff, Option.pure_def, Option.some.injEq] at hl
  obtain ⟨x', hx, y', hy, rfl⟩ := hl
  simp only [IS.val] at hv
  split at hv <;> simp only [Option.some.injEq, Prod.mk.injEq, reduceCtorEq] at hv
  obtain ⟨rfl, rfl⟩ := hv
  rename_i e1 e2
  have hl2 : (args.map a.eval).toList = [a.eval x, a.eval y] := by simp [hargs]
  simp only [Builtin.max_, hl2, ev_sound hs hx e1, ev_sound hs hy e2, SV.den, C.den]
  rfl

end Go.EV

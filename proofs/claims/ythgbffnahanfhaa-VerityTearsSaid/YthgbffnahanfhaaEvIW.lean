/- Lemmas on what lowered instructions do, part EvIW. No condition but those that a theorem names. -/
import Derived.Test.YthgbffnahanfhaaEvRel
import Derived.Test.YthgbffnahanfhaaEvB
set_option linter.unusedVariables false
set_option linter.unusedSimpArgs false
namespace Go.EV
open Go
variable {P : Program} {a : Act} {w : World}

theorem foldl_set (off : Nat) : ∀ (new : List Value) (j : Nat) (cs : Array Value), off + j + new.length ≤ cs.size →
    ((new.zipIdx j).foldl (fun (cs : Array Value) (p : Value × Nat) => cs.setIfInBounds (off + p.2) p.1) cs).toList = cs.toList.take (off + j) ++ new ++ cs.toList.drop (off + j + new.length)
  | [], j, cs, _ => by simp
  | v :: r, j, cs, h => by
    simp only [List.zipIdx_cons, List.foldl_cons]
    rw [foldl_set off r (j + 1) _ (by simp at h ⊢; omega)]
    have e := list_seg_step cs.toList (off + j) v r (by simp at h ⊢; omega)
    simpa [Array.toList_setIfInBounds, Nat.add_assoc] using e

theorem cells_den {v : SV} {new : List C} (h : v.cells? = some new) : v.den.cells.toList = new.map C.den := by
  cases v with
  | c x =>
    simp only [SV.cells?] at h
    split at h
    · rename_i hx
      cases h
      cases x with
      | v y => cases y <;> first | rfl | (simp [C.scal] at hx)
      | p => rfl
      | s => rfl
    · cases h
  | g l => cases h; simp [SV.den, Value.cells]
  | _ => cases h

theorem map_splice (cs : List C) (off : Nat) (new : List C) : (splice cs off new).map C.den = (cs.map C.den).take off ++ new.map C.den ++ (cs.map C.den).drop (off + (new.map C.den).length) := by
  simp [splice, List.map_take, List.map_drop]

theorem fill_sound {sl : List (Nat × SV)} (hs : SlOK sl a) (place : Nat → Option (Nat × Nat)) : ∀ (ps : List (Nat × Operand)) (ps' : List (Nat × Nat × A)) (cs cs' : List C),
    lowParts P place ps = some ps' → fillL sl ps' cs = some cs' → Instr.fill place (cs.map C.den).toArray (ps.map fun (i, x) => (i, a.eval x)) = some (cs'.map C.den).toArray
  | [], ps', cs, cs', hl, hf => by
    simp only [lowParts, Option.some.injEq] at hl; subst hl
    simp only [fillL, Option.some.injEq] at hf; subst hf
    rfl
  | (i, x) :: r, ps', cs, cs', hl, hf => by
    simp only [lowParts, Option.bind_eq_bind, Option.bind_eq_some_iff, Option.pure_def, Option.some.injEq] at hl
    obtain ⟨⟨off, n⟩, hp, y, hy, l, hr, rfl⟩ := hl
    simp only [fillL] at hf
    split at hf
    · rename_i v hv
      split at hf
      · rename_i new hnew
        split at hf
        · rename_i hc
          have hev := ev_sound hs hy hv
          have hcd := cells_den hnew
          have hsz : v.den.cells.size = n := by
            have := congrArg List.length hcd; simpa [hc.1] using this
          simp only [List.map_cons, Instr.fill, hp, hev]
          have : ¬ (v.den.cells.size ≠ n || decide (off + v.den.cells.size > ((cs.map C.den).toArray).size)) = true := by
            simp [hsz]; omega
          rw [if_neg this]
          have ih := fill_sound hs place r l (splice cs off new) cs' hr hf
          have hfold : (v.den.cells.zipIdx.foldl (fun cs (c, j) => cs.setIfInBounds (off + j) c) (cs.map C.den).toArray) = ((splice cs off new).map C.den).toArray := by
            have h1 := foldl_set off (new.map C.den) 0 (cs.map C.den).toArray (by simp; omega)
            apply Array.ext'
            rw [map_splice]
            simp only [Nat.add_zero] at h1
            rw [← h1, ← hcd]
            rw [← Array.toList_zipIdx, ← Array.foldl_toList]
          rw [hfold]
          exact ih
        · cases hf
      · cases hf
    · cases hf

theorem map_den_v (zs : List Value) : (zs.map C.v).map C.den = zs := by
  rw [List.map_map]; exact (List.map_congr_left fun x _ => rfl).trans (List.map_id zs)

theorem sound_bld {t : TypeId} {parts : Array (Nat × Operand)} {i : IS} (hl : lowS P (.build t parts) = some i) : Sound P (.build t parts) i := by
  intro sl a w v pc d type pos after g hs hv hp
  simp only [lowS] at hl
  have main : ∀ (place : Nat → Option (Nat × Nat)) (zs : List Value) (ps : List (Nat × Nat × A)), lowParts P place parts.toList = some ps → (IS.bld zs ps).val sl = some (v, pc) →
      (Instr.fill place zs.toArray (parts.map fun (i, x) => (i, a.eval x)).toList = some (v.den.cells)) ∧ v.den = .agg v.den.cells := by
    intro place zs ps hps hval
    simp only [IS.val] at hval
    split at hval <;> simp only [Option.some.injEq, Prod.mk.injEq, reduceCtorEq] at hval
    rename_i cs hcs
    obtain ⟨rfl, rfl⟩ := hval
    have := fill_sound hs place parts.toList ps (zs.map C.v) cs hps hcs
    rw [map_den_v] at this
    refine ⟨?_, rfl⟩
    simp only [SV.den, Value.cells, Array.toList_map]
    exact this
  simp only [execOp]
  refine run_value ?_
  split at hl
  · rename_i zs n e hz hu
    split at hl <;> simp only [Option.map_eq_some_iff, reduceCtorEq] at hl
    rename_i ie hie
    obtain ⟨ps, hps, rfl⟩ := hl
    obtain ⟨h1, h2⟩ := main _ zs ps hps hv
    rw [h2]
    refine run_build w t _ _ ?_
    unfold zeroL at hz
    unfold Program.built
    cases hit : P.info? t with
    | none => rw [hit] at hz; cases hz
    | some it =>
      rw [hit] at hz
      simp only at hz
      cases hzz : it.zero with
      | none => rw [hzz] at hz; cases hz
      | some z =>
        rw [hzz] at hz
        simp only [Option.some.injEq] at hz
        simp only [hu, hzz, hie]
        rw [← hz] at h1
        exact h1
  · rename_i zs fields hz hu
    split at hl <;> simp only [Option.map_eq_some_iff, reduceCtorEq] at hl
    rename_i places hpl
    obtain ⟨ps, hps, rfl⟩ := hl
    obtain ⟨h1, h2⟩ := main _ zs ps hps hv
    rw [h2]
    refine run_build w t _ _ ?_
    unfold zeroL at hz
    unfold Program.built
    cases hit : P.info? t with
    | none => rw [hit] at hz; cases hz
    | some it =>
      rw [hit] at hz
      simp only at hz
      cases hzz : it.zero with
      | none => rw [hzz] at hz; cases hz
      | some z =>
        rw [hzz] at hz
        simp only [Option.some.injEq] at hz
        simp only [hu, hzz, hpl]
        rw [← hz] at h1
        exact h1
  · cases hl

theorem lowS_sound {op : Op} {i : IS} (hl : lowS P op = some i) (hok : okS P op = true) : Sound P op i := by
  cases op with
  | move x => exact sound_move hl
  | assign x => exact sound_assign hl
  | pick c a b => exact sound_pick hl
  | nilCheck x => exact sound_nil hl
  | binOp op t x y ty => exact fun sl a w v pc d type pos after g hs hv hp => lowS_bin hl hs hv hp
  | unOp op t x => exact fun sl a w v pc d type pos after g hs hv hp => lowS_un hl hs hv hp
  | convert s t x => exact fun sl a w v pc d type pos after g hs hv hp => lowS_cv hl hs hv hp (by simpa [okS] using hok)
  | extract x i => exact sound_ext hl
  | fieldAddr s x f => exact sound_fa hl
  | field s x f => exact sound_fl hl
  | indexAddr t x i => exact sound_ia hl
  | index t x i => exact sound_ix hl
  | slice t x lo hi mx => exact sound_slice hl (by cases mx <;> cases hi <;> simp [okS] at hok ⊢)
  | sliceToArrayPointer t x => exact sound_sap hl
  | build t parts => exact sound_bld hl
  | call c =>
    obtain ⟨callee, args, ts⟩ := c
    cases callee with
    | builtin b =>
      cases b <;> first | (simp only [lowS, reduceCtorEq] at hl; done) | exact sound_len hl | exact sound_min hl | exact sound_max hl
    | _ => simp [lowS] at hl
  | _ => simp [lowS] at hl
end Go.EV

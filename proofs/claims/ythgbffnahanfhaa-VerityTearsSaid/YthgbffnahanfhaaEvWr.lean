/- Lemmas on what lowered instructions do, part EvWr. No condition but those that a theorem names. -/
import Derived.Test.YthgbffnahanfhaaEvIW
set_option linter.unusedVariables false
set_option linter.unusedSimpArgs false
namespace Go.EV
open Go
variable {P : Program} {a : Act} {w : World}

def lowW (P : Program) : Op → Option IW
  | .alloc t => (zeroL P t).map (.alo t (zeroC P t))
  | .box t x => (A.of x).map (.box t (P.cellsOf t) (zeroC P t))
  | .buildSlice t n parts => match P.underlying t with
    | some (.slice e) => match P.info? e with
      | some ie => match ie.zero with
        | some z => if n * ie.size > 2 ^ 24 then none
          else (lowParts P (fun i => some (i * ie.size, ie.size)) parts.toList).map (.bsl e (zeroC P e) ((Array.range (n * ie.size)).map (z.cells[· % z.cells.size]!)).toList n)
        | none => none
      | none => none
    | _ => none
  | .makeSlice t l c => match P.underlying t with
    | some (.slice e) => match P.info? e with
      | some ie => match ie.zero with
        | some z => if ie.size = 1 ∧ z.cells.size = 1 then do pure (.mks e ie.bytes (z.cells[0]!) (← A.of l) (← A.of c)) else none
        | none => none
      | none => none
    | _ => none
  | .store t x v => match P.info? t with
    | none => none
    | some _ => if isAggT P t then do pure (.sta (P.cellsOf t) (← A.of x) (← A.of v))
      else if P.cellsOf t = 1 then do pure (.st (← A.of x) (← A.of v)) else none
  | .call { callee := .builtin .copy, args, argTypes } =>
    match args.toList, argTypes[0]? with
    | [x, y], some t => match P.underlying t with
      | some (.slice e) => match P.info? e with
        | some ie => if ie.size = 1 then do pure (.cpy 1 (← A.of x) (← A.of y)) else none
        | none => none
      | _ => none
    | _, _ => none
  | _ => some .bad

theorem run_value' {s : Sem Value} {v : Value} {w' : World} (h : s.run P w = .ok v w') : (do pure (Next.value (← s)) : Sem Next).run P w = .ok (.value v) w' := by
  rw [Sem.run_bind, h]; rfl

theorem zeroL_run {t : TypeId} {zs : List Value} (h : zeroL P t = some zs) : ∃ z, (zeroValue t).run P w = .ok z w ∧ z.cells = zs.toArray := by
  unfold zeroL at h
  unfold zeroValue typeInfo
  cases hi : P.info? t with
  | none => rw [hi] at h; cases h
  | some i =>
    rw [hi] at h
    simp only at h
    cases hz : i.zero with
    | none => rw [hz] at h; cases h
    | some z =>
      rw [hz] at h
      simp only [Option.some.injEq] at h
      exact ⟨z, by simp [program, Sem.run_bind, hi, hz, Sem.run, pure, Result.andThen], by rw [← h]⟩

/-- what a W instruction does for its op -/
def SoundW (P : Program) (op : Op) (i : IW) : Prop :=
  ∀ (F : Frm) (n : Nat) (st st' : St) (a : Act) (w : World) (v : SV) (pc : Prop) (d : Option Tmp) (type : TypeId) (pos : String) (after : Array Edge) (g : Option (Nat × Bool)),
    Rel F n st a w → i.run st = some (v, st', pc) → pc →
      ∃ w', ((execOp a.eval ⟨d, op, type, pos, after, g⟩).run P w = .ok (.value v.den) w' ∨ ((execOp a.eval ⟨d, op, type, pos, after, g⟩).run P w = .ok .skip w' ∧ v.den = undef)) ∧
        Rel F n st' a w' ∧ st'.sl = st.sl

theorem soundW_alloc {t : TypeId} {i : IW} (hl : lowW P (.alloc t) = some i) : SoundW P (.alloc t) i := by
  intro F n st st' a w v pc d type pos after g hr hv hp
  simp only [lowW, Option.map_eq_some_iff] at hl
  obtain ⟨zs, hz, rfl⟩ := hl
  simp only [IW.run, Option.some.injEq, Prod.mk.injEq] at hv
  obtain ⟨rfl, rfl, rfl⟩ := hv
  obtain ⟨z, hz1, hz2⟩ := zeroL_run (w := w) hz
  refine ⟨_, .inl ?_, Rel.new hr, rfl⟩
  simp only [execOp]
  refine run_value' ?_
  unfold Instr.alloc
  rw [Sem.run_bind, hz1]
  simp only [Result.andThen, newVar, newRow]
  rw [hz2, map_den_v]
  simp [Sem.run_bind, pure, Result.andThen, SV.den, C.den, hr.hsz]

theorem soundW_box {t : TypeId} {x : Operand} {i : IW} (hl : lowW P (.box t x) = some i) : SoundW P (.box t x) i := by
  intro F n st st' a w v pc d type pos after g hr hv hp
  simp only [lowW, Option.map_eq_some_iff] at hl
  obtain ⟨x', hx, rfl⟩ := hl
  simp only [IW.run] at hv
  split at hv
  · rename_i u hu
    split at hv <;> simp only [Option.some.injEq, Prod.mk.injEq, reduceCtorEq] at hv
    rename_i cs hcs
    obtain ⟨rfl, rfl, rfl⟩ := hv
    refine ⟨_, .inl ?_, Rel.new hr, rfl⟩
    simp only [execOp]
    refine run_value' ?_
    unfold Instr.box
    simp only [ev_sound hr.slots hx hu, newVar, newRow]
    have : u.den.cells = (cs.map C.den).toArray := by apply Array.ext'; rw [cells_den hcs]
    rw [this]
    simp [Sem.run_bind, pure, Result.andThen, SV.den, C.den, hr.hsz]
  · cases hv

theorem run_buildSlice' (w : World) (t e : TypeId) (len : Nat) (parts : Array (Nat × Value)) (cells : Array Value) (ie : TypeInfo) (z : Value)
    (hu : P.underlying t = some (.slice e)) (hie : P.info? e = some ie) (hz : ie.zero = some z) (hsmall : ¬ len * ie.size > 2 ^ 24)
    (h : Instr.fill (fun i => some (i * ie.size, ie.size)) ((Array.range (len * ie.size)).map (z.cells[· % z.cells.size]!)) parts.toList = some cells) :
    (Instr.buildSlice t len parts).run P w = .ok (.slice (some ⟨w.heap.size, 0, none⟩) len len) (w.alloc (.cells cells e)) := by
  by_cases hpos : len * ie.size = 0
  · have h' : Instr.fill (fun i => some (i * ie.size, ie.size)) #[] parts.toList = some cells := by
      rw [hpos] at h; rwa [show (Array.range 0).map (z.cells[· % z.cells.size]!) = #[] by apply Array.ext'; simp [Array.toList_range]] at h
    have e : ((Array.range 0).map ((#[] : Array Value)[· % (#[] : Array Value).size]!)) = #[] := by simp
    have hs : ¬ 0 > 2 ^ 24 := by omega
    unfold Instr.buildSlice
    have e2 : Array.map (fun _ => (default : Value)) (Array.range 0) = #[] := by apply Array.ext'; simp [Array.toList_range]
    rcases Nat.mul_eq_zero.1 hpos with h0 | h0
    · simp [run_underlying hu, sizeOf, typeInfo, hie, h0, hs]
      rw [e2, h']; simp [newRow]
    · simp [run_underlying hu, sizeOf, typeInfo, hie, h0, hs]
      simp only [h0, Nat.mul_zero] at h'
      rw [e2, h']; simp [newRow]
  · simp [Instr.buildSlice, run_underlying hu, sizeOf, typeInfo, zeroValue, hie, hz, hsmall, hpos, h, newRow]

theorem soundW_bsl {t : TypeId} {k : Nat} {parts : Array (Nat × Operand)} {i : IW} (hl : lowW P (.buildSlice t k parts) = some i) : SoundW P (.buildSlice t k parts) i := by
  intro F n st st' a w v pc d type pos after g hr hv hp
  simp only [lowW] at hl
  split at hl
  · rename_i e hu
    split at hl
    · rename_i ie hie
      split at hl
      · rename_i z hz
        split at hl
        · cases hl
        · rename_i hsz
          simp only [Option.map_eq_some_iff] at hl
          obtain ⟨ps, hps, rfl⟩ := hl
          simp only [IW.run] at hv
          split at hv <;> simp only [Option.some.injEq, Prod.mk.injEq, reduceCtorEq] at hv
          rename_i cs hcs
          obtain ⟨rfl, rfl, rfl⟩ := hv
          refine ⟨_, .inl ?_, Rel.new hr, rfl⟩
          simp only [execOp]
          refine run_value' ?_
          have := fill_sound hr.slots _ parts.toList ps _ cs hps hcs
          rw [map_den_v] at this
          rw [run_buildSlice' w t e k _ (cs.map C.den).toArray ie z hu hie hz (by omega) (by rw [Array.toArray_toList] at this; simpa using this)]
          simp [SV.den, C.den, hr.hsz]
      · cases hl
    · cases hl
  · cases hl

theorem madeCells_one {z : Array Value} (h : z.size = 1) (n : Nat) : madeCells z n = ((List.replicate n (C.v (z[0]!))).map C.den).toArray := by
  apply Array.ext'
  unfold madeCells
  rw [h]
  simp only [Nat.mod_one, List.map_replicate, C.den]
  rw [Array.toList_map, Array.toList_range, List.map_const', List.length_range]

theorem soundW_mks {t : TypeId} {l c : Operand} {i : IW} (hl : lowW P (.makeSlice t l c) = some i) : SoundW P (.makeSlice t l c) i := by
  intro F n st st' a w v pc d type pos after g hr hv hp
  simp only [lowW] at hl
  split at hl
  · rename_i e hu
    split at hl
    · rename_i ie hie
      split at hl
      · rename_i z hz
        split at hl
        · rename_i hsz
          simp only [Option.bind_eq_bind, Option.bind_eq_some_iff, Option.pure_def, Option.some.injEq] at hl
          obtain ⟨l', hl', c', hc', rfl⟩ := hl
          simp only [IW.run] at hv
          split at hv <;> simp only [Option.some.injEq, Prod.mk.injEq, reduceCtorEq] at hv
          rename_i kl l1 kc c1 e1 e2
          obtain ⟨rfl, rfl, rfl⟩ := hv
          refine ⟨_, .inl ?_, Rel.new hr, rfl⟩
          simp only [execOp, ev_sound hr.slots hl' e1, ev_sound hr.slots hc' e2, SV.den, C.den]
          refine run_value' ?_
          rw [run_make w t e ie z hu hie hz kl kc l1 c1 hp.1 hp.2.1 hp.2.2.1 hp.2.2.2]
          rw [hsz.1, Nat.mul_one, madeCells_one hsz.2]
          simp [hr.hsz]
        · cases hl
      · cases hl
    · cases hl
  · cases hl

theorem run_storeVar_row {t g o : Nat} {x : Value} {cur : Array Value} {ty : TypeId} (hi : (P.info? t).isNone = false) (hsz : x.cells.size = P.cellsOf t)
    (hg : w.heap[g]? = some (.cells cur ty (0, 0))) (ho : o + x.cells.size ≤ cur.size) (h1 : ∀ v ∈ x.cells.toList, v.oneCell' = true) :
    (Instr.storeAt t (.pointer (some ⟨g, o, none⟩)) x).run P w = .ok () (w.setRow g (cur.toList.take o ++ x.cells.toList ++ cur.toList.drop (o + x.cells.toList.length)).toArray) := by
  unfold Instr.storeAt
  rw [Sem.run_bind]
  simp only [Instr.sureAddr, pure, Sem.run, Result.andThen]
  unfold storeVar
  rw [Sem.run_bind, info_of_cells hi w]
  simp only [Result.andThen, hsz, ne_eq, not_true_eq_false, if_false]
  have := run_storeCells_at P g o ty x.cells.toList 0 cur w hg (by simpa using ho) h1
  simpa using this

theorem scal_one {x : C} (h : x.scal = true) : x.den.oneCell' = true := by
  cases x with
  | v y => cases y <;> first | rfl | (simp [C.scal] at h)
  | p => rfl
  | s => rfl

theorem run_skip {s : Sem Unit} {w' : World} (h : s.run P w = .ok () w') : (do s; pure Next.skip : Sem Next).run P w = .ok .skip w' := by
  rw [Sem.run_bind, h]; rfl

theorem soundW_store {t : TypeId} {x y : Operand} {i : IW} (hl : lowW P (.store t x y) = some i) : SoundW P (.store t x y) i := by
  intro F n st st' a w v pc d type pos after g hr hv hp
  simp only [lowW] at hl
  split at hl
  · cases hl
  · rename_i inf hinf
    have hi : (P.info? t).isNone = false := by rw [hinf]; rfl
    split at hl
    · simp only [Option.bind_eq_bind, Option.bind_eq_some_iff, Option.pure_def, Option.some.injEq] at hl
      obtain ⟨x', hx, y', hy, rfl⟩ := hl
      simp only [IW.run] at hv
      split at hv
      · rename_i id b o new e1 e2
        split at hv <;> simp only [Option.some.injEq, Prod.mk.injEq, reduceCtorEq] at hv
        rename_i k hk
        obtain ⟨rfl, rfl, rfl⟩ := hv
        obtain ⟨rfl, hn, ho, hro, hfr, hsc⟩ := hp
        have hkb := hr.hp k (getB_mem hk)
        rw [hfr] at hkb
        refine ⟨_, .inr ⟨?_, rfl⟩, Rel.set hr hk hro, rfl⟩
        simp only [execOp, ev_sound hr.slots hx e1, ev_sound hr.slots hy e2, SV.den, C.den]
        refine run_skip ?_
        rw [run_storeVar_row (x := .agg (new.map C.den).toArray) hi (by simpa [Value.cells] using hn) hkb (by simp [Value.cells]; omega) (by
          intro u hu
          simp only [Value.cells, List.mem_map] at hu
          obtain ⟨c, hc, rfl⟩ := hu
          exact scal_one (List.all_eq_true.1 hsc c hc))]
        simp [Value.cells, map_splice]
      · cases hv
    · split at hl
      · rename_i hc1
        simp only [Option.bind_eq_bind, Option.bind_eq_some_iff, Option.pure_def, Option.some.injEq] at hl
        obtain ⟨x', hx, y', hy, rfl⟩ := hl
        simp only [IW.run] at hv
        split at hv
        · rename_i id b o u e1 e2
          split at hv <;> simp only [Option.some.injEq, Prod.mk.injEq, reduceCtorEq] at hv
          rename_i c k hcl hk
          obtain ⟨rfl, rfl, rfl⟩ := hv
          obtain ⟨rfl, ho, hro, hfr⟩ := hp
          have hkb := hr.hp k (getB_mem hk)
          rw [hfr] at hkb
          have hu : u = .c c ∧ c.scal = true := by
            unfold isCell at hcl
            split at hcl
            · split at hcl
              · cases hcl; exact ⟨rfl, by assumption⟩
              · cases hcl
            · cases hcl
          obtain ⟨rfl, hsc⟩ := hu
          have hcells : c.den.cells = #[c.den] := by
            cases c with
            | v y => cases y <;> first | rfl | (simp [C.scal] at hsc)
            | p => rfl
            | s => rfl
          refine ⟨_, .inr ⟨?_, rfl⟩, Rel.set hr hk hro, rfl⟩
          have e1' : a.eval x = .pointer (some ⟨k.blk, o, none⟩) := ev_sound hr.slots hx e1
          have e2' : a.eval y = c.den := ev_sound hr.slots hy e2
          simp only [execOp, e1', e2']
          refine run_skip ?_
          rw [run_storeVar_row (x := c.den) (o := o) hi (by simp [hcells, hc1]) hkb (by simp [hcells]; omega) (by
            intro u hu
            simp only [hcells, List.mem_singleton] at hu
            subst hu
            exact scal_one hsc)]
          simp [hcells, List.set_eq_take_append_cons_drop, ho, List.map_take, List.map_drop]
        · cases hv
      · cases hl
end Go.EV

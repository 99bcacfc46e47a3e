/- Lemmas on what lowered instructions do, part EvW. No condition but those that a theorem names. -/
import Derived.Test.YthgbffnahanfhaaEvS4
import Derived.Test.YthgbffnahanfhaaEvDraw
set_option linter.unusedVariables false
set_option linter.unusedSimpArgs false
namespace Go.EV
open Go
variable {P : Program} {sl : List (Nat × SV)} {a : Act} {w : World}

def hintOf (P : Program) (t : TypeId) : Value := match P.underlying t with
  | some (.int k) => .int k 0
  | _ => .bool false

def lowR (P : Program) : Op → Option IR
  | .load t x => match P.underlying t with
    | none => none
    | some _ => if isAggT P t then (A.of x).map (.lda (P.cellsOf t)) else (A.of x).map (.ld (hintOf P t))
  | .convert s d x => match P.underlying s, P.underlying d with
    | some (.slice e), some .string => match P.underlying e with
      | some (.int .u8) => (A.of x).map .b2s
      | _ => none
    | _, _ => none
  | _ => none

def HpOK (hp : List Blk) (w : World) : Prop := ∀ b ∈ hp, w.heap[b.blk]? = some (.cells (b.cs.map C.den).toArray b.ty b.fr)

theorem getB_mem {hp : List Blk} {i : Nat} {b : Blk} (h : getB hp i = some b) : b ∈ hp := by
  induction hp with
  | nil => cases h
  | cons x r ih =>
    simp only [getB_cons] at h
    split at h
    · cases h; simp
    · exact List.mem_cons_of_mem _ (ih h)

theorem cell_of {k : Blk} {o : Nat} (hk : w.heap[k.blk]? = some (.cells (k.cs.map C.den).toArray k.ty k.fr)) (ho : o < k.cs.length) :
    w.cell? ⟨k.blk, o, none⟩ = some (k.cs.getD o k.dc).den := by
  simp [World.cell?, hk, ho]

theorem loadCells_of {k : Blk} {o n : Nat} (hk : w.heap[k.blk]? = some (.cells (k.cs.map C.den).toArray k.ty k.fr)) (ho : o + n ≤ k.cs.length) :
    (loadCells ⟨k.blk, o, none⟩ n).run P w = .ok ((cut k.cs o n).map C.den).toArray w := by
  have hl : ((cut k.cs o n).map C.den).length = n := by simp [cut]; omega
  have := run_loadCells_list (P := P) (w := w) ⟨k.blk, o, none⟩ ((cut k.cs o n).map C.den) (fun j v hv => by
    rw [Addr_add]
    have hj : j < n := by
      have := (List.getElem?_eq_some_iff.1 hv).1
      rw [hl] at this; exact this
    rw [cell_of hk (by omega)]
    simp only [cut, List.getElem?_map, List.getElem?_take, List.getElem?_drop] at hv
    rw [if_pos hj, List.getElem?_eq_getElem (by omega)] at hv
    simp only [Option.map_some, Option.some.injEq] at hv
    rw [← hv, List.getD_eq_getElem?_getD, List.getElem?_eq_getElem (by omega)]; rfl)
  rw [hl] at this
  exact this

theorem lowR_load {t : TypeId} {x : Operand} {i : IR} {hp : List Blk} {v : SV} {pc : Prop} {d : Option Tmp} {type : TypeId} {pos : String} {after : Array Edge} {g : Option (Nat × Bool)}
    (hl : lowR P (.load t x) = some i) (hs : SlOK sl a) (hh : HpOK hp w) (hv : i.val sl hp = some (v, pc)) (hpc : pc) :
    (execOp a.eval ⟨d, .load t x, type, pos, after, g⟩).run P w = .ok (.value v.den) w := by
  simp only [lowR] at hl
  split at hl
  · cases hl
  · rename_i ds hu
    have hi : (P.underlying t).isSome = true := by rw [hu]; rfl
    simp only [execOp]
    split at hl
    · rename_i hg
      simp only [Option.map_eq_some_iff] at hl
      obtain ⟨x', hx, rfl⟩ := hl
      simp only [IR.val] at hv
      split at hv
      · rename_i id b o e1
        split at hv <;> simp only [Option.some.injEq, Prod.mk.injEq, reduceCtorEq] at hv
        rename_i k hk
        obtain ⟨rfl, rfl⟩ := hv
        obtain ⟨rfl, ho⟩ := hpc
        simp only [ev_sound hs hx e1, SV.den, C.den]
        refine run_value ?_
        unfold Instr.loadAt
        rw [Sem.run_bind]
        simp only [Instr.sureAddr, pure, Sem.run, Result.andThen]
        unfold loadVar
        rw [Sem.run_bind, isAgg_run hi w, hg]
        simp only [Result.andThen, if_true]
        rw [Sem.run_bind, info_of_cells (info_of_und hi) w]
        simp only [Result.andThen]
        rw [Sem.run_bind, loadCells_of (hh k (getB_mem hk)) ho]
        rfl
      · cases hv
    · rename_i hg
      simp only [Option.map_eq_some_iff] at hl
      obtain ⟨x', hx, rfl⟩ := hl
      simp only [IR.val] at hv
      split at hv
      · rename_i id b o e1
        split at hv <;> simp only [Option.some.injEq, Prod.mk.injEq, reduceCtorEq] at hv
        rename_i k hk
        obtain ⟨rfl, rfl⟩ := hv
        obtain ⟨rfl, ho, hh'⟩ := hpc
        rw [hint_eq hh']
        simp only [ev_sound hs hx e1, SV.den, C.den]
        refine run_value ?_
        unfold Instr.loadAt
        rw [Sem.run_bind]
        simp only [Instr.sureAddr, pure, Sem.run, Result.andThen]
        unfold loadVar
        rw [Sem.run_bind, isAgg_run hi w]
        simp only [Result.andThen, hg]
        have hc := cell_of (hh k (getB_mem hk)) ho
        show (load _).run P w = _
        unfold load
        unfold Sem.run
        rw [hc]
        rfl
      · cases hv

theorem cells_u8 : ∀ (l : List C) (xs : List Int), ints l = some xs → IR.val.allU8 l → l.map C.den = xs.map (Value.int .u8) := by
  intro l
  induction l with
  | nil => intro xs h _; simp only [ints, Option.some.injEq] at h; subst h; rfl
  | cons c r ih =>
    intro xs h hu
    match c, hu with
    | .v (.int .u8 n), hu =>
      unfold ints at h
      cases h2 : ints r with
      | none => rw [h2] at h; cases h
      | some l' =>
        rw [h2] at h
        have h : some (n :: l') = some xs := h
        cases h
        simp only [List.map_cons, C.den, ih l' h2 hu]

theorem lowR_b2s {s t : TypeId} {x : Operand} {i : IR} {hp : List Blk} {v : SV} {pc : Prop} {d : Option Tmp} {type : TypeId} {pos : String} {after : Array Edge} {g : Option (Nat × Bool)}
    (hl : lowR P (.convert s t x) = some i) (hs : SlOK sl a) (hh : HpOK hp w) (hv : i.val sl hp = some (v, pc)) (hpc : pc) :
    (execOp a.eval ⟨d, .convert s t x, type, pos, after, g⟩).run P w = .ok (.value v.den) w := by
  simp only [lowR] at hl
  split at hl
  · rename_i e hus hud
    split at hl
    · rename_i hue
      simp only [Option.map_eq_some_iff] at hl
      obtain ⟨x', hx, rfl⟩ := hl
      simp only [IR.val] at hv
      split at hv
      · rename_i e1
        simp only [Option.some.injEq, Prod.mk.injEq] at hv
        obtain ⟨rfl, rfl⟩ := hv
        simp only [execOp, ev_sound hs hx e1, SV.den, C.den]
        refine run_value ?_
        rw [run_convert_bytes_string w s t e _ _ _ hus hue hud]
        rfl
      · rename_i id b o n cap e1
        split at hv
        · rename_i k hk
          split at hv <;> simp only [Option.some.injEq, Prod.mk.injEq, reduceCtorEq] at hv
          rename_i l hl
          obtain ⟨rfl, rfl⟩ := hv
          obtain ⟨rfl, ho, hu8⟩ := hpc
          simp only [execOp, ev_sound hs hx e1, SV.den, C.den]
          refine run_value ?_
          rw [run_convert_bytes_string w s t e _ _ _ hus hue hud]
          have h1 : (loadCells ⟨k.blk, o, none⟩ n).run P w = .ok ((cut k.cs o n).map C.den).toArray w := by
            by_cases h0 : n = 0
            · subst h0; simp [loadCells, loadCellsFrom, cut, pure, Sem.run]
            · exact loadCells_of (P := P) (hh k (getB_mem hk)) (ho h0)
          rw [cells_u8 _ _ hl hu8] at h1
          rw [run_bytesToString w _ n cap l h1, foldl_push_bytes]
          congr 3
          exact Array.empty_append
        · cases hv
      · cases hv
    · cases hl
  · cases hl
end Go.EV

/- Lemmas on what lowered instructions do, part EvS. No condition but those that a theorem names. -/
import Derived.Test.YthgbffnahanfhaaEvCore
set_option linter.unusedVariables false
set_option linter.unusedSimpArgs false
namespace Go.EV
open Go

def A.of : Operand → Option A
  | .tmp n => some (.t n)
  | .const z => some (.k z)
  | .global n => some (.gl n)
  | .func _ => none

def SlOK (sl : List (Nat × SV)) (a : Act) : Prop := ∀ t v, getS sl t = some v → a.tmps.getD t undef = v.den

theorem ev_sound {sl : List (Nat × SV)} {a : Act} {x : Operand} {y : A} {v : SV} (hs : SlOK sl a) (ho : A.of x = some y) (hv : y.ev sl = some v) : a.eval x = v.den := by
  cases x <;> simp only [A.of, Option.some.injEq, reduceCtorEq] at ho <;> subst ho <;> simp only [A.ev, Option.some.injEq] at hv
  · exact hs _ _ hv
  · subst hv; rfl
  · subst hv; rfl

def isInt (P : Program) (t : TypeId) : Bool := match P.underlying t with | some (.int _) => true | _ => false
def isAggT (P : Program) (t : TypeId) : Bool := match P.underlying t with | some (.struct _) => true | some (.array _ _) => true | _ => false

def ofO : Option Operand → Option (Option A)
  | none => some none
  | some x => (A.of x).map some

/-- a cell's zero -/
def zeroC (P : Program) (t : TypeId) : Value := match P.info? t with
  | some i => match i.zero with
    | some (.agg cs) => cs.getD 0 undef
    | some v => v
    | none => undef
  | none => undef
def zeroL (P : Program) (t : TypeId) : Option (List Value) := match P.info? t with
  | some i => match i.zero with
    | some v => some v.cells.toList
    | none => none
  | none => none

def okS (P : Program) (op : Op) : Bool := match op with | .convert s _ _ => (P.underlying s).isSome | .slice _ _ _ hi mx => mx.isNone || hi.isSome | _ => true

def lowParts (P : Program) (sz : Nat → Option (Nat × Nat)) : List (Nat × Operand) → Option (List (Nat × Nat × A))
  | [] => some []
  | (i, x) :: r => do
    let (off, n) ← sz i
    let y ← A.of x
    let l ← lowParts P sz r
    pure ((off, n, y) :: l)

def lowS (P : Program) : Op → Option IS
  | .move x => (A.of x).map .mv
  | .assign x => (A.of x).map .mv
  | .pick c a b => do pure (.pick (← A.of c) (← A.of a) (← A.of b))
  | .nilCheck x => (A.of x).map .nil
  | .binOp op t x y _ => do
    let x ← A.of x
    let y ← A.of y
    if isInt P t then pure (.bin op x y)
    else match P.underlying t with
      | some .bool => pure (.binB op x y)
      | some .string => pure (.binS op x y)
      | some (.array n e) => match op, P.underlying e with
        | .eql, some (.int k) => if P.cellsOf e = 1 ∧ P.eqGuardType P.depth t = false then pure (.eqg false n k x y) else none
        | .neq, some (.int k) => if P.cellsOf e = 1 ∧ P.eqGuardType P.depth t = false then pure (.eqg true n k x y) else none
        | _, _ => none
      | some (.pointer _) => match op, y with
        | .eql, .k (.pointer none) => pure (.eqn false x)
        | .neq, .k (.pointer none) => pure (.eqn true x)
        | _, _ => none
      | some (.slice _) => match op, y with
        | .eql, .k (.slice none _ _) => pure (.eqz false x)
        | .neq, .k (.slice none _ _) => pure (.eqz true x)
        | _, _ => none
      | _ => none
  | .unOp op _ x => (A.of x).map (.un op)
  | .convert _ d x => match P.underlying d with
    | some (.int k) => (A.of x).map (.cv k)
    | _ => none
  | .extract x i => (A.of x).map (.ext · i)
  | .fieldAddr s x f => match P.underlying s with
    | some (.struct fs) => match fs[f]? with
      | some fd => if P.cellsOf fd.type = 0 then none else (A.of x).map (.fa fd.offset)
      | none => none
    | _ => none
  | .field s x f => match P.underlying s with
    | some (.struct fs) => match fs[f]? with
      | some fd => if (P.underlying fd.type).isSome then (A.of x).map (.fl fd.offset (P.cellsOf fd.type) (isAggT P fd.type)) else none
      | none => none
    | _ => none
  | .indexAddr t x i => match P.underlying t with
    | some (.array n e) => do if (P.info? e).isNone then none else pure (.ia n (P.cellsOf e) (← A.of x) (← A.of i))
    | some (.slice e) => do if (P.info? e).isNone then none else pure (.is (P.cellsOf e) (← A.of x) (← A.of i))
    | _ => none
  | .index t x i => match P.underlying t with
    | some (.array n e) => do if (P.underlying e).isNone then none else if isAggT P e = false ∧ P.cellsOf e ≠ 1 then none else pure (.ix n (P.cellsOf e) (isAggT P e) (zeroC P e) (← A.of x) (← A.of i))
    | _ => none
  | .slice t x lo hi mx => match P.underlying t with
    | some (.slice e) => do if (P.info? e).isNone then none else pure (.sls (P.cellsOf e) (← A.of x) (← ofO lo) (← ofO hi) (← ofO mx))
    | some (.array n e) => do if (P.info? e).isNone then none else pure (.sla n (P.cellsOf e) (← A.of x) (← ofO lo) (← ofO hi) (← ofO mx))
    | _ => none
  | .build t parts => match zeroL P t, P.underlying t with
    | some zs, some (.array _ e) => match P.info? e with
      | some ie => (lowParts P (fun i => some (i * ie.size, ie.size)) parts.toList).map (.bld zs)
      | none => none
    | some zs, some (.struct fields) => match fields.toList.mapM (fun f => (P.info? f.type).map fun i => (f.offset, i.size)) with
      | some places => (lowParts P (places.toArray[·]?) parts.toList).map (.bld zs)
      | none => none
    | _, _ => none
  | .sliceToArrayPointer t x => match P.underlying t with
    | some (.array n _) => (A.of x).map (.sap n)
    | _ => none
  | .call { callee := .builtin .len, args, argTypes } =>
    match args[0]?, argTypes[0]? with
    | some x, some t => match P.underlying t with
      | some .string => (A.of x).map .lenS
      | some (.slice _) => (A.of x).map .len
      | some (.array n _) => some (.lenk n)
      | some (.pointer arr) => match P.underlying arr with
        | some (.array n _) => some (.lenk n)
        | _ => none
      | _ => none
    | _, _ => none
  | .call { callee := .builtin .min, args, .. } => match args.toList with
    | [x, y] => do pure (.mnmx false (← A.of x) (← A.of y))
    | _ => none
  | .call { callee := .builtin .max, args, .. } => match args.toList with
    | [x, y] => do pure (.mnmx true (← A.of x) (← A.of y))
    | _ => none
  | _ => none

theorem info_of_cells {P : Program} {e : TypeId} (h : (P.info? e).isNone = false) (w : World) : (sizeOf e).run P w = .ok (P.cellsOf e) w := by
  unfold sizeOf typeInfo Program.cellsOf
  cases hi : P.info? e with
  | none => rw [hi] at h; cases h
  | some i => simp [program, Sem.run_bind, hi, Sem.run]
theorem info_of_und {P : Program} {e : TypeId} (h : (P.underlying e).isSome = true) : (P.info? e).isNone = false := by
  unfold Program.underlying at h
  cases hi : P.info? e with
  | none => rw [hi] at h; cases h
  | some i => rfl
theorem isAgg_run {P : Program} {e : TypeId} (h : (P.underlying e).isSome = true) (w : World) : (isAgg e).run P w = .ok (isAggT P e) w := by
  unfold isAgg isAggT
  cases hu : P.underlying e with
  | none => rw [hu] at h; cases h
  | some d => rw [Sem.run_bind, run_underlying hu w]; cases d <;> simp [Result.andThen]
end Go.EV

/- Symbolic values, states, instructions, and what one instruction does. -/
import Derived.WalkKit
set_option linter.unusedVariables false
set_option linter.unusedSimpArgs false
namespace Go.EV
open Go

/-- one cell -/
inductive C where
  | v (x : Value)
  | p (id blk off : Nat)
  | s (id blk off len cap : Nat)
def C.den : C → Value
  | .v x => x
  | .p _ b o => .pointer (some ⟨b, o, none⟩)
  | .s _ b o l c => .slice (some ⟨b, o, none⟩) l c
def C.scal : C → Bool
  | .v (.agg _) => false
  | .v (.tuple _) => false
  | _ => true

/-- what a slot holds -/
inductive SV where
  | c (x : C)
  | g (l : List C)
  | t0
  | t2 (a b : SV)
  | t3 (a b c : SV)
def SV.den : SV → Value
  | .c x => x.den
  | .g l => .agg (l.map C.den).toArray
  | .t0 => .tuple #[]
  | .t2 a b => .tuple #[a.den, b.den]
  | .t3 a b z => .tuple #[a.den, b.den, z.den]

structure Blk where
  id : Nat
  blk : Nat
  ty : TypeId
  ro : Bool
  fr : Nat × Nat
  dc : C
  cs : List C

structure St where
  sl : List (Nat × SV)
  hp : List Blk
  nx : Nat
  sz : Nat

def getS : List (Nat × SV) → Nat → Option SV
  | [], _ => none
  | (n, v) :: r, t => cond (Nat.beq n t) (some v) (getS r t)
theorem getS_cons {n : Nat} {v : SV} {r : List (Nat × SV)} {t : Nat} : getS ((n, v) :: r) t = if n = t then some v else getS r t := by
  simp only [getS]
  by_cases h : n = t
  · subst h; simp
  · have : Nat.beq n t = false := by cases hb : Nat.beq n t with | false => rfl | true => exact absurd (Nat.eq_of_beq_eq_true hb) h
    simp [this, h]
theorem getS_nil {t : Nat} : getS [] t = none := rfl
def St.put (st : St) (d : Nat) (v : SV) : St := { st with sl := (d, v) :: st.sl }
def getB : List Blk → Nat → Option Blk
  | [], _ => none
  | b :: r, i => cond (Nat.beq b.id i) (some b) (getB r i)
theorem getB_cons {b : Blk} {r : List Blk} {i : Nat} : getB (b :: r) i = if b.id = i then some b else getB r i := by
  simp only [getB]
  by_cases h : b.id = i
  · subst h; simp
  · have : Nat.beq b.id i = false := by cases hb : Nat.beq b.id i with | false => rfl | true => exact absurd (Nat.eq_of_beq_eq_true hb) h
    simp [this, h]
def setB : List Blk → Nat → List C → List Blk
  | [], _, _ => []
  | b :: r, i, cs => if b.id = i then { b with cs := cs } :: r else b :: setB r i cs

/-- operands -/
inductive A where
  | t (n : Nat)
  | k (v : Value)
  | gl (g : Nat)
def gid (g : Nat) : Nat := 1000000 + g
def A.ev (sl : List (Nat × SV)) : A → Option SV
  | .t n => getS sl n
  | .k v => some (.c (.v v))
  | .gl g => some (.c (.p (gid g) g 0))

/-- instructions whose value hangs on slots alone -/
inductive IS where
  | mv (x : A)
  | bin (op : BinOp) (x y : A)
  | binB (op : BinOp) (x y : A)
  | binS (op : BinOp) (x y : A)
  | eqg (neg : Bool) (n : Nat) (k : IntKind) (x y : A)
  | eqn (neg : Bool) (x : A)
  | eqz (neg : Bool) (x : A)
  | un (op : UnOp) (x : A)
  | cv (k : IntKind) (x : A)
  | pick (c a b : A)
  | ext (x : A) (i : Nat)
  | nil (x : A)
  | fa (off : Nat) (x : A)
  | fl (off n : Nat) (ag : Bool) (x : A)
  | ia (len sz : Nat) (x i : A)
  | is (sz : Nat) (x i : A)
  | ix (len sz : Nat) (ag : Bool) (dz : Value) (x i : A)
  | sls (sz : Nat) (x : A) (lo hi mx : Option A)
  | sla (n sz : Nat) (x : A) (lo hi mx : Option A)
  | sap (n : Nat) (x : A)
  | bld (zs : List Value) (ps : List (Nat × Nat × A))
  | len (x : A)
  | lenS (x : A)
  | lenk (n : Nat)
  | mnmx (mx : Bool) (x y : A)

/-- what reads memory -/
inductive IR where
  | ld (h : Value) (x : A)
  | lda (n : Nat) (x : A)
  | b2s (x : A)

/-- what makes or writes memory; dz: what stands in for a cell that is not there -/
inductive IW where
  | alo (ty : Nat) (dz : Value) (zs : List Value)
  | box (ty n : Nat) (dz : Value) (x : A)
  | bsl (ty : Nat) (dz : Value) (zs : List Value) (len : Nat) (ps : List (Nat × Nat × A))
  | mks (ty bytes : Nat) (z : Value) (l c : A)
  | st (x v : A)
  | sta (n : Nat) (x v : A)
  | cpy (sz : Nat) (x y : A)
  | bad

inductive I where
  | s (d : Nat) (i : IS)
  | r (d : Nat) (i : IR)
  | q (d : Nat) (i : IR)
  | w (d : Option Nat) (i : IW)
  | call (d : Option Nat) (f : Nat) (args : List A)
  | app (d : Option Nat) (elem bytes : Nat) (z : Value) (x y : A)

abbrev VP := Option (SV × Prop)

def ib (k : IntKind) (n : Int) : SV := .c (.v (.int k n))
def bb (b : Bool) : SV := .c (.v (.bool b))

def binI (op : BinOp) (k : IntKind) (a b : Int) : VP :=
  match op with
  | .add => some (ib k (k.wrap (a + b)), True)
  | .sub => some (ib k (k.wrap (a - b)), True)
  | .mul => some (ib k (k.wrap (a * b)), True)
  | .quo => some (ib k (k.wrap (a.tdiv b)), b ≠ 0)
  | .rem => some (ib k (a.tmod b), b ≠ 0)
  | .and => some (ib k (k.wrap (BitVec.ofInt k.bits a &&& BitVec.ofInt k.bits b).toNat), True)
  | .or => some (ib k (k.wrap (BitVec.ofInt k.bits a ||| BitVec.ofInt k.bits b).toNat), True)
  | .xor => some (ib k (k.wrap (BitVec.ofInt k.bits a ^^^ BitVec.ofInt k.bits b).toNat), True)
  | .andNot => some (ib k (k.wrap (BitVec.ofInt k.bits a &&& ~~~(BitVec.ofInt k.bits b)).toNat), True)
  | .eql => some (bb (a == b), True)
  | .neq => some (bb (a != b), True)
  | .lss => some (bb (decide (a < b)), True)
  | .leq => some (bb (decide (a ≤ b)), True)
  | .gtr => some (bb (decide (a > b)), True)
  | .geq => some (bb (decide (a ≥ b)), True)
  | _ => none
def shI (op : BinOp) (k : IntKind) (a b : Int) : VP :=
  match op with
  | .shl => some (ib k (k.wrap (a * 2 ^ (min b.toNat k.bits))), 0 ≤ b)
  | .shr => some (ib k (a.fdiv (2 ^ (min b.toNat k.bits))), 0 ≤ b)
  | _ => none
def isSh : BinOp → Bool
  | .shl => true
  | .shr => true
  | _ => false

def C.int? : C → Option Int
  | .v (.int _ n) => some n
  | _ => none
def ints : List C → Option (List Int)
  | [] => some []
  | x :: r => match x.int?, ints r with
    | some n, some l => some (n :: l)
    | _, _ => none

def allK (k : IntKind) : List C → Prop
  | [] => True
  | .v (.int k' _) :: r => k' = k ∧ allK k r
  | _ :: _ => False

def C.toI : C → Int
  | .v (.int _ n) => n
  | _ => 0
def isK (k : IntKind) : C → Prop
  | .v (.int k' _) => k' = k
  | _ => False
/-- a cell that must be an int, if the type says so -/
def hint (h : Value) (c : C) : C := match h with
  | .int k _ => .v (.int k c.toI)
  | _ => c
def hintP (h : Value) (c : C) : Prop := match h with
  | .int k _ => isK k c
  | _ => True
theorem hint_eq {h : Value} {c : C} (hp : hintP h c) : hint h c = c := by
  unfold hint; unfold hintP at hp
  split
  · simp only [isK] at hp
    split at hp
    · subst hp; rfl
    · exact hp.elim
  · rfl

/-- overwrite from off on -/
def splice (cs : List C) (off : Nat) (new : List C) : List C := cs.take off ++ new ++ cs.drop (off + new.length)

def SV.cells? : SV → Option (List C)
  | .c x => if x.scal then some [x] else none
  | .g l => some l
  | _ => none

def fillL (sl : List (Nat × SV)) : List (Nat × Nat × A) → List C → Option (List C)
  | [], cs => some cs
  | (off, n, x) :: r, cs =>
    match x.ev sl with
    | some v => match v.cells? with
      | some new => if new.length = n ∧ off + n ≤ cs.length then fillL sl r (splice cs off new) else none
      | none => none
    | none => none

def optI (sl : List (Nat × SV)) (d : Int) : Option A → Option Int
  | none => some d
  | some x => match x.ev sl with
    | some (.c (.v (.int _ n))) => some n
    | _ => none

/-- cells of a list, cut -/
def cut (l : List C) (off n : Nat) : List C := (l.drop off).take n

def IS.val (sl : List (Nat × SV)) : IS → VP
  | .mv x => match x.ev sl with | some v => some (v, True) | none => none
  | .bin op x y =>
    match x.ev sl, y.ev sl with
    | some (.c (.v (.int k a))), some (.c (.v (.int k' b))) =>
      if isSh op then shI op k a b else if k = k' then binI op k a b else none
    | _, _ => none
  | .binB op x y =>
    match x.ev sl, y.ev sl with
    | some (.c (.v (.bool a))), some (.c (.v (.bool b))) =>
      match op with
      | .eql => some (bb (a == b), True)
      | .neq => some (bb (!(a == b)), True)
      | _ => none
    | _, _ => none
  | .binS op x y =>
    match x.ev sl, y.ev sl with
    | some (.c (.v (.string a))), some (.c (.v (.string b))) =>
      match op with
      | .eql => some (bb (a.toList == b.toList), True)
      | .neq => some (bb (!(a.toList == b.toList)), True)
      | _ => none
    | _, _ => none
  | .eqg neg n k x y =>
    match x.ev sl, y.ev sl with
    | some (.g a), some (.g b) =>
      match ints a, ints b with
      | some l, some m => some (bb (if neg then !(l == m) else l == m), allK k a ∧ allK k b ∧ a.length = n ∧ b.length = n)
      | _, _ => none
    | _, _ => none
  | .eqn neg x =>
    match x.ev sl with
    | some (.c (.p _ _ _)) => some (bb neg, True)
    | some (.c (.v (.pointer none))) => some (bb (!neg), True)
    | _ => none
  | .eqz neg x =>
    match x.ev sl with
    | some (.c (.s _ _ _ _ _)) => some (bb neg, True)
    | some (.c (.v (.slice none _ _))) => some (bb (!neg), True)
    | _ => none
  | .un op x =>
    match op, x.ev sl with
    | .neg, some (.c (.v (.int k n))) => some (ib k (k.wrap (0 - n)), True)
    | .xor, some (.c (.v (.int k n))) => some (ib k (k.wrap (BitVec.ofInt k.bits (if k.signed then -1 else k.max) ^^^ BitVec.ofInt k.bits n).toNat), True)
    | .not, some (.c (.v (.bool b))) => some (bb (!b), True)
    | _, _ => none
  | .cv k x =>
    match x.ev sl with
    | some (.c (.v (.int _ n))) => some (ib k (k.wrap n), True)
    | _ => none
  | .pick c a b =>
    match c.ev sl, a.ev sl, b.ev sl with
    | some (.c (.v (.bool c))), some x, some y => some (if c then x else y, True)
    | _, _, _ => none
  | .ext x i =>
    match x.ev sl, i with
    | some (.t2 a _), 0 => some (a, True)
    | some (.t2 _ b), 1 => some (b, True)
    | some (.t3 a _ _), 0 => some (a, True)
    | some (.t3 _ b _), 1 => some (b, True)
    | some (.t3 _ _ z), 2 => some (z, True)
    | _, _ => none
  | .nil x =>
    match x.ev sl with
    | some (.c (.p id b o)) => some (.c (.p id b o), True)
    | _ => none
  | .fa off x =>
    match x.ev sl with
    | some (.c (.p id b o)) => some (.c (.p id b (o + off)), True)
    | _ => none
  | .fl off n ag x =>
    match x.ev sl with
    | some (.g l) =>
      if ag then some (.g (cut l off n), True)
      else match l[off]? with
        | some c => some (.c c, True)
        | none => none
    | _ => none
  | .ia ln sz x i =>
    match x.ev sl, i.ev sl with
    | some (.c (.p id b o)), some (.c (.v (.int _ n))) => some (.c (.p id b (o + n.toNat * sz)), 0 ≤ n ∧ n < ln)
    | _, _ => none
  | .is sz x i =>
    match x.ev sl, i.ev sl with
    | some (.c (.s id b o ln _)), some (.c (.v (.int _ n))) => some (.c (.p id b (o + n.toNat * sz)), 0 ≤ n ∧ n < ln)
    | _, _ => none
  | .ix ln sz ag dz x i =>
    match x.ev sl, i.ev sl with
    | some (.g l), some (.c (.v (.int _ n))) =>
      if ag then some (.g (cut l (n.toNat * sz) sz), 0 ≤ n ∧ n < ln)
      else some (.c (hint dz (l.getD n.toNat (.v dz))), (0 ≤ n ∧ n < ln) ∧ n.toNat < l.length ∧ hintP dz (l.getD n.toNat (.v dz)))
    | _, _ => none
  | .sls sz x lo hi mx =>
    match x.ev sl with
    | some (.c (.v (.slice none ln cap))) =>
      match optI sl 0 lo, optI sl ln hi, optI sl cap mx with
      | some l, some h, some m => some (.c (.v (.slice none (h.toNat - l.toNat) (m.toNat - l.toNat))), 0 ≤ l ∧ l ≤ h ∧ h ≤ m ∧ m ≤ cap)
      | _, _, _ => none
    | some (.c (.s id b o ln cap)) =>
      match optI sl 0 lo, optI sl ln hi, optI sl cap mx with
      | some l, some h, some m =>
        some (.c (.s id b (if m = l then o else o + l.toNat * sz) (h.toNat - l.toNat) (m.toNat - l.toNat)), 0 ≤ l ∧ l ≤ h ∧ h ≤ m ∧ m ≤ cap)
      | _, _, _ => none
    | _ => none
  | .sla n sz x lo hi mx =>
    match x.ev sl with
    | some (.c (.p id b o)) =>
      match optI sl 0 lo, optI sl n hi, optI sl n mx with
      | some l, some h, some m =>
        some (.c (.s id b (if m = l then o else o + l.toNat * sz) (h.toNat - l.toNat) (m.toNat - l.toNat)), 0 ≤ l ∧ l ≤ h ∧ h ≤ m ∧ m ≤ n)
      | _, _, _ => none
    | _ => none
  | .sap n x =>
    match x.ev sl with
    | some (.c (.s id b o ln _)) => some (.c (.p id b o), n ≤ ln)
    | _ => none
  | .bld zs ps =>
    match fillL sl ps (zs.map .v) with
    | some cs => some (.g cs, True)
    | none => none
  | .len x =>
    match x.ev sl with
    | some (.c (.s _ _ _ n _)) => some (ib .i64 n, True)
    | some (.c (.v (.slice none n _))) => some (ib .i64 n, True)
    | _ => none
  | .lenS x =>
    match x.ev sl with
    | some (.c (.v (.string s))) => some (ib .i64 s.size, True)
    | _ => none
  | .lenk n => some (ib .i64 n, True)
  | .mnmx mx x y =>
    match x.ev sl, y.ev sl with
    | some (.c (.v (.int k a))), some (.c (.v (.int _ b))) =>
      some (ib k (if mx then (if b > a then b else a) else (if b < a then b else a)), True)
    | _, _ => none

/-- reading: a value out of memory -/
def IR.val (sl : List (Nat × SV)) (hp : List Blk) : IR → VP
  | .ld h x =>
    match x.ev sl with
    | some (.c (.p id b o)) => match getB hp id with
      | some k => some (.c (hint h (k.cs.getD o k.dc)), k.blk = b ∧ o < k.cs.length ∧ hintP h (k.cs.getD o k.dc))
      | none => none
    | _ => none
  | .lda n x =>
    match x.ev sl with
    | some (.c (.p id b o)) => match getB hp id with
      | some k => some (.g (cut k.cs o n), k.blk = b ∧ o + n ≤ k.cs.length)
      | none => none
    | _ => none
  | .b2s x =>
    match x.ev sl with
    | some (.c (.v (.slice none _ _))) => some (.c (.v (.string .empty)), True)
    | some (.c (.s id b o n _)) => match getB hp id with
      | some k => match ints (cut k.cs o n) with
        | some l => some (.c (.v (.string ⟨(l.map fun (n : Int) => UInt8.ofNat n.toNat).toArray⟩)), k.blk = b ∧ (n ≠ 0 → o + n ≤ k.cs.length) ∧ allU8 (cut k.cs o n))
        | none => none
      | none => none
    | _ => none
 where
  allU8 : List C → Prop
    | [] => True
    | .v (.int .u8 _) :: r => allU8 r
    | _ :: _ => False

def isCell (v : SV) : Option C := match v with
  | .c x => if x.scal then some x else none
  | _ => none

def new (st : St) (ty : TypeId) (dz : Value) (cs : List C) : St :=
  { st with hp := ⟨st.nx, st.sz, ty, false, (0, 0), .v dz, cs⟩ :: st.hp, nx := st.nx + 1, sz := st.sz + 1 }

/-- writing: the value for the slot, the state behind, what is asked -/
def IW.run (st : St) : IW → Option (SV × St × Prop)
  | .alo ty dz zs => some (.c (.p st.nx st.sz 0), new st ty dz (zs.map .v), True)
  | .box ty n dz x =>
    match x.ev st.sl with
    | some v => match v.cells? with
      | some cs => some (.c (.p st.nx st.sz 0), new st ty dz cs, True)
      | none => none
    | none => none
  | .bsl ty dz zs n ps =>
    match fillL st.sl ps (zs.map .v) with
    | some cs => some (.c (.s st.nx st.sz 0 n n), new st ty dz cs, True)
    | none => none
  | .mks ty bytes z l c =>
    match l.ev st.sl, c.ev st.sl with
    | some (.c (.v (.int _ l))), some (.c (.v (.int _ c))) =>
      some (.c (.s st.nx st.sz 0 l.toNat c.toNat), new st ty z (List.replicate c.toNat (.v z)), 0 ≤ l ∧ l ≤ c ∧ bytes * c ≤ 281474976710656 ∧ c ≤ 9223372036854775807)
    | _, _ => none
  | .st x v =>
    match x.ev st.sl, v.ev st.sl with
    | some (.c (.p id b o)), some u => match isCell u, getB st.hp id with
      | some y, some k => some (.c (.v undef), { st with hp := setB st.hp id (k.cs.set o y) }, k.blk = b ∧ o < k.cs.length ∧ k.ro = false ∧ k.fr = (0, 0))
      | _, _ => none
    | _, _ => none
  | .sta n x v =>
    match x.ev st.sl, v.ev st.sl with
    | some (.c (.p id b o)), some (.g new) => match getB st.hp id with
      | some k => some (.c (.v undef), { st with hp := setB st.hp id (splice k.cs o new) }, k.blk = b ∧ new.length = n ∧ o + n ≤ k.cs.length ∧ k.ro = false ∧ k.fr = (0, 0) ∧ new.all C.scal = true)
      | none => none
    | _, _ => none
  | .cpy sz x y =>
    match x.ev st.sl, y.ev st.sl with
    | some (.c (.s id b o n _)), some (.c (.s id' b' o' n' _)) =>
      match getB st.hp id, getB st.hp id' with
      | some k, some k' =>
        let m := min n' n
        some (ib .i64 m, { st with hp := if m = 0 then st.hp else setB st.hp id (splice k.cs o (cut k'.cs o' (m * sz))) },
          k.blk = b ∧ k'.blk = b' ∧ (m ≠ 0 → o + m * sz ≤ k.cs.length ∧ o' + m * sz ≤ k'.cs.length) ∧ k.ro = false ∧ k.fr = (0, 0) ∧ (cut k'.cs o' (m * sz)).all C.scal = true)
      | _, _ => none
    | some (.c (.s id b o n _)), some (.c (.v (.string s))) =>
      match getB st.hp id with
      | some k =>
        let m := min s.size n
        some (ib .i64 m, { st with hp := if m = 0 then st.hp else setB st.hp id (splice k.cs o ((s.data.toList.take m).map fun x => C.v (.int .u8 x.toNat))) },
          k.blk = b ∧ sz = 1 ∧ (m ≠ 0 → o + m ≤ k.cs.length) ∧ k.ro = false ∧ k.fr = (0, 0))
      | _ => none
    | some (.c (.s _ _ _ _ _)), some (.c (.v (.slice none 0 _))) => some (ib .i64 0, st, True)
    | some (.c (.v (.slice none 0 _))), some (.c (.s _ _ _ _ _)) => some (ib .i64 0, st, False)
    | _, _ => none
  | .bad => none
end Go.EV

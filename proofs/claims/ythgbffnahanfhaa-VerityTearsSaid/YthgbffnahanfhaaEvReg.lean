/- Lemmas on what lowered instructions do, part EvReg. No condition but those that a theorem names. -/
import Derived.Test.YthgbffnahanfhaaEvApp
set_option linter.unusedVariables false
set_option linter.unusedSimpArgs false
namespace Go.EV
open Go
variable {P : Program} {a : Act} {w : World}

/-- A call of function f, without panic. -/
def callF (P : Program) (f : FuncId) (args : Array Value) (w : World) (K : Value → World → Prop) : Prop :=
  match (callFunc f args).run P w with
  | .ok (.value v) w' => K v w'
  | .ok (.enter f args) w' => Calls P f args w' fun e w'' => ∃ v, e = .returned v ∧ K v w''
  | _ => False

theorem callF_mono {f : FuncId} {args : Array Value} {K K' : Value → World → Prop} (h : ∀ v w, K v w → K' v w) (hh : callF P f args w K) : callF P f args w K' := by
  unfold callF at *
  generalize (callFunc f args).run P w = r at *
  cases r with
  | ok n w' =>
    cases n <;> simp only at hh ⊢
    case value v => exact h _ _ hh
    case enter f args => exact hh.mono fun e w'' ⟨v, he, hk⟩ => ⟨v, he, h _ _ hk⟩
  | halt x w' => exact hh

/-- the guard of an instruction: the slot, what it must hold -/
abbrev Gd := Option (Nat × Bool)
structure G where
  g : Gd
  i : I

def evArgs (sl : List (Nat × SV)) : List A → Option (List SV)
  | [] => some []
  | x :: r => match x.ev sl, evArgs sl r with
    | some v, some l => some (v :: l)
    | _, _ => none

def putO (st : St) (d : Option Nat) (v : SV) : St := match d with | some d => st.put d v | none => st

/-- A call, from the state: whatever comes of it, K holds. -/
def CallG (P : Program) (F : Frm) (n : Nat) (f : Nat) (args : List SV) (st : St) (K : SV → St → Prop) : Prop :=
  ∀ a w, Rel F n st a w → callF P f (args.map SV.den).toArray w fun v' w' => ∃ v st', K v st' ∧ v' = v.den ∧ Rel F n st' a w'

/-- An append, from the state: whatever comes of it, K holds. -/
def AppG (P : Program) (F : Frm) (n : Nat) (elem bytes : Nat) (z : Value) (x y : SV) (st : St) (K : SV → St → Prop) : Prop :=
  ∀ ts type a w, AppT P elem bytes z ts → Rel F n st a w → ∃ v st' w', (Builtin.append_ ts type #[x.den, y.den]).run P w = .ok v.den w' ∧ K v st' ∧ Rel F n st' a w'

def appU (P : Program) (u : TypeId) : Bool := match P.underlying u with
  | some (.slice _) => true
  | some .string => true
  | _ => false
theorem appU_sound {P : Program} {u : TypeId} (h : appU P u = true) : (∃ e, P.underlying u = some (.slice e)) ∨ P.underlying u = some .string := by
  unfold appU at h
  split at h
  · rename_i e2 h3; exact .inl ⟨e2, h3⟩
  · rename_i h3; exact .inr h3
  · cases h

def appT (P : Program) (ts : Array TypeId) : Option (Nat × Nat × Value) :=
  match ts.toList with
  | [t, u] => match P.underlying t with
    | some (.slice e) => match P.info? e with
      | some ie => match ie.zero with
        | some zv => match zv.cells.toList with
          | [z] => if ie.size = 1 ∧ appU P u = true then some (e, ie.bytes, z) else none
          | _ => none
        | none => none
      | none => none
    | _ => none
  | _ => none

theorem appT_sound {P : Program} {ts : Array TypeId} {e b : Nat} {z : Value} (h : appT P ts = some (e, b, z)) : AppT P e b z ts := by
  unfold appT at h
  split at h
  · rename_i t u hts
    split at h
    · rename_i e' hu
      split at h
      · rename_i ie hie
        split at h
        · rename_i zv hz
          split at h
          · rename_i z' hzc
            split at h
            · rename_i hh
              simp only [Option.some.injEq, Prod.mk.injEq] at h
              obtain ⟨rfl, rfl, rfl⟩ := h
              refine ⟨t, u, ie, zv, by apply Array.ext'; simpa using hts, hu, appU_sound hh.2, hie, hh.1, rfl, hz, by apply Array.ext'; simpa using hzc⟩
            · cases h
          · cases h
        · cases h
      · cases h
    · cases h
  · cases h

def I.dst : I → Option Nat
  | .s d _ => some d
  | .r d _ => some d
  | .q d _ => some d
  | .w d _ => d
  | .call d _ _ => d
  | .app d .. => d

/-- the pinned blocks are as they were -/
def Pin : List Blk → List Blk → Prop
  | [], _ => True
  | k :: r, hp => (match getB hp k.id with | some b => b.blk = k.blk ∧ b.ty = k.ty ∧ b.fr = k.fr ∧ b.cs = k.cs | none => False) ∧ Pin r hp

theorem Pin_ok {pv hp : List Blk} (h : Pin pv hp) (hh : HpOK hp w) : HpOK pv w := by
  induction pv with
  | nil => intro b hb; cases hb
  | cons k r ih =>
    obtain ⟨h1, h2⟩ := h
    split at h1
    · rename_i b hb
      intro x hx
      rcases List.mem_cons.1 hx with rfl | hx
      · obtain ⟨e1, e2, e3, e4⟩ := h1
        rw [← e1, ← e2, ← e3, ← e4]; exact hh b (getB_mem hb)
      · exact ih h2 x hx
    · exact h1.elim

/-- the blocks behind these slots -/
def pinB (st : St) : List Nat → List Blk
  | [] => []
  | t :: r => match getS st.sl t with
    | some (.c (.p id _ _)) => match getB st.hp id with | some k => k :: pinB st r | none => pinB st r
    | some (.c (.s id _ _ _ _)) => match getB st.hp id with | some k => k :: pinB st r | none => pinB st r
    | _ => pinB st r
theorem pinB_ok {st : St} (h : HpOK st.hp w) : ∀ l, HpOK (pinB st l) w
  | [] => fun b hb => by cases hb
  | t :: r => by
    have ih := pinB_ok h r
    unfold pinB
    split
    · split
      · rename_i hk; intro b hb; rcases List.mem_cons.1 hb with rfl | hb; exact h _ (getB_mem hk); exact ih b hb
      · exact ih
    · split
      · rename_i hk; intro b hb; rcases List.mem_cons.1 hb with rfl | hb; exact h _ (getB_mem hk); exact ih b hb
      · exact ih
    · exact ih

/-- the instructions of a region, as they may come: one by one, or this way and that way -/
inductive GT where
  | nil
  | cons (g : G) (t : GT)
  | alt (x y : GT)

def GT.ofL : List G → GT
  | [] => .nil
  | g :: r => .cons g (ofL r)

def wpS (P : Program) (F : Frm) (n : Nat) (pv : List Blk) (i : I) (st : St) (K : St → Prop) : Prop :=
  match i with
  | .s d i => match i.val st.sl with
    | some (v, pc) => pc ∧ K (st.put d v)
    | none => False
  | .r d i => match i.val st.sl st.hp with
    | some (v, pc) => pc ∧ K (st.put d v)
    | none => False
  | .q d i => match i.val st.sl pv with
    | some (v, pc) => pc ∧ K (st.put d v)
    | none => False
  | .w d i => match i.run st with
    | some (v, st', pc) => pc ∧ Pin pv st'.hp ∧ K (putO st' d v)
    | none => False
  | .call d f args => match evArgs st.sl args with
    | some l => CallG P F n f l st (fun v st' => Pin pv st'.hp ∧ K (putO st' d v))
    | none => False
  | .app d e b z x y => match x.ev st.sl, y.ev st.sl with
    | some u, some v => AppG P F n e b z u v st (fun v st' => Pin pv st'.hp ∧ K (putO st' d v))
    | _, _ => False

def wpG (P : Program) (F : Frm) (n : Nat) (pv : List Blk) : G → (St → Prop) → St → Prop
  | ⟨none, i⟩, K, st => wpS P F n pv i st K
  | ⟨some (t, b), i⟩, K, st =>
    match getS st.sl t with
    | some (.c (.v (.bool x))) => (x = b → wpS P F n pv i (st.put t (bb b)) K) ∧ (x ≠ b → K (putO (st.put t (bb (!b))) i.dst (.c (.v undef))))
    | some (.c (.v (.tuple _))) => K (putO st i.dst (.c (.v undef)))
    | _ => False

def wpI (P : Program) (F : Frm) (n : Nat) (pv : List Blk) (Q : St → Prop) : GT → St → Prop
  | .nil, st => Q st
  | .cons g t, st => wpG P F n pv g (wpI P F n pv Q t) st
  | .alt x y, st => wpI P F n pv Q x st ∧ wpI P F n pv Q y st

def I.cls : I → Cls
  | .s _ _ => .s
  | .q _ _ => .s
  | .r _ _ => .r
  | _ => .w


def lowA : List Operand → Option (List A)
  | [] => some []
  | x :: r => match A.of x, lowA r with
    | some v, some l => some (v :: l)
    | _, _ => none

/-- one operation, turned into an instruction -/
def lowI (P : Program) (n : Nat) (o : Oper) : Option I :=
  match o.op with
  | .call { callee := .value (.func f), args, .. } =>
    match lowA args.toList with
    | some l => if o.dst.all (· < n) then some (.call o.dst f l) else none
    | none => none
  | .call { callee := .builtin .append, args, argTypes } =>
    match args.toList, appT P argTypes with
    | [x, y], some (e, b, z) => match A.of x, A.of y with
      | some x, some y => if o.dst.all (· < n) then some (.app o.dst e b z x y) else none
      | _, _ => none
    | _, _ => none
  | op =>
    match o.dst with
    | some d => if d < n then
        match lowS P op with
        | some i => if okS P op then some (.s d i) else none
        | none => match lowR P op with
          | some i => some (.r d i)
          | none => (lowW P op).map (.w (some d))
      else none
    | none => (lowW P op).map (.w none)

/-- a load, made quiet -/
def quiet (qs : List Nat) : I → I
  | .r d i => if qs.contains d then .q d i else .r d i
  | i => i
theorem quiet_dst (qs : List Nat) (i : I) : (quiet qs i).dst = i.dst := by
  unfold quiet; split
  · split <;> rfl
  · rfl

def lowG (P : Program) (n : Nat) (qs : List Nat) (ops : Array Oper) (o : Oper) : Option G :=
  match o.guard with
  | none => (lowI P n o).map fun i => ⟨none, quiet qs i⟩
  | some (j, b) => match (ops[j]?).bind (·.dst), lowI P n o with
    | some t, some i => if t < n ∧ i.dst ≠ some t then some ⟨some (t, b), quiet qs i⟩ else none
    | _, _ => none

def lowL (P : Program) (n : Nat) (qs : List Nat) (ops : Array Oper) : List Oper → Option (List G)
  | [] => some []
  | o :: r => match lowG P n qs ops o, lowL P n qs ops r with
    | some g, some l => some (g :: l)
    | _, _ => none

theorem evArgs_sound {sl : List (Nat × SV)} (hs : SlOK sl a) : ∀ {l : List Operand} {l' : List A} {vs : List SV}, lowA l = some l' → evArgs sl l' = some vs → l.map a.eval = vs.map SV.den
  | [], l', vs, h1, h2 => by
    simp only [lowA, Option.some.injEq] at h1; subst h1
    simp only [evArgs, Option.some.injEq] at h2; subst h2; rfl
  | x :: r, l', vs, h1, h2 => by
    simp only [lowA] at h1
    split at h1 <;> simp only [Option.some.injEq, reduceCtorEq] at h1
    rename_i v l hv hl
    subst h1
    simp only [evArgs] at h2
    split at h2 <;> simp only [Option.some.injEq, reduceCtorEq] at h2
    rename_i u us hu hus
    subst h2
    simp only [List.map_cons, ev_sound hs hv hu, evArgs_sound hs hl hus]

theorem undef_den : undef = SV.den (.c (.v undef)) := rfl

theorem Rel.putO {F : Frm} {n : Nat} {st : St} {d : Option Nat} {v : SV} (h : Rel F n st a w) (hd : d.all (· < n) = true) : Rel F n (EV.putO st d v) (a.put d v.den) w := by
  cases d with
  | none => exact h
  | some d => exact h.put (by simpa using hd)

theorem lowI_dst {n : Nat} {o : Oper} {i : I} (h : lowI P n o = some i) : i.dst = o.dst ∧ o.dst.all (· < n) = true := by
  unfold lowI at h
  split at h
  · split at h
    · split at h
      · rename_i hd; cases h; exact ⟨rfl, hd⟩
      · cases h
    · cases h
  · split at h
    · split at h
      · split at h
        · rename_i hd; cases h; exact ⟨rfl, hd⟩
        · cases h
      · cases h
    · cases h
  · split at h
    · rename_i d hd
      split at h
      · rename_i hlt
        rw [hd]
        split at h
        · split at h
          · cases h; exact ⟨rfl, by simpa using hlt⟩
          · cases h
        · split at h
          · cases h; exact ⟨rfl, by simpa using hlt⟩
          · simp only [Option.map_eq_some_iff] at h; obtain ⟨_, _, rfl⟩ := h; exact ⟨rfl, by simpa using hlt⟩
      · cases h
    · rename_i hd
      rw [hd]
      simp only [Option.map_eq_some_iff] at h; obtain ⟨_, _, rfl⟩ := h; exact ⟨rfl, rfl⟩

theorem soundW_bad {op : Op} {i : IW} (hl : some IW.bad = some i) : SoundW P op i := by
  intro F n st st' a w v pc d type pos after g hr hv hp
  cases hl; cases hv

theorem soundW_all {op : Op} {i : IW} (hl : lowW P op = some i) : SoundW P op i := by
  cases op with
  | alloc t => exact soundW_alloc hl
  | box t x => exact soundW_box hl
  | buildSlice t k parts => exact soundW_bsl hl
  | makeSlice t l c => exact soundW_mks hl
  | store t x y => exact soundW_store hl
  | call c =>
    obtain ⟨callee, args, ts⟩ := c
    cases callee with
    | builtin b => cases b <;> first | exact soundW_cpy hl | exact soundW_bad hl
    | _ => exact soundW_bad hl
  | _ => exact soundW_bad hl

theorem lowR_sound {op : Op} {i : IR} {sl : List (Nat × SV)} {hp : List Blk} {v : SV} {pc : Prop} {d : Option Tmp} {type : TypeId} {pos : String} {after : Array Edge} {g : Option (Nat × Bool)}
    (hl : lowR P op = some i) (hs : SlOK sl a) (hh : HpOK hp w) (hv : i.val sl hp = some (v, pc)) (hpc : pc) :
    (execOp a.eval ⟨d, op, type, pos, after, g⟩).run P w = .ok (.value v.den) w := by
  cases op with
  | load t x => exact lowR_load hl hs hh hv hpc
  | convert s t x => exact lowR_b2s hl hs hh hv hpc
  | _ => simp [lowR] at hl

/-- one step -/
theorem step_sound {F : Frm} {n : Nat} {pv : List Blk} {qs : List Nat} {o : Oper} {i : I} {st : St} {K : St → Prop} (hl : lowI P n o = some i) (hr : Rel F n st a w) (h : wpS P F n pv (quiet qs i) st K) :
    opM (HpOK pv) P (quiet qs i).cls o a w (fun a' w' => ∃ st', K st' ∧ Rel F n st' a' w') := by
  obtain ⟨hdst, hlt⟩ := lowI_dst hl
  obtain ⟨dst, op, type, pos, after, guard⟩ := o
  unfold lowI at hl
  split at hl
  · rename_i f args ts hop
    simp only at hop
    subst hop
    split at hl
    · rename_i l hargs
      split at hl
      · cases hl
        simp only [quiet, wpS] at h ⊢
        split at h
        · rename_i vs hvs
          have hev := evArgs_sound hr.slots hargs hvs
          have := h a w hr
          simp only [I.cls, opM, op1]
          have hexec : (execOp a.eval ⟨dst, .call ⟨.value (.func f), args, ts⟩, type, pos, after, guard⟩).run P w = (callFunc f (vs.map SV.den).toArray).run P w := by
            simp only [execOp, resolve, Act.eval, Deferred.ofValue]
            rw [Sem.run_bind]
            simp only [pure, Sem.run, Result.andThen, invoke]
            congr 2
            rw [← hev]
            apply Array.ext'
            simp
          rw [hexec]
          unfold callF at this
          generalize (callFunc f (vs.map SV.den).toArray).run P w = r at *
          have fin : ∀ v' w', (∃ v st', (Pin pv st'.hp ∧ K (EV.putO st' dst v)) ∧ v' = v.den ∧ Rel F n st' a w') → HpOK pv w' ∧ ∃ st', K st' ∧ Rel F n st' (a.put dst v') w' := fun v' w' ⟨v, st', hk, hv, hrel⟩ => by
            subst hv; exact ⟨Pin_ok hk.1 hrel.hp, _, hk.2, hrel.putO hlt⟩
          cases r with
          | ok n w' =>
            cases n <;> simp only at this ⊢
            case value v => exact fin _ _ this
            case enter f args => exact this.mono fun e w'' ⟨v, he, hk⟩ => ⟨v, he, fin _ _ hk⟩
          | halt x w' => exact this
        · exact h.elim
      · rename_i hn; exact absurd hlt hn
    · cases hl
  · rename_i args ts hop
    simp only at hop
    subst hop
    split at hl
    · rename_i x y e b z hargs hat
      split at hl
      · rename_i x' y' hx hy
        split at hl
        · cases hl
          simp only [quiet, wpS] at h ⊢
          split at h
          · rename_i u v hu hv
            obtain ⟨r, st', w', hrun, hk, hrel⟩ := h ts type a w (appT_sound hat) hr
            simp only [I.cls, opM, op1]
            have hargs' : args.map a.eval = #[u.den, v.den] := by
              apply Array.ext'; simp [hargs, ev_sound hr.slots hx hu, ev_sound hr.slots hy hv]
            have hexec : (execOp a.eval ⟨dst, .call ⟨.builtin .append, args, ts⟩, type, pos, after, guard⟩).run P w = .ok (.value r.den) w' := by
              refine run_callBuiltin rfl ?_
              simp only [builtin]
              refine run_value' ?_
              rw [hargs']; exact hrun
            rw [hexec]
            exact ⟨Pin_ok hk.1 hrel.hp, _, hk.2, hrel.putO hlt⟩
          · exact h.elim
        · rename_i hn; exact absurd hlt hn
      · cases hl
    · cases hl
  · have viaW : ∀ (d : Option Tmp) (i : IW), d = dst → lowW P op = some i → wpS P F n pv (.w d i) st K → op1 P ⟨dst, op, type, pos, after, guard⟩ a w (fun a' w' => HpOK pv w' ∧ ∃ st', K st' ∧ Rel F n st' a' w') := by
      intro d i hd hw h
      subst hd
      simp only [wpS] at h
      split at h
      · rename_i v st' pc hrun
        obtain ⟨w', hex, hrel, hsl⟩ := soundW_all hw F n st st' a w v pc d type pos after guard hr hrun h.1
        unfold op1
        rcases hex with hex | ⟨hex, hu⟩
        · rw [hex]; exact ⟨Pin_ok h.2.1 hrel.hp, _, h.2.2, hrel.putO hlt⟩
        · rw [hex]; simp only; rw [← hu]; exact ⟨Pin_ok h.2.1 hrel.hp, _, h.2.2, hrel.putO hlt⟩
      · exact h.elim
    split at hl
    · rename_i d hd
      simp only at hd
      subst hd
      split at hl
      · rename_i hdn
        split at hl
        · rename_i i' hls
          split at hl
          · rename_i hok
            cases hl
            simp only [quiet, wpS] at h
            split at h
            · rename_i v pc hval
              refine ⟨v.den, fun w' _ => lowS_sound hls hok st.sl a w' v pc (some d) type pos after guard hr.slots hval h.1, _, h.2, hr.put hdn⟩
            · exact h.elim
          · cases hl
        · split at hl
          · rename_i i' hlr
            cases hl
            by_cases hq : qs.contains d = true
            · simp only [quiet, hq, if_true] at h ⊢
              simp only [wpS] at h
              split at h
              · rename_i v pc hval
                exact ⟨v.den, fun w' hw' => lowR_sound hlr hr.slots hw' hval h.1, _, h.2, hr.put hdn⟩
              · exact h.elim
            · simp only [quiet, hq] at h ⊢
              simp only [Bool.false_eq_true, if_false, wpS] at h
              split at h
              · rename_i v pc hval
                exact ⟨v.den, lowR_sound hlr hr.slots hr.hp hval h.1, _, h.2, hr.put hdn⟩
              · exact h.elim
          · simp only [Option.map_eq_some_iff] at hl
            obtain ⟨i', hw, rfl⟩ := hl
            simp only [quiet] at h ⊢; exact viaW (some d) i' rfl hw h
      · cases hl
    · rename_i hd
      simp only at hd
      subst hd
      simp only [Option.map_eq_some_iff] at hl
      obtain ⟨i', hw, rfl⟩ := hl
      simp only [quiet] at h ⊢; exact viaW none i' rfl hw h

theorem G_sound {F : Frm} {n : Nat} {pv : List Blk} {qs : List Nat} {ops : Array Oper} {o : Oper} {g : G} {st : St} {K : St → Prop} {K' : Act → World → Prop} (hg : lowG P n qs ops o = some g) (hr : Rel F n st a w)
    (h : wpG P F n pv g K st) (cont : ∀ a' w', (∃ st', K st' ∧ Rel F n st' a' w') → K' a' w') : opG (HpOK pv) P ops g.i.cls o a w K' := by
  unfold lowG at hg
  unfold opG
  split at hg
  · rename_i hgd
    simp only [Option.map_eq_some_iff] at hg
    obtain ⟨i, hi, rfl⟩ := hg
    simp only [wpG] at h
    have : Region.wanted o (yielded ops a.tmps) = true := by simp [Region.wanted, hgd]
    rw [if_pos this]
    exact opM_mono cont (step_sound hi hr h)
  · rename_i j b hgd
    split at hg
    · rename_i t i ht hi
      split at hg
      · rename_i htn
        cases hg
        obtain ⟨hdst, hlt⟩ := lowI_dst hi
        rw [← quiet_dst qs] at hdst
        have hy : yielded ops a.tmps j = match a.tmps[t]? with | some (.bool b) => some b | _ => none := by
          unfold yielded; rw [ht]; rfl
        have htsz : t < a.tmps.size := by rw [hr.tsz]; exact htn.1
        simp only [wpG] at h
        split at h
        · rename_i x hx
          have htv := hr.slots t _ hx
          have htv' : a.tmps[t]? = some (.bool x) := by
            rw [Array.getElem?_eq_getElem htsz]; simpa [htsz, SV.den, C.den] using htv
          have hw : Region.wanted o (yielded ops a.tmps) = (some x == some b) := by
            simp only [Region.wanted, hgd, hy, htv']
          have hsame : ∀ y : Bool, y = x → Rel F n (st.put t (bb y)) a w := fun y hyx => by
            subst hyx
            have h1 := hr.put (d := t) (v := bb y) htn.1
            have h2 : a.put (some t) (bb y).den = a := by
              simp only [Act.put]
              have : a.tmps.setIfInBounds t (bb y).den = a.tmps := by
                apply Array.ext_getElem?
                intro k
                by_cases hk : t = k
                · subst hk; rw [Array.getElem?_setIfInBounds_self_of_lt htsz, htv']; rfl
                · rw [Array.getElem?_setIfInBounds_ne hk]
              rw [this]
            rw [h2] at h1; exact h1
          by_cases hxb : x = b
          · have : Region.wanted o (yielded ops a.tmps) = true := by rw [hw, hxb]; simp
            rw [if_pos this]
            exact opM_mono cont (step_sound hi (hsame b hxb.symm) (h.1 hxb))
          · have : ¬ Region.wanted o (yielded ops a.tmps) = true := by rw [hw]; simpa using hxb
            rw [if_neg this]
            refine cont _ _ ⟨_, h.2 hxb, ?_⟩
            rw [undef_den, ← hdst]
            exact (hsame (!b) (by cases b <;> cases x <;> simp_all)).putO (by rw [hdst]; exact hlt)
        · rename_i vs hx
          have htv := hr.slots t _ hx
          have htv' : a.tmps[t]? = some (.tuple vs) := by
            rw [Array.getElem?_eq_getElem htsz]; simpa [htsz, SV.den, C.den] using htv
          have : ¬ Region.wanted o (yielded ops a.tmps) = true := by
            simp [Region.wanted, hgd, hy, htv']
          rw [if_neg this]
          refine cont _ _ ⟨_, h, ?_⟩
          rw [undef_den, ← hdst]
          exact hr.putO (by rw [hdst]; exact hlt)
        · exact h.elim
      · cases hg
    · cases hg


theorem wpI_sound {F : Frm} {n : Nat} {pv : List Blk} {qs : List Nat} {ops : Array Oper} {Q : St → Prop} : ∀ (l : List Oper) (gs : List G) (st : St) (a : Act) (w : World),
    lowL P n qs ops l = some gs → Rel F n st a w → wpI P F n pv Q (.ofL gs) st → goL (HpOK pv) P ops (fun a' w' => ∃ st', Q st' ∧ Rel F n st' a' w') ((gs.map fun g => g.i.cls).zip l) a w
  | [], gs, st, a, w, hl, hr, h => by
    simp only [lowL, Option.some.injEq] at hl; subst hl
    exact ⟨st, h, hr⟩
  | o :: l, gs, st, a, w, hl, hr, h => by
    simp only [lowL] at hl
    split at hl <;> simp only [Option.some.injEq, reduceCtorEq] at hl
    rename_i g gs' hg hgs
    subst hl
    simp only [List.map_cons, List.zip_cons_cons, goL]
    simp only [GT.ofL, wpI] at h
    exact G_sound hg hr h fun a' w' ⟨st', hk, hrel⟩ => wpI_sound l gs' st' a' w' hgs hrel hk

def setA (l : Array Bool) (k : Nat) : Array Bool := l.setIfInBounds k true

/-- the orders that must be looked at, as a tree -/
def buildT (ops : Array Oper) (ms : List Nat) (gs : List G) : Nat → Array Bool → Option GT
  | 0, listed => if (Region.ready .any ops listed).isEmpty then some .nil else none
  | fu + 1, listed =>
    match Region.ready .any ops listed with
    | [] => some .nil
    | r => match r.find? (freeM ms ops (fun i => (gs[i]?.map fun g => g.i.cls).getD .w) listed) with
      | some k => match gs[k]? with
        | some g => (buildT ops ms gs fu (setA listed k)).map (.cons g)
        | none => none
      | none => alts r listed fun k => match gs[k]? with
        | some g => (buildT ops ms gs fu (setA listed k)).map (.cons g)
        | none => none
 where
  alts : List Nat → Array Bool → (Nat → Option GT) → Option GT
    | [], _, _ => none
    | [k], _, f => f k
    | [k, j], _, f => match f k, f j with | some x, some y => some (.alt x y) | _, _ => none
    | [k, j, i], _, f => match f k, f j, f i with | some x, some y, some z => some (.alt x (.alt y z)) | _, _, _ => none
    | _, _, _ => none

theorem alts_spec {r : List Nat} {listed : Array Bool} {f : Nat → Option GT} {t : GT} (h : buildT.alts r listed f = some t) {F : Frm} {n : Nat} {pv : List Blk} {Q : St → Prop} {st : St} (hw : wpI P F n pv Q t st) :
    ∀ k ∈ r, ∃ u, f k = some u ∧ wpI P F n pv Q u st := by
  unfold buildT.alts at h
  split at h
  · cases h
  · intro k hk; rw [List.mem_singleton] at hk; subst hk; exact ⟨t, h, hw⟩
  · split at h
    · rename_i x y hx hy; cases h
      intro k hk; simp only [List.mem_cons, List.not_mem_nil, or_false] at hk
      rcases hk with rfl | rfl
      · exact ⟨_, hx, hw.1⟩
      · exact ⟨_, hy, hw.2⟩
    · cases h
  · split at h
    · rename_i x y z hx hy hz; cases h
      intro k hk; simp only [List.mem_cons, List.not_mem_nil, or_false] at hk
      rcases hk with rfl | rfl | rfl
      · exact ⟨_, hx, hw.1⟩
      · exact ⟨_, hy, hw.2.1⟩
      · exact ⟨_, hz, hw.2.2⟩
    · cases h
  · cases h

theorem buildT_sound {F : Frm} {n : Nat} {pv : List Blk} {qs : List Nat} {ops : Array Oper} {gs : List G} {Q : St → Prop} (hs : Region.noSelect ops = true)
    (hgs : ∀ (k : Nat) (o : Oper) (g : G), ops[k]? = some o → gs[k]? = some g → lowG P n qs ops o = some g) :
    ∀ (fu : Nat) (listed : Array Bool) (t : GT) (st : St) (a : Act) (w : World), buildT ops (masks .any ops.toList []) gs fu listed = some t → Down .any ops listed → listed.size = ops.size →
      Rel F n st a w → wpI P F n pv Q t st → wpAnyM (HpOK pv) P .any ops (fun i => (gs[i]?.map fun g => g.i.cls).getD .w) (fun a' w' => ∃ st', Q st' ∧ Rel F n st' a' w') fu listed a w := by
  intro fu
  induction fu with
  | zero =>
    intro listed t st a w ht hd hsz hr h
    simp only [buildT] at ht
    split at ht
    · rename_i he; cases ht
      exact ⟨by simpa using he, st, h, hr⟩
    · cases ht
  | succ fu ih =>
    intro listed t st a w ht hd hsz hr h
    simp only [buildT] at ht
    split at ht
    · rename_i he; cases ht
      exact ⟨fun _ => ⟨st, h, hr⟩, fun i hi => by rw [he] at hi; cases hi⟩
    · rename_i r hne
      split at ht
      · rename_i k hk
        split at ht
        · rename_i g hg
          simp only [Option.map_eq_some_iff] at ht
          obtain ⟨t', ht', rfl⟩ := ht
          have hkr := List.mem_of_find?_eq_some hk
          have hkf := List.find?_some hk
          obtain ⟨_, o, ho, _⟩ := mem_ready.1 hkr
          refine wpAnyM_first ho (Region.noSelect_spec hs) fu listed a w hd (freeM_spec ho hkf hsz) hkr ?_
          simp only [wpI] at h
          have hcl : ((gs[k]?.map fun g => g.i.cls).getD .w) = g.i.cls := by rw [hg]; rfl
          simp only [hcl]
          exact G_sound (hgs k o g ho hg) hr h fun a' w' ⟨st', hk', hrel⟩ => ih (setA listed k) t' st' a' w' ht' (hd.set hkr) (by simpa [setA] using hsz) hrel hk'
        · cases ht
      · have hall := alts_spec ht h
        refine ⟨fun h0 => absurd h0 hne, fun k hk o ho => ?_⟩
        obtain ⟨u, hu, hw⟩ := hall k hk
        split at hu
        · rename_i g hg
          simp only [Option.map_eq_some_iff] at hu
          obtain ⟨t', ht', rfl⟩ := hu
          simp only [wpI] at hw
          have hcl : ((gs[k]?.map fun g => g.i.cls).getD .w) = g.i.cls := by rw [hg]; rfl
          simp only [hcl]
          exact G_sound (hgs k o g ho hg) hr hw fun a' w' ⟨st', hk', hrel⟩ => ih (setA listed k) t' st' a' w' ht' (hd.set hk) (by simpa [setA] using hsz) hrel hk'
        · cases hu

theorem lowL_length {n : Nat} {qs : List Nat} {ops : Array Oper} : ∀ (l : List Oper) (gs : List G), lowL P n qs ops l = some gs → gs.length = l.length := by
  intro l
  induction l with
  | nil => intro gs h; simp only [lowL, Option.some.injEq] at h; subst h; rfl
  | cons o l ih =>
    intro gs h
    simp only [lowL] at h
    split at h <;> simp only [Option.some.injEq, reduceCtorEq] at h
    rename_i g gs' hg hgs
    subst h
    simp [ih _ hgs]

theorem lowL_get' {n : Nat} {qs : List Nat} {ops : Array Oper} : ∀ (l : List Oper) (gs : List G), lowL P n qs ops l = some gs → ∀ (k : Nat) (o : Oper) (g : G), l[k]? = some o → gs[k]? = some g → lowG P n qs ops o = some g := by
  intro l
  induction l with
  | nil => intro gs h k o g ho; simp at ho
  | cons o l ih =>
    intro gs h k o' g' ho hg'
    simp only [lowL] at h
    split at h <;> simp only [Option.some.injEq, reduceCtorEq] at h
    rename_i g gs' hg hgs
    subst h
    cases k with
    | zero => simp at ho hg'; subst ho hg'; exact hg
    | succ k => exact ih _ hgs k o' g' (by simpa using ho) (by simpa using hg')

theorem lowL_get {n : Nat} {qs : List Nat} {ops : Array Oper} {gs : List G} (h : lowL P n qs ops ops.toList = some gs) (k : Nat) (o : Oper) (g : G) (ho : ops[k]? = some o) (hg : gs[k]? = some g) : lowG P n qs ops o = some g :=
  lowL_get' _ _ h k o g (by simpa using ho) hg

/-- A region in the text's order. -/
theorem region_text {F : Frm} {n id : Nat} {pl : List Nat} {qs : List Nat} {ops : Array Oper} {gs : List G} {st : St} {Q : Exit → Act → World → Prop} {R : St → Prop}
    (hl : lowL P n qs ops ops.toList = some gs)
    (hr : Rel F n st a w) (h : wpI P F n (pinB st pl) R (.ofL gs) st) (hQ : ∀ st a w, R st → Rel F n st a w → Q .normal a w) : (Code.region id ops false).wp P Q a w := by
  have hz : (((gs.map fun g => g.i.cls).zip ops.toList).map (·.2)).toArray = ops := by
    rw [List.map_snd_zip (by simp [lowL_length _ _ hl])]
  exact region_plain _ hz.symm (pinB_ok hr.hp pl) (goL_mono (fun a' w' ⟨st', hk, hrel⟩ => hQ _ _ _ hk hrel) _ _ _ (wpI_sound ops.toList gs st a w hl hr h))

def treeOk (ops : Array Oper) (gs : List G) (t : GT) : Prop := Region.noSelect ops = true ∧ buildT ops (masks .any ops.toList []) gs ops.size (Array.replicate ops.size false) = some t

/-- A region whose order is drawn. -/
theorem region_tree {F : Frm} {n id : Nat} {pl : List Nat} {qs : List Nat} {ops : Array Oper} {gs : List G} {t : GT} {st : St} {Q : Exit → Act → World → Prop} {R : St → Prop}
    (hm : P.follows .mixedOrders = true) (hl : lowL P n qs ops ops.toList = some gs) (ht : treeOk ops gs t)
    (hr : Rel F n st a w) (h : wpI P F n (pinB st pl) R t st) (hQ : ∀ st a w, R st → Rel F n st a w → Q .normal a w) : (Code.region id ops true).wp P Q a w := by
  refine wp_region_any hm (wpAny_of_M (Inv := HpOK (pinB st pl)) (K := fun a' w' => ∃ st', R st' ∧ Rel F n st' a' w') (cl := fun i => (gs[i]?.map fun g => g.i.cls).getD .w) (fun a w ⟨st', hk, hrel⟩ => hQ st' a w hk hrel) _ _ _ _ (pinB_ok hr.hp pl) ?_)
  exact buildT_sound ht.1 (lowL_get hl) _ _ t st a _ ht.2 (fun j oj hj hl => by rw [getD_replicate_false] at hl; cases hl) (by simp) (hr.world rfl rfl rfl rfl) h
end Go.EV

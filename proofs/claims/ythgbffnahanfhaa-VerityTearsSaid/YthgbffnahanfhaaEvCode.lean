/- Lemmas on what lowered instructions do, part EvCode. No condition but those that a theorem names. -/
import Derived.Test.YthgbffnahanfhaaEvReg
import Derived.ScopeJumps
import Derived.LoopN
set_option linter.unusedVariables false
set_option linter.unusedSimpArgs false
namespace Go.EV
open Go
variable {P : Program} {a : Act} {w : World}

inductive IC where
  | skip
  | reg (pl : List Nat) (t : GT)
  | seq (x y : IC)
  | seqJ (x y : IC)
  | cond (c : A) (t e : IC)
  | block (id : Nat) (c : IC)
  | loop (c : IC)
  | exit (id : Nat)
  | ret
  | lab (l : Nat)
  | goto (l : Nat)
  | scope (l : Nat) (c rest : IC)

/-- without the joins -/
def IC.strip : IC → IC
  | .seq x y => .seq x.strip y.strip
  | .seqJ x y => .seq x.strip y.strip
  | .cond c t e => .cond c t.strip e.strip
  | .block id c => .block id c.strip
  | .loop c => .loop c.strip
  | .scope l c r => .scope l c.strip r.strip
  | .skip => .skip
  | .reg pl l => .reg pl l
  | .exit id => .exit id
  | .ret => .ret
  | .lab l => .lab l
  | .goto l => .goto l

abbrev EK := Exit → St → Prop

/-- as a state, less is known -/
def Weak (F : Frm) (n : Nat) (s s' : St) : Prop := ∀ a w, Rel F n s' a w → Rel F n s a w

def LoopK (F : Frm) (n : Nat) (I : Nat → St → Prop) (N : Nat) (Q : EK) : EK
  | .normal, s' => ∃ M s, I M s ∧ M < N ∧ Weak F n s s'
  | e, s => Q e s
def BlockK (id : Nat) (Q : EK) : EK
  | .exit id', s => if id' = id then Q .normal s else Q (.exit id') s
  | e, s => Q e s
def JumpK (F : Frm) (n : Nat) (l : Nat) (J : Nat → St → Prop) (N : Nat) (Q : EK) : EK
  | .goto l', s' => l' = l ∧ ∃ M s, J M s ∧ M < N ∧ Weak F n s s'
  | e, s => Q e s

/-- the ways meet again in a family of states -/
def JoinK {σ : Type} (F : Frm) (n : Nat) (J : σ → St) (p : σ → Prop) (Q : EK) : EK
  | .normal, s' => ∃ y, p y ∧ Weak F n (J y) s'
  | e, s' => Q e s'

def wpC (P : Program) (F : Frm) (n : Nat) : IC → EK → St → Prop
  | .skip, Q, st => Q .normal st
  | .reg pl l, Q, st => wpI P F n (pinB st pl) (Q .normal) l st
  | .seq x y, Q, st => wpC P F n x (fun e s => match e with | .normal => wpC P F n y Q s | e => Q e s) st
  | .seqJ x y, Q, st => ∃ (σ : Type) (J : σ → St) (p : σ → Prop), wpC P F n x (JoinK F n J p Q) st ∧ ∀ z, p z → wpC P F n y Q (J z)
  | .cond c t e, Q, st => match c.ev st.sl with
    | some (.c (.v (.bool b))) => (b = true → wpC P F n t Q st) ∧ (b = false → wpC P F n e Q st)
    | _ => False
  | .block id c, Q, st => wpC P F n c (BlockK id Q) st
  | .loop c, Q, st => ∃ (I : Nat → St → Prop), (∃ N s, I N s ∧ Weak F n s st) ∧ ∀ N s, I N s → wpC P F n c (LoopK F n I N Q) s
  | .exit id, Q, st => Q (.exit id) st
  | .ret, Q, st => Q .ret st
  | .lab _, Q, st => Q .normal st
  | .goto l, Q, st => Q (.goto l) st
  | .scope l c r, Q, st => ∃ (J : Nat → St → Prop) (N : Nat), wpC P F n c (JumpK F n l J N Q) st ∧ ∀ M s, J M s → wpC P F n r (JumpK F n l J M Q) s

def SeqK (P : Program) (F : Frm) (n : Nat) (y : IC) (Q : EK) : EK := fun e s => match e with | .normal => wpC P F n y Q s | e => Q e s

/-- where an address comes from: the slot from outside of the region -/
def rootA (gs : List G) : Nat → A → Option Nat
  | 0, _ => none
  | fu + 1, .t t => match gs.find? (fun g => g.i.dst == some t) with
    | none => some t
    | some ⟨_, .s _ i⟩ => match i with
      | .mv x => rootA gs fu x
      | .nil x => rootA gs fu x
      | .fa _ x => rootA gs fu x
      | .ia _ _ x _ => rootA gs fu x
      | .is _ x _ => rootA gs fu x
      | .sls _ x _ _ _ => rootA gs fu x
      | .sla _ _ x _ _ _ => rootA gs fu x
      | .sap _ x => rootA gs fu x
      | _ => none
    | some _ => none
  | _, _ => none
def writtenA (gs : List G) : List Nat := gs.filterMap fun g => match g.i with
  | .w _ (.st x _) => rootA gs 40 x
  | .w _ (.sta _ x _) => rootA gs 40 x
  | .w _ (.cpy _ x _) => rootA gs 40 x
  | _ => none
/-- the loads that may be quiet, each with its root -/
def quietA (gs : List G) : List (Nat × Nat) := gs.filterMap fun g => match g.i with
  | .r d (.ld _ x) => (rootA gs 40 x).bind fun r => if (writtenA gs).contains r then none else some (d, r)
  | .r d (.lda _ x) => (rootA gs 40 x).bind fun r => if (writtenA gs).contains r then none else some (d, r)
  | .r d (.b2s x) => (rootA gs 40 x).bind fun r => if (writtenA gs).contains r then none else some (d, r)
  | _ => none
def orderOk (ops : Array Oper) (gs : List G) : Bool := lexM .any ops (fun i => (((gs.map fun g => g.i.cls).zip ops.toList)[i]?.map (·.1)).getD .w)

def treeT (ops : Array Oper) (gs : List G) : Option GT := if Region.noSelect ops = true then buildT ops (masks .any ops.toList []) gs ops.size (Array.replicate ops.size false) else none
theorem treeT_ok {ops : Array Oper} {gs : List G} {t : GT} (h : treeT ops gs = some t) : treeOk ops gs t := by
  unfold treeT at h
  split at h
  · rename_i hn; exact ⟨hn, h⟩
  · cases h

def lowC (P : Program) (n : Nat) : Nat → Code → Option IC
  | 0, _ => none
  | fu + 1, c =>
    match c with
    | .skip => some .skip
    | .region _ ops draw =>
      match lowL P n [] ops ops.toList with
      | some gs => match draw with
        | false => some (.reg [] (.ofL gs))
        | true =>
          if orderOk ops gs = true then (treeT ops gs).map (.reg []) else
          match lowL P n ((quietA gs).map (·.1)) ops ops.toList with
          | some gs' => (treeT ops gs').map (.reg ((quietA gs).map (·.2)).eraseDups)
          | none => none
      | none => none
    | .seq x y => match lowC P n fu x, lowC P n fu y with
      | some x, some y => some (.seq x y)
      | _, _ => none
    | .cond c t e => match A.of c, lowC P n fu t, lowC P n fu e with
      | some c, some t, some e => some (.cond c t e)
      | _, _, _ => none
    | .block id c => (lowC P n fu c).map (.block id)
    | .loop c => (lowC P n fu c).map .loop
    | .exit id => some (.exit id)
    | .ret => some .ret
    | .label l => some (.lab l)
    | .goto l => some (.goto l)
    | .scope c => match labelsOf c with
      | [l] => match findLabel c l with
        | some r => match lowC P n fu c, lowC P n fu r with
          | some c, some r => some (.scope l c r)
          | _, _ => none
        | none => none
      | _ => none
    | _ => none
 where
  labelsOf : Code → List Nat
    | .seq a b => labelsOf a ++ labelsOf b
    | .label l => [l]
    | _ => []

/-- the abstract continuation, lifted -/
def Up (F : Frm) (n : Nat) (Q : EK) : Exit → Act → World → Prop := fun e a w => ∃ st, Q e st ∧ Rel F n st a w

theorem wp_loop_N {F : Frm} {n : Nat} {c : Code} {I : Nat → St → Prop} {Q : EK}
    (h : ∀ M s a w, I M s → Rel F n s a w → c.wp P (Up F n (LoopK F n I M Q)) a w) :
    ∀ (N M : Nat) (s : St) (a : Act) (w : World), M ≤ N → I M s → Rel F n s a w → Code.rounds P c (Up F n Q) (N + 1) a w := by
  intro N
  induction N with
  | zero =>
    intro M s a w hm hI hr
    rw [rounds_succ]
    refine wp_mono (h M s a w hI hr) fun e a' w' ⟨st, hq, hrel⟩ => ?_
    cases e with
    | normal => obtain ⟨M', s', hI', hlt, hw⟩ := hq; omega
    | _ => exact ⟨st, hq, hrel⟩
  | succ N ih =>
    intro M s a w hm hI hr
    rw [rounds_succ]
    refine wp_mono (h M s a w hI hr) fun e a' w' ⟨st, hq, hrel⟩ => ?_
    cases e with
    | normal => obtain ⟨M', s', hI', hlt, hw⟩ := hq; exact ih M' s' a' w' (by omega) hI' (hw _ _ hrel)
    | _ => exact ⟨st, hq, hrel⟩

/-- jumps, with a measure on states that are known -/
theorem wp_scope_N {F : Frm} {n : Nat} {c rest : Code} {l : Nat} {J : Nat → St → Prop} {Q : EK} {N0 : Nat} (hf : findLabel c l = some rest)
    (first : c.wp P (Up F n (JumpK F n l J N0 Q)) a w)
    (pass : ∀ M s a w, J M s → Rel F n s a w → rest.wp P (Up F n (JumpK F n l J M Q)) a w) : (Code.scope c).wp P (Up F n Q) a w := by
  intro b k cs
  have hg : gotoIn l (.inScope c :: k) = some (.code rest :: .inScope c :: k) := by simp [gotoIn, hf]
  have key : ∀ N M s a w, M ≤ N → J M s → Rel F n s a w → ∃ e a' w', Up F n Q e a' w' ∧ Arrives P (lone (b.at a (.code rest :: .inScope c :: k)) cs w) b k cs e a' w' := by
    intro N
    induction N with
    | zero =>
      intro M s a w hn hJ hr
      obtain ⟨e, a₁, w₁, ⟨st, hq, hrel⟩, harr⟩ := pass M s a w hJ hr b (.inScope c :: k) cs
      cases e with
      | normal => exact ⟨.normal, a₁, w₁, ⟨st, hq, hrel⟩, Steps.trans harr (.one step_inScope)⟩
      | exit id => exact ⟨.exit id, a₁, w₁, ⟨st, hq, hrel⟩, fun k' hk => harr k' (by simp [exitTo, hk])⟩
      | goto l' => obtain ⟨rfl, M', s', hJ', hlt, hw⟩ := hq; omega
      | ret => exact ⟨_, a₁, w₁, ⟨st, hq, hrel⟩, harr⟩
      | panic ch => exact ⟨_, a₁, w₁, ⟨st, hq, hrel⟩, harr⟩
      | outgrown => exact ⟨_, a₁, w₁, ⟨st, hq, hrel⟩, harr⟩
    | succ N ih =>
      intro M s a w hn hJ hr
      obtain ⟨e, a₁, w₁, ⟨st, hq, hrel⟩, harr⟩ := pass M s a w hJ hr b (.inScope c :: k) cs
      cases e with
      | normal => exact ⟨.normal, a₁, w₁, ⟨st, hq, hrel⟩, Steps.trans harr (.one step_inScope)⟩
      | exit id => exact ⟨.exit id, a₁, w₁, ⟨st, hq, hrel⟩, fun k' hk => harr k' (by simp [exitTo, hk])⟩
      | goto l' =>
        obtain ⟨rfl, M', s', hJ', hlt, hw⟩ := hq
        obtain ⟨e₂, a₂, w₂, hq₂, harr₂⟩ := ih M' s' a₁ w₁ (by omega) hJ' (hw _ _ hrel)
        exact ⟨e₂, a₂, w₂, hq₂, .of_steps (harr _ hg) harr₂⟩
      | ret => exact ⟨_, a₁, w₁, ⟨st, hq, hrel⟩, harr⟩
      | panic ch => exact ⟨_, a₁, w₁, ⟨st, hq, hrel⟩, harr⟩
      | outgrown => exact ⟨_, a₁, w₁, ⟨st, hq, hrel⟩, harr⟩
  obtain ⟨e, a₁, w₁, ⟨st, hq, hrel⟩, harr⟩ := first b (.inScope c :: k) cs
  cases e with
  | normal => exact ⟨.normal, a₁, w₁, ⟨st, hq, hrel⟩, .head step_scope (Steps.trans harr (.one step_inScope))⟩
  | exit id => exact ⟨.exit id, a₁, w₁, ⟨st, hq, hrel⟩, fun k' hk => .head step_scope (harr k' (by simp [exitTo, hk]))⟩
  | goto l' =>
    obtain ⟨rfl, M', s', hJ', hlt, hw⟩ := hq
    obtain ⟨e₂, a₂, w₂, hq₂, harr₂⟩ := key _ M' s' a₁ w₁ (Nat.le_refl _) hJ' (hw _ _ hrel)
    exact ⟨e₂, a₂, w₂, hq₂, .of_steps (.head step_scope (harr _ hg)) harr₂⟩
  | ret => exact ⟨_, a₁, w₁, ⟨st, hq, hrel⟩, .of_steps (.one step_scope) harr⟩
  | panic ch => exact ⟨_, a₁, w₁, ⟨st, hq, hrel⟩, .of_steps (.one step_scope) harr⟩
  | outgrown => exact ⟨_, a₁, w₁, ⟨st, hq, hrel⟩, .of_steps (.one step_scope) harr⟩

theorem wpC_sound {F : Frm} {n : Nat} (hm : P.follows .mixedOrders = true) : ∀ (fu : Nat) (c : Code) (ic : IC) (Q : EK) (st : St) (a : Act) (w : World),
    lowC P n fu c = some ic.strip → Rel F n st a w → wpC P F n ic Q st → c.wp P (Up F n Q) a w := by
  intro fu
  induction fu with
  | zero => intro c ic Q st a w hl; cases hl
  | succ fu ih =>
    intro c ic Q st a w hl hr h
    cases c with
    | skip =>
      simp only [lowC, Option.some.injEq] at hl
      cases ic <;> simp only [IC.strip, reduceCtorEq] at hl
      exact wp_skip ⟨st, h, hr⟩
    | region id ops draw =>
      simp only [lowC] at hl
      split at hl
      · rename_i gs hgs
        split at hl
        · simp only [Option.some.injEq] at hl
          cases ic <;> simp only [IC.strip, IC.reg.injEq, reduceCtorEq] at hl
          obtain ⟨rfl, rfl⟩ := hl
          exact region_text hgs hr h (fun st a w hq hrel => ⟨st, hq, hrel⟩)
        · split at hl
          · simp only [Option.map_eq_some_iff] at hl
            obtain ⟨t, ht, hl⟩ := hl
            cases ic <;> simp only [IC.strip, IC.reg.injEq, reduceCtorEq] at hl
            obtain ⟨rfl, rfl⟩ := hl
            exact region_tree hm hgs (treeT_ok ht) hr h (fun st a w hq hrel => ⟨st, hq, hrel⟩)
          · split at hl
            · rename_i gs' hgs'
              simp only [Option.map_eq_some_iff] at hl
              obtain ⟨t, ht, hl⟩ := hl
              cases ic <;> simp only [IC.strip, IC.reg.injEq, reduceCtorEq] at hl
              obtain ⟨h1, rfl⟩ := hl
              exact region_tree hm hgs' (treeT_ok ht) hr h (fun st a w hq hrel => ⟨st, hq, hrel⟩)
            · cases hl
      · cases hl
    | seq x y =>
      simp only [lowC] at hl
      split at hl <;> simp only [Option.some.injEq, reduceCtorEq] at hl
      rename_i x' y' hx hy
      cases ic <;> simp only [IC.strip, IC.seq.injEq, reduceCtorEq] at hl
      · obtain ⟨rfl, rfl⟩ := hl
        refine wp_seq (wp_mono (ih x _ _ st a w hx hr h) fun e a' w' ⟨s, hq, hrel⟩ => ?_)
        cases e with
        | normal => exact ih y _ Q s a' w' hy hrel hq
        | _ => exact ⟨s, hq, hrel⟩
      · obtain ⟨rfl, rfl⟩ := hl
        obtain ⟨σ, J, p, h1, h2⟩ := h
        refine wp_seq (wp_mono (ih x _ _ st a w hx hr h1) fun e a' w' ⟨s, hq, hrel⟩ => ?_)
        cases e with
        | normal =>
          obtain ⟨z, hz, hw⟩ := hq
          exact ih y _ Q (J z) a' w' hy (hw _ _ hrel) (h2 z hz)
        | _ => exact ⟨s, hq, hrel⟩
    | cond c t e =>
      simp only [lowC] at hl
      split at hl <;> simp only [Option.some.injEq, reduceCtorEq] at hl
      rename_i c' t' e' hc ht he
      cases ic <;> simp only [IC.strip, IC.cond.injEq, reduceCtorEq] at hl
      obtain ⟨rfl, rfl, rfl⟩ := hl
      simp only [wpC] at h
      split at h
      · rename_i b hb
        have hev : a.eval c = .bool b := ev_sound hr.slots hc hb
        exact wp_cond_split hev (fun hb => ih t _ Q st a w ht hr (h.1 hb)) (fun hb => ih e _ Q st a w he hr (h.2 hb))
      · exact h.elim
    | block id c =>
      simp only [lowC, Option.map_eq_some_iff] at hl
      obtain ⟨c', hc, hl⟩ := hl
      cases ic <;> simp only [IC.strip, IC.block.injEq, reduceCtorEq] at hl
      obtain ⟨rfl, rfl⟩ := hl
      refine wp_block (wp_mono (ih c _ _ st a w hc hr h) fun e a' w' ⟨s, hq, hrel⟩ => ?_)
      cases e with
      | exit id' =>
        simp only [BlockK] at hq
        simp only [Exit.inBlock]
        split
        · rename_i hid; rw [if_pos hid] at hq; exact ⟨s, hq, hrel⟩
        · rename_i hid; rw [if_neg hid] at hq; exact ⟨s, hq, hrel⟩
      | _ => exact ⟨s, hq, hrel⟩
    | loop c =>
      simp only [lowC, Option.map_eq_some_iff] at hl
      obtain ⟨c', hc, hl⟩ := hl
      cases ic <;> simp only [IC.strip, IC.loop.injEq, reduceCtorEq] at hl
      subst hl
      obtain ⟨I, ⟨N, s0, h0, hw0⟩, hstep⟩ := h
      exact wp_loop_rounds _ (wp_loop_N (fun M s a w hI hr => ih c _ _ s a w hc hr (hstep M s hI)) _ N s0 a w (Nat.le_refl _) h0 (hw0 _ _ hr))
    | exit id =>
      simp only [lowC, Option.some.injEq] at hl
      cases ic <;> simp only [IC.strip, IC.exit.injEq, reduceCtorEq] at hl
      subst hl
      exact wp_exit ⟨st, h, hr⟩
    | ret =>
      simp only [lowC, Option.some.injEq] at hl
      cases ic <;> simp only [IC.strip, reduceCtorEq] at hl
      exact wp_ret ⟨st, h, hr⟩
    | label l =>
      simp only [lowC, Option.some.injEq] at hl
      cases ic <;> simp only [IC.strip, IC.lab.injEq, reduceCtorEq] at hl
      exact wp_label ⟨st, h, hr⟩
    | goto l =>
      simp only [lowC, Option.some.injEq] at hl
      cases ic <;> simp only [IC.strip, IC.goto.injEq, reduceCtorEq] at hl
      subst hl
      exact wp_goto ⟨st, h, hr⟩
    | scope c =>
      simp only [lowC] at hl
      split at hl
      · rename_i l hlab
        split at hl
        · rename_i r hf
          split at hl <;> simp only [Option.some.injEq, reduceCtorEq] at hl
          rename_i c' r' hc hr'
          cases ic <;> simp only [IC.strip, IC.scope.injEq, reduceCtorEq] at hl
          obtain ⟨rfl, rfl, rfl⟩ := hl
          obtain ⟨J, N, h1, h2⟩ := h
          exact wp_scope_N hf (ih c _ _ st a w hc hr h1) (fun M s a w hJ hrel => ih r _ _ s a w hr' hrel (h2 M s hJ))
        · cases hl
      · cases hl
    | _ => cases hl
end Go.EV

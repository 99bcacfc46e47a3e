/- Lemmas on what lowered instructions do, part EvFn. No condition but those that a theorem names. -/
import Derived.Test.YthgbffnahanfhaaEvCode
set_option linter.unusedVariables false
set_option linter.unusedSimpArgs false
namespace Go.EV
open Go
variable {P : Program} {a : Act} {w : World}

/-- blocks, one by one (what stands in memory; the ids say nothing) -/
def HpL : List Blk → World → Prop
  | [], _ => True
  | b :: r, w => w.heap[b.blk]? = some (.cells (b.cs.map C.den).toArray b.ty b.fr) ∧ HpL r w
theorem HpL_iff {hp : List Blk} : HpL hp w ↔ HpOK hp w := by
  induction hp with
  | nil => simp [HpL, HpOK]
  | cons b r ih => simp only [HpL, ih, HpOK, List.mem_cons, forall_eq_or_imp]

def NotIn (n : Nat) : List Blk → Prop
  | [] => True
  | b :: r => n ≠ b.blk ∧ NotIn n r
/-- the blocks that are written stand apart from each other, and from those that are read -/
def Apart : List Blk → List Blk → Prop
  | [], _ => True
  | b :: r, ro => NotIn b.blk r ∧ NotIn b.blk ro ∧ Apart r ro

def setCs : List Blk → List (List C) → List Blk
  | [], _ => []
  | b :: r, [] => b :: setCs r []
  | b :: r, c :: cs => { b with cs := c } :: setCs r cs

/-- the new blocks -/
def NewL (N : Nat) : List Blk → Prop
  | [] => True
  | b :: r => N ≤ b.blk ∧ NotIn b.blk r ∧ NewL N r

structure Fr (mods : List Nat) (w w' : World) : Prop where
  size : w.heap.size ≤ w'.heap.size
  keep : ∀ b, b < w.heap.size → b ∉ mods → w'.heap[b]? = w.heap[b]?
  os : w'.os = w.os
  tape : w'.tape = w.tape
  output : w'.output = w.output

/-- THE CONTRACT: function f, called with args, over the blocks rw (that it may write) and ro (that it reads): it answers v, the blocks rw hold ups, the blocks nw are new, and R holds of these. -/
def Fn (P : Program) (f : Nat) (args : List SV) (rw ro : List Blk) (R : SV → List (List C) → List Blk → Prop) : Prop :=
  ∀ w, HpL rw w → HpL ro w → Apart rw ro → callF P f (args.map SV.den).toArray w fun v' w' =>
    ∃ v ups nw, R v ups nw ∧ v' = v.den ∧ HpL (setCs rw ups) w' ∧ HpL nw w' ∧ NewL w.heap.size nw ∧ Fr (rw.map (·.blk)) w w'

theorem Fn.mono {f : Nat} {args : List SV} {rw ro : List Blk} {R R' : SV → List (List C) → List Blk → Prop} (h : Fn P f args rw ro R) (hR : ∀ v u n, R v u n → R' v u n) : Fn P f args rw ro R' :=
  fun w h1 h2 h3 => callF_mono (fun _ _ ⟨v, u, n, hr, hx⟩ => ⟨v, u, n, hR _ _ _ hr, hx⟩) (h w h1 h2 h3)

/-! ### from the body to the contract -/

inductive RV where
  | tmp (t : Nat)
  | cell (ag : Bool) (n : Nat) (h : Value) (t : Nat)

structure IFn where
  n : Nat
  code : IC
  res : List RV

def lowRes (P : Program) (n : Nat) : List ResultVar → Option (List RV)
  | [] => some []
  | .tmp t :: r => (lowRes P n r).map (.tmp t :: ·)
  | .cell t ty :: r => if (P.underlying ty).isSome then (lowRes P n r).map (.cell (isAggT P ty) (P.cellsOf ty) (hintOf P ty) t :: ·) else none

def lowF (P : Program) (fn : Func) : Option IFn :=
  match fn.body with
  | none => none
  | some c => match lowC P fn.ntmps 1000 c, lowRes P fn.ntmps fn.results.toList with
    | some ic, some r => if fn.params.size ≤ fn.ntmps ∧ fn.name ≠ "runtime.NumGoroutine" then some ⟨fn.ntmps, ic, r⟩ else none
    | _, _ => none

def RV.val (st : St) : RV → VP
  | .tmp t => match getS st.sl t with | some v => some (v, True) | none => none
  | .cell ag n h t => if ag then IR.val st.sl st.hp (.lda n (.t t)) else IR.val st.sl st.hp (.ld h (.t t))

def resV (st : St) : List RV → VP
  | [] => some (.t0, True)
  | [r] => r.val st
  | [r, s] => match r.val st, s.val st with
    | some (x, p), some (y, q) => some (.t2 x y, p ∧ q)
    | _, _ => none
  | [r, s, t] => match r.val st, s.val st, t.val st with
    | some (x, p), some (y, q), some (z, o) => some (.t3 x y z, p ∧ q ∧ o)
    | _, _, _ => none
  | _ => none

def initSl (k : Nat) : List SV → List (Nat × SV)
  | [] => []
  | v :: r => (k, v) :: initSl (k + 1) r

def roB (b : Blk) : Blk := { b with ro := true }
def rwB (b : Blk) : Blk := { b with ro := false }

/-- what a block of the state must be, to be that of the contract -/
def Here (hp : List Blk) (k : Blk) : Prop := ∃ b ∈ hp, b.blk = k.blk ∧ b.ty = k.ty ∧ b.fr = k.fr ∧ b.cs.map C.den = k.cs.map C.den
def HereL (hp : List Blk) : List Blk → Prop
  | [] => True
  | k :: r => Here hp k ∧ HereL hp r

def RetK (res : List RV) (N : Nat) (rw : List Blk) (R : SV → List (List C) → List Blk → Prop) : EK
  | .normal, st => go st
  | .ret, st => go st
  | _, _ => False
 where
  go (st : St) : Prop := match resV st res with
    | some (v', pc) => pc ∧ ∃ v ups nw, R v ups nw ∧ v'.den = v.den ∧ HereL st.hp (setCs rw ups) ∧ HereL st.hp nw ∧ NewL N nw
    | none => False

def resOne (tmps : Array Value) : ResultVar → Sem Value
  | .tmp t => pure (tmps.getD t undef)
  | .cell b t => do loadVar t (← asAddr (tmps.getD b undef))
theorem results_eq (fn : Func) (tmps : Array Value) : results fn tmps = (do
    let vs ← fn.results.mapM (resOne tmps)
    pure (if h : vs.size = 1 then vs[0] else .tuple vs)) := by
  unfold results
  congr 1

theorem RV_sound {n : Nat} {F : Frm} {st : St} {x : ResultVar} {r : RV} {v : SV} {pc : Prop} (hr : Rel F n st a w) (hl : lowRes P n [x] = some [r]) (hv : r.val st = some (v, pc)) (hp : pc) :
    (resOne a.tmps x).run P w = .ok v.den w := by
  cases x with
  | tmp t =>
    show (pure (a.tmps.getD t undef) : Sem Value).run P w = _
    simp only [lowRes, Option.map_some, Option.some.injEq, List.cons.injEq, and_true] at hl
    subst hl
    simp only [RV.val] at hv
    split at hv <;> simp only [Option.some.injEq, Prod.mk.injEq, reduceCtorEq] at hv
    obtain ⟨rfl, rfl⟩ := hv
    rename_i hg
    rw [hr.slots _ _ hg]; rfl
  | cell b t =>
    show (do loadVar t (← asAddr (a.tmps.getD b undef)) : Sem Value).run P w = _
    simp only [lowRes] at hl
    split at hl
    · rename_i hu
      simp only [Option.map_some, Option.some.injEq, List.cons.injEq, and_true] at hl
      subst hl
      simp only [RV.val] at hv
      have key : ∀ (i : IR), lowR P (.load t (.tmp b)) = some i → i.val st.sl st.hp = some (v, pc) → (do loadVar t (← asAddr (a.tmps.getD b undef)) : Sem Value).run P w = .ok v.den w := by
        intro i hi hval
        have h1 := lowR_load (d := none) (type := 0) (pos := "") (after := #[]) (g := none) hi hr.slots hr.hp hval hp
        simp only [execOp] at h1
        rw [Sem.run_bind] at h1
        have hptr : ∃ id bk o, getS st.sl b = some (.c (.p id bk o)) := by
          have : ∃ y : Value, i = .ld y (.t b) ∨ ∃ m, i = .lda m (.t b) := by
            simp only [lowR] at hi
            split at hi
            · cases hi
            · split at hi <;> simp only [A.of, Option.map_some, Option.some.injEq] at hi
              · exact ⟨undef, .inr ⟨_, hi.symm⟩⟩
              · exact ⟨_, .inl hi.symm⟩
          obtain ⟨_, rfl | ⟨m, rfl⟩⟩ := this
          · simp only [IR.val, A.ev] at hval; split at hval
            · rename_i id bk o e; exact ⟨id, bk, o, e⟩
            · cases hval
          · simp only [IR.val, A.ev] at hval; split at hval
            · rename_i id bk o e; exact ⟨id, bk, o, e⟩
            · cases hval
        obtain ⟨id, bk, o, hg⟩ := hptr
        have hd := hr.slots _ _ hg
        simp only [SV.den, C.den] at hd
        have e1 : a.eval (.tmp b) = .pointer (some ⟨bk, o, none⟩) := hd
        rw [hd]
        rw [Sem.run_bind]
        simp only [asAddr, pure, Sem.run, Result.andThen]
        rw [e1] at h1
        unfold Instr.loadAt at h1
        rw [Sem.run_bind] at h1
        simp only [Instr.sureAddr, pure, Sem.run, Result.andThen] at h1
        generalize (loadVar t ⟨bk, o, none⟩).run P w = r at *
        cases r with
        | ok v' w' => simp only [Result.ok.injEq, Next.value.injEq] at h1; obtain ⟨rfl, rfl⟩ := h1; rfl
        | halt h' w' => simp at h1
      obtain ⟨ds, hds⟩ := Option.isSome_iff_exists.1 hu
      split at hv
      · rename_i hag
        exact key _ (by simp only [lowR, hds, hag, if_true, A.of, Option.map_some]) hv
      · rename_i hag
        exact key _ (by simp only [lowR, hds, hag, A.of, Option.map_some]; rfl) hv
    · cases hl

theorem lowRes_cons {n : Nat} {x : ResultVar} {l : List ResultVar} {rs : List RV} (h : lowRes P n (x :: l) = some rs) : ∃ r rs', rs = r :: rs' ∧ lowRes P n [x] = some [r] ∧ lowRes P n l = some rs' := by
  cases x with
  | tmp t =>
    simp only [lowRes, Option.map_eq_some_iff] at h
    obtain ⟨rs', h1, rfl⟩ := h
    exact ⟨_, rs', rfl, rfl, h1⟩
  | cell b t =>
    simp only [lowRes] at h
    split at h
    · rename_i hu
      simp only [Option.map_eq_some_iff] at h
      obtain ⟨rs', h1, rfl⟩ := h
      exact ⟨_, rs', rfl, by simp [lowRes, hu], h1⟩
    · cases h

theorem results_sound {n : Nat} {F : Frm} {fn : Func} {st : St} {rs : List RV} {v : SV} {pc : Prop} (hr : Rel F n st a w) (hl : lowRes P n fn.results.toList = some rs) (hv : resV st rs = some (v, pc)) (hp : pc) :
    (results fn a.tmps).run P w = .ok v.den w := by
  rw [results_eq, Sem.run_bind, Array.mapM_eq_mapM_toList]
  generalize fn.results.toList = l at hl
  match l, hl with
  | [], hl =>
    simp only [lowRes, Option.some.injEq] at hl; subst hl
    simp only [resV, Option.some.injEq, Prod.mk.injEq] at hv
    obtain ⟨rfl, rfl⟩ := hv
    simp [SV.den, pure]
  | [x], hl =>
    obtain ⟨r, rs', rfl, h1, h2⟩ := lowRes_cons hl
    simp only [lowRes, Option.some.injEq] at h2; subst h2
    simp only [resV] at hv
    have := RV_sound hr h1 hv hp
    simp [List.mapM_cons, Sem.run_bind, this, pure, Result.andThen]
  | [x, y], hl =>
    obtain ⟨r, rs', rfl, h1, h2⟩ := lowRes_cons hl
    obtain ⟨s, rs'', rfl, h3, h4⟩ := lowRes_cons h2
    simp only [lowRes, Option.some.injEq] at h4; subst h4
    simp only [resV] at hv
    split at hv <;> simp only [Option.some.injEq, Prod.mk.injEq, reduceCtorEq] at hv
    rename_i e1 e2
    obtain ⟨rfl, rfl⟩ := hv
    have g1 := RV_sound hr h1 e1 hp.1
    have g2 := RV_sound hr h3 e2 hp.2
    simp [List.mapM_cons, Sem.run_bind, g1, g2, pure, Result.andThen, SV.den]
  | [x, y, z], hl =>
    obtain ⟨r, rs', rfl, h1, h2⟩ := lowRes_cons hl
    obtain ⟨s, rs'', rfl, h3, h4⟩ := lowRes_cons h2
    obtain ⟨t, rs3, rfl, h5, h6⟩ := lowRes_cons h4
    simp only [lowRes, Option.some.injEq] at h6; subst h6
    simp only [resV] at hv
    split at hv <;> simp only [Option.some.injEq, Prod.mk.injEq, reduceCtorEq] at hv
    rename_i e1 e2 e3
    obtain ⟨rfl, rfl⟩ := hv
    have g1 := RV_sound hr h1 e1 hp.1
    have g2 := RV_sound hr h3 e2 hp.2.1
    have g3 := RV_sound hr h5 e3 hp.2.2
    simp [List.mapM_cons, Sem.run_bind, g1, g2, g3, pure, Result.andThen, SV.den]
  | x :: y :: z :: u :: l, hl =>
    obtain ⟨r, rs', rfl, h1, h2⟩ := lowRes_cons hl
    obtain ⟨s, rs'', rfl, h3, h4⟩ := lowRes_cons h2
    obtain ⟨t, rs3, rfl, h5, h6⟩ := lowRes_cons h4
    obtain ⟨t', rs4, rfl, h7, h8⟩ := lowRes_cons h6
    simp [resV] at hv

theorem initSl_get : ∀ (vs : List SV) (k t : Nat) (v : SV), getS (initSl k vs) t = some v → k ≤ t ∧ vs[t - k]? = some v
  | [], k, t, v, h => by cases h
  | u :: r, k, t, v, h => by
    simp only [initSl, getS_cons] at h
    split at h
    · rename_i hk; subst hk; cases h; exact ⟨Nat.le_refl _, by simp⟩
    · rename_i hk
      obtain ⟨h1, h2⟩ := initSl_get r (k + 1) t v h
      refine ⟨by omega, ?_⟩
      rw [show t - k = (t - (k + 1)) + 1 by omega]
      simpa using h2

theorem NotIn_spec {n : Nat} {l : List Blk} (h : NotIn n l) : ∀ b ∈ l, n ≠ b.blk := by
  induction l with
  | nil => simp
  | cons x r ih => intro b hb; rcases List.mem_cons.1 hb with rfl | hb; exact h.1; exact ih h.2 b hb

def IFn.strip (i : IFn) : IFn := { i with code := i.code.strip }

/-- the state in which the body begins -/
def st0 (args : List SV) (rw ro : List Blk) (N : Nat) : St := ⟨initSl 0 args, rw.map rwB ++ ro.map roB, 100, N⟩

/-! ### from the contract to the call -/

/-- the blocks of the contract stand in the state -/
def HaveRw (hp : List Blk) : List Blk → Prop
  | [] => True
  | k :: r => (∃ b, getB hp k.id = some b ∧ b.ro = false ∧ b.blk = k.blk ∧ b.ty = k.ty ∧ b.fr = k.fr ∧ b.cs = k.cs) ∧ HaveRw hp r
def HaveRo (hp : List Blk) : List Blk → Prop
  | [] => True
  | k :: r => (∃ b, getB hp k.id = some b ∧ b.blk = k.blk ∧ b.ty = k.ty ∧ b.fr = k.fr ∧ b.cs = k.cs) ∧ HaveRo hp r
def NoId (i : Nat) : List Blk → Prop
  | [] => True
  | b :: r => b.id ≠ i ∧ NoId i r
/-- those that are written have ids of their own -/
def OwnIds : List Blk → List Blk → Prop
  | [], _ => True
  | k :: r, ro => NoId k.id r ∧ NoId k.id ro ∧ OwnIds r ro
def setAll : List Blk → List Blk → List (List C) → List Blk
  | hp, [], _ => hp
  | hp, _ :: _, [] => hp
  | hp, k :: r, c :: cs => setAll (setB hp k.id c) r cs

theorem blk_ne {hp : List Blk} {i j : Nat} {b c : Blk} (hd : hp.Pairwise (fun x y => x.blk ≠ y.blk ∨ (x.ro = true ∧ y.ro = true)))
    (hb : getB hp i = some b) (hc : getB hp j = some c) (hij : i ≠ j) (hro : b.ro = false) : b.blk ≠ c.blk := by
  induction hp with
  | nil => cases hb
  | cons x r ih =>
    simp only [List.pairwise_cons] at hd
    simp only [getB_cons] at hb hc
    split at hb
    · rename_i hx
      cases hb
      split at hc
      · rename_i hx'; exact absurd (hx.symm.trans hx') hij
      · rcases hd.1 c (getB_mem hc) with h | h
        · exact h
        · rw [hro] at h; exact absurd h.1 (by simp)
    · rename_i hx
      split at hc
      · cases hc
        rcases hd.1 b (getB_mem hb) with h | h
        · exact fun e => h e.symm
        · rw [hro] at h; exact absurd h.2 (by simp)
      · exact ih hd.2 hb hc
end Go.EV

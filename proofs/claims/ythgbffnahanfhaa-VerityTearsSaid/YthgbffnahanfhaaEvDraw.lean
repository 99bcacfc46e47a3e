/- A region whose order is drawn, run in the order of its text: classes of operations, and the law that any order comes to the same. -/
import Derived.WalkKit
import Derived.StillTail
set_option linter.unusedVariables false
set_option linter.unusedSimpArgs false
namespace Go.EV
open Go

inductive Cls where
  | s | r | w
  deriving DecidableEq

/-- One operation, without panic. -/
def op1 (P : Program) (o : Oper) (a : Act) (w : World) (K : Act → World → Prop) : Prop :=
  match (execOp a.eval o).run P w with
  | .ok (.value v) w' => K (a.put o.dst v) w'
  | .ok .skip w' => K (a.put o.dst undef) w'
  | .ok (.enter f args) w' => Calls P f args w' fun e w'' => ∃ v, e = .returned v ∧ K (a.put o.dst v) w''
  | _ => False

/-- Inv: what every operation of the region leaves as it is (the blocks that are pinned) -/
def opM (Inv : World → Prop) (P : Program) (c : Cls) (o : Oper) (a : Act) (w : World) (K : Act → World → Prop) : Prop :=
  match c with
  | .s => ∃ v, (∀ w', Inv w' → (execOp a.eval o).run P w' = .ok (.value v) w') ∧ K (a.put o.dst v) w
  | .r => ∃ v, (execOp a.eval o).run P w = .ok (.value v) w ∧ K (a.put o.dst v) w
  | .w => op1 P o a w fun a' w' => Inv w' ∧ K a' w'

def opG (Inv : World → Prop) (P : Program) (ops : Array Oper) (c : Cls) (o : Oper) (a : Act) (w : World) (K : Act → World → Prop) : Prop :=
  if Region.wanted o (yielded ops a.tmps) then opM Inv P c o a w K else K (a.put o.dst undef) w

theorem op1_mono {P : Program} {o : Oper} {a : Act} {w : World} {K K' : Act → World → Prop} (h : ∀ a w, K a w → K' a w)
    (hh : op1 P o a w K) : op1 P o a w K' := by
  unfold op1 at *
  generalize (execOp a.eval o).run P w = r at *
  cases r with
  | ok n w' =>
    cases n <;> simp only at hh ⊢
    case value v => exact h _ _ hh
    case skip => exact h _ _ hh
    case enter f args => exact hh.mono fun e w'' ⟨v, he, hk⟩ => ⟨v, he, h _ _ hk⟩
  | halt x w' => exact hh

theorem opM_mono {Inv : World → Prop} {P : Program} {c : Cls} {o : Oper} {a : Act} {w : World} {K K' : Act → World → Prop} (h : ∀ a w, K a w → K' a w)
    (hh : opM Inv P c o a w K) : opM Inv P c o a w K' := by
  cases c
  · obtain ⟨v, hv, hk⟩ := hh; exact ⟨v, hv, h _ _ hk⟩
  · obtain ⟨v, hv, hk⟩ := hh; exact ⟨v, hv, h _ _ hk⟩
  · exact op1_mono (K := fun a' w' => Inv w' ∧ K a' w') (K' := fun a' w' => Inv w' ∧ K' a' w') (fun a w hh => ⟨hh.1, h a w hh.2⟩) hh

theorem opG_mono {Inv : World → Prop} {P : Program} {ops : Array Oper} {c : Cls} {o : Oper} {a : Act} {w : World} {K K' : Act → World → Prop} (h : ∀ a w, K a w → K' a w)
    (hh : opG Inv P ops c o a w K) : opG Inv P ops c o a w K' := by
  unfold opG at *
  split
  · rename_i hw; rw [if_pos hw] at hh; exact opM_mono h hh
  · rename_i hw; rw [if_neg hw] at hh; exact h _ _ hh

theorem calls_some {P : Program} {f : FuncId} {args : Array Value} {w : World} {R : Ending → World → Prop} (h : Calls P f args w R) : ∃ e w', R e w' := by
  obtain ⟨e, w', fr, hr, _⟩ := h []
  exact ⟨e, w', hr⟩

/-- whatever is run without panic, some end of it is there -/
theorem op1_some {P : Program} {o : Oper} {a : Act} {w : World} {K : Act → World → Prop} (h : op1 P o a w K) : ∃ v w', K (a.put o.dst v) w' := by
  unfold op1 at h
  split at h
  · exact ⟨_, _, h⟩
  · exact ⟨_, _, h⟩
  · obtain ⟨e, w', v, _, hk⟩ := calls_some h; exact ⟨v, w', hk⟩
  · exact h.elim

def compat : Cls → Cls → Bool
  | .s, _ => true
  | _, .s => true
  | .r, .r => true
  | _, _ => false

section
variable {Inv : World → Prop} {P : Program} {ops : Array Oper} {md : Region.Mode}

/-- Two operations that stand apart change places. -/
theorem opG_swap {ci cj : Cls} {oi oj : Oper} (hc : compat ci cj = true) (hap : oi.apart ops oj = true)
    (hsi : ∀ cs b, oi.op ≠ .select cs b) (hsj : ∀ cs b, oj.op ≠ .select cs b) {K : Act → World → Prop} {a : Act} {w : World}
    (h : opG Inv P ops ci oi a w (fun a' w' => opG Inv P ops cj oj a' w' K)) : opG Inv P ops cj oj a w (fun a' w' => opG Inv P ops ci oi a' w' K) := by
  obtain ⟨h1, h2, h3⟩ := Oper.apart_spec hap
  have hwj : ∀ (a : Act) v, Region.wanted oj (yielded ops (a.put oi.dst v).tmps) = Region.wanted oj (yielded ops a.tmps) := fun a v => wanted_put oj a oi.dst v h1
  have hwi : ∀ (a : Act) v, Region.wanted oi (yielded ops (a.put oj.dst v).tmps) = Region.wanted oi (yielded ops a.tmps) := fun a v => wanted_put oi a oj.dst v h3
  have hej : ∀ (a : Act) v, execOp (a.put oi.dst v).eval oj = execOp a.eval oj := fun a v => execOp_put oj hsj a oi.dst v h1
  have hei : ∀ (a : Act) v, execOp (a.put oj.dst v).eval oi = execOp a.eval oi := fun a v => execOp_put oi hsi a oj.dst v h3
  have hpc : ∀ (a : Act) v u, (a.put oi.dst v).put oj.dst u = (a.put oj.dst u).put oi.dst v := fun a v u => Act.put_comm a v u h2
  unfold opG at *
  by_cases hi : Region.wanted oi (yielded ops a.tmps) = true
  · by_cases hj : Region.wanted oj (yielded ops a.tmps) = true
    · simp only [hi, hj, if_true] at h ⊢
      -- both are wanted
      cases ci with
      | s =>
        obtain ⟨v, hv, hk⟩ := h
        simp only [hwj, hj, if_true] at hk
        have step : ∀ u w', (K ((a.put oi.dst v).put oj.dst u) w') → (if Region.wanted oi (yielded ops (a.put oj.dst u).tmps) = true then opM Inv P .s oi (a.put oj.dst u) w' K else K ((a.put oj.dst u).put oi.dst undef) w') := fun u w' hk => by
          simp only [hwi, hi, if_true]
          exact ⟨v, fun w'' hw'' => by rw [hei]; exact hv w'' hw'', by rw [← hpc]; exact hk⟩
        cases cj with
        | s => obtain ⟨u, hu, hk⟩ := hk; exact ⟨u, fun w' hw' => by rw [← hej a v]; exact hu w' hw', step _ _ hk⟩
        | r => obtain ⟨u, hu, hk⟩ := hk; exact ⟨u, by rw [← hej a v]; exact hu, step _ _ hk⟩
        | w =>
          simp only [opM, op1, hej] at hk ⊢
          split at hk
          · exact ⟨hk.1, step _ _ hk.2⟩
          · exact ⟨hk.1, step _ _ hk.2⟩
          · exact hk.mono fun e w'' ⟨u, he, hk⟩ => ⟨u, he, hk.1, step _ _ hk.2⟩
          · exact hk
      | r =>
        obtain ⟨v, hv, hk⟩ := h
        simp only [hwj, hj, if_true] at hk
        have step : ∀ u, (K ((a.put oi.dst v).put oj.dst u) w) → (if Region.wanted oi (yielded ops (a.put oj.dst u).tmps) = true then opM Inv P .r oi (a.put oj.dst u) w K else K ((a.put oj.dst u).put oi.dst undef) w) := fun u hk => by
          simp only [hwi, hi, if_true]
          exact ⟨v, by rw [hei]; exact hv, by rw [← hpc]; exact hk⟩
        cases cj with
        | s => obtain ⟨u, hu, hk⟩ := hk; exact ⟨u, fun w' hw' => by rw [← hej a v]; exact hu w' hw', step _ hk⟩
        | r => obtain ⟨u, hu, hk⟩ := hk; exact ⟨u, by rw [← hej a v]; exact hu, step _ hk⟩
        | w => simp [compat] at hc
      | w =>
        cases cj with
        | r => simp [compat] at hc
        | w => simp [compat] at hc
        | s =>
          simp only [opM] at h
          have hex := op1_some h
          obtain ⟨v0, w0, hw0, hk0⟩ := hex
          simp only [hwj, hj, if_true, hej] at hk0
          obtain ⟨u, hu, _⟩ := hk0
          refine ⟨u, hu, ?_⟩
          simp only [hwi, hi, if_true]
          have same : ∀ u', (∀ w', Inv w' → (execOp a.eval oj).run P w' = .ok (.value u') w') → u' = u := fun u' h' => by
            have := (h' w0 hw0).symm.trans (hu w0 hw0); injection this with h4 _; injection h4
          have step : ∀ v w', (if Region.wanted oj (yielded ops (a.put oi.dst v).tmps) = true then opM Inv P .s oj (a.put oi.dst v) w' K else K ((a.put oi.dst v).put oj.dst undef) w') → K ((a.put oj.dst u).put oi.dst v) w' := fun v w' hh => by
            simp only [hwj, hj, if_true] at hh
            obtain ⟨u', hu', hk⟩ := hh
            have := same u' (fun w'' hw'' => by rw [← hej a v]; exact hu' w'' hw'')
            subst this
            rw [← hpc]; exact hk
          simp only [opM, op1, hei] at h ⊢
          split at h
          · exact ⟨h.1, step _ _ h.2⟩
          · exact ⟨h.1, step _ _ h.2⟩
          · exact h.mono fun e w'' ⟨v, he, hk⟩ => ⟨v, he, hk.1, step _ _ hk.2⟩
          · exact h
    · simp only [hi, hj, if_true] at h ⊢
      simp only [hwi, hi, if_true]
      -- j is not wanted
      have step : ∀ v w', (if Region.wanted oj (yielded ops (a.put oi.dst v).tmps) = true then opM Inv P cj oj (a.put oi.dst v) w' K else K ((a.put oi.dst v).put oj.dst undef) w') → K ((a.put oj.dst undef).put oi.dst v) w' := fun v w' hh => by
        simp only [hwj, hj] at hh; rw [← hpc]; exact hh
      cases ci with
      | s => obtain ⟨v, hv, hk⟩ := h; exact ⟨v, fun w' hw' => by rw [hei]; exact hv w' hw', step _ _ hk⟩
      | r => obtain ⟨v, hv, hk⟩ := h; exact ⟨v, by rw [hei]; exact hv, step _ _ hk⟩
      | w =>
        simp only [opM, op1, hei] at h ⊢
        split at h
        · exact ⟨h.1, step _ _ h.2⟩
        · exact ⟨h.1, step _ _ h.2⟩
        · exact h.mono fun e w'' ⟨v, he, hk⟩ => ⟨v, he, hk.1, step _ _ hk.2⟩
        · exact h
  · simp only [hi] at h
    simp only [hwj] at h
    have step : ∀ u w', K ((a.put oi.dst undef).put oj.dst u) w' → (if Region.wanted oi (yielded ops (a.put oj.dst u).tmps) = true then opM Inv P ci oi (a.put oj.dst u) w' K else K ((a.put oj.dst u).put oi.dst undef) w') := fun u w' hk => by
      simp only [hwi, hi]; rw [← hpc]; exact hk
    split
    · rename_i hj
      simp only [hj, if_true] at h
      cases cj with
      | s => obtain ⟨u, hu, hk⟩ := h; exact ⟨u, fun w' hw' => by rw [← hej a undef]; exact hu w' hw', step _ _ hk⟩
      | r => obtain ⟨u, hu, hk⟩ := h; exact ⟨u, by rw [← hej a undef]; exact hu, step _ _ hk⟩
      | w =>
        simp only [Bool.false_eq_true, if_false, opM, op1, hej] at h ⊢
        split at h
        · exact ⟨h.1, step _ _ h.2⟩
        · exact ⟨h.1, step _ _ h.2⟩
        · exact h.mono fun e w'' ⟨u, he, hk⟩ => ⟨u, he, hk.1, step _ _ hk.2⟩
        · exact h
    · rename_i hj
      simp only [hj] at h
      exact step _ _ h

def wpAnyM (Inv : World → Prop) (P : Program) (md : Region.Mode) (ops : Array Oper) (cl : Nat → Cls) (K : Act → World → Prop) : Nat → Array Bool → Act → World → Prop
  | 0, listed, a, w => Region.ready md ops listed = [] ∧ K a w
  | fuel + 1, listed, a, w =>
    (Region.ready md ops listed = [] → K a w) ∧
    ∀ i ∈ Region.ready md ops listed, ∀ o, ops[i]? = some o → opG Inv P ops (cl i) o a w (wpAnyM Inv P md ops cl K fuel (listed.setIfInBounds i true))

theorem wpOp_of_opG {i : Nat} {o : Oper} {c : Cls} {Q : Exit → Act → World → Prop} {a : Act} {w : World} {K K' : Act → World → Prop} (hi : ops[i]? = some o)
    (hI : Inv w) (h : ∀ a w, Inv w → K a w → K' a w) (hh : opG Inv P ops c o a w K) : wpOp P ops Q i K' a w := by
  unfold wpOp
  simp only [hi]
  unfold opG at hh
  split
  · rename_i hw
    simp only [hw, if_true] at hh
    left
    unfold Oper.wp
    cases c with
    | s => obtain ⟨v, hv, hk⟩ := hh; simp only [hv w hI, Oper.upon]; exact h _ _ hI hk
    | r => obtain ⟨v, hv, hk⟩ := hh; simp only [hv, Oper.upon]; exact h _ _ hI hk
    | w =>
      simp only [opM, op1] at hh
      split at hh
      · rename_i hr; simp only [hr, Oper.upon]; exact h _ _ hh.1 hh.2
      · rename_i hr; simp only [hr, Oper.upon]; exact h _ _ hh.1 hh.2
      · rename_i hr; simp only [hr, Oper.upon]; exact hh.mono fun e w'' ⟨v, he, hk⟩ => by subst he; exact h _ _ hk.1 hk.2
      · exact hh.elim
  · rename_i hw
    simp only [hw] at hh
    exact h _ _ hI hh

theorem wpAny_of_M {cl : Nat → Cls} {K : Act → World → Prop} {Q : Exit → Act → World → Prop} (hQ : ∀ a w, K a w → Q .normal a w) :
    ∀ (fuel : Nat) (listed : Array Bool) (a : Act) (w : World), Inv w → wpAnyM Inv P md ops cl K fuel listed a w → wpAny P md ops Q fuel listed a w
  | 0, _, _, _, _, h => ⟨h.1, hQ _ _ h.2⟩
  | fuel + 1, listed, a, w, hI, h => ⟨fun h0 => hQ _ _ (h.1 h0), fun i hi => by
      obtain ⟨_, o, ho, _⟩ := mem_ready.1 hi
      exact wpOp_of_opG ho hI (fun a' w' hI' => wpAny_of_M hQ fuel _ a' w' hI') (h.2 i hi o ho)⟩

/-- what is listed has all that it waits for listed -/
def Down (md : Region.Mode) (ops : Array Oper) (listed : Array Bool) : Prop :=
  ∀ j oj, ops[j]? = some oj → listed.getD j false = true → ∀ e ∈ oj.after, Region.binds md e = true → listed.getD e.on false = true

theorem Down.set {listed : Array Bool} {i : Nat} (h : Down md ops listed) (hi : i ∈ Region.ready md ops listed) : Down md ops (listed.setIfInBounds i true) := by
  obtain ⟨_, oi, hoi, hall⟩ := mem_ready.1 hi
  intro j oj hj hl e he hb
  by_cases hij : i = j
  · subst hij
    rw [hoi] at hj; cases hj
    exact getD_set_true (hall e he hb)
  · rw [getD_set_ne false hij] at hl
    exact getD_set_true (h j oj hj hl e he hb)

theorem wpAnyM_first {cl : Nat → Cls} {K : Act → World → Prop} {i : Nat} {oi : Oper} (hi : ops[i]? = some oi)
    (hsel : ∀ (j : Nat) (o : Oper) cs b, ops[j]? = some o → o.op ≠ .select cs b) :
    ∀ (fuel : Nat) (listed : Array Bool) (a : Act) (w : World), Down md ops listed →
      (∀ listed' : Array Bool, Down md ops listed' → (∀ k, listed.getD k false = true → listed'.getD k false = true) → listed'.getD i false = false → ∀ j ∈ Region.ready md ops listed', ∀ oj, ops[j]? = some oj → j ≠ i → compat (cl i) (cl j) = true ∧ oi.apart ops oj = true) →
      i ∈ Region.ready md ops listed →
      opG Inv P ops (cl i) oi a w (wpAnyM Inv P md ops cl K fuel (listed.setIfInBounds i true)) → wpAnyM Inv P md ops cl K (fuel + 1) listed a w := by
  intro fuel
  induction fuel with
  | zero =>
    intro listed a w _ _ hr H
    refine ⟨fun h => (by rw [h] at hr; cases hr), fun j hj o ho => ?_⟩
    by_cases hji : j = i
    · subst hji; rw [hi] at ho; cases ho; exact H
    · have hrj := ready_mono hj hji
      have hno : opG Inv P ops (cl i) oi a w (fun _ _ => False) := opG_mono (fun a' w' h => by have := h.1; rw [this] at hrj; cases hrj) H
      unfold opG at hno
      split at hno
      · cases hcl : cl i <;> simp only [hcl, opM] at hno
        · obtain ⟨_, _, hf⟩ := hno; exact hf.elim
        · obtain ⟨_, _, hf⟩ := hno; exact hf.elim
        · obtain ⟨_, _, _, hf⟩ := op1_some hno; exact hf.elim
      · exact hno.elim
  | succ fuel ih =>
    intro listed a w hdown hfree hr H
    refine ⟨fun h => (by rw [h] at hr; cases hr), fun j hj o ho => ?_⟩
    by_cases hji : j = i
    · subst hji; rw [hi] at ho; cases ho; exact H
    · have hiun : listed.getD i false = false := getD_both (mem_ready.1 hr).1
      obtain ⟨hc, hap⟩ := hfree listed hdown (fun _ h => h) hiun j hj o ho hji
      have H' : opG Inv P ops (cl i) oi a w (fun a' w' => opG Inv P ops (cl j) o a' w' (wpAnyM Inv P md ops cl K fuel ((listed.setIfInBounds i true).setIfInBounds j true))) :=
        opG_mono (fun a' w' h => h.2 j (ready_mono hj hji) o ho) H
      have h2 := opG_swap hc hap (fun cs b => hsel i oi cs b hi) (fun cs b => hsel j o cs b ho) H'
      refine opG_mono (fun a' w' h3 => ih (listed.setIfInBounds j true) a' w' (hdown.set hj) (fun l' hd' hsub hun => hfree l' hd' (fun k hk => hsub k (getD_set_true hk)) hun) (ready_mono hr (Ne.symm hji)) ?_) h2
      rw [Array.setIfInBounds_comm _ _ hji]
      exact h3

/-! what an operation waits for, to the bottom, as a number's bits -/
def maskOf (md : Region.Mode) (acc : Nat → Nat) (es : List Edge) : Nat := es.foldl (fun s e => if Region.binds md e then s ||| 2 ^ e.on ||| acc e.on else s) 0
def masks (md : Region.Mode) : List Oper → List Nat → List Nat
  | [], acc => acc
  | o :: r, acc => masks md r (acc ++ [maskOf md (acc.getD · 0) o.after.toList])

theorem maskOf_spec {acc : Nat → Nat} {es : List Edge} {i : Nat} (h : (maskOf md acc es).testBit i = true) : ∃ e ∈ es, Region.binds md e = true ∧ (e.on = i ∨ (acc e.on).testBit i = true) := by
  have key : ∀ (es : List Edge) (s : Nat), (es.foldl (fun s e => if Region.binds md e then s ||| 2 ^ e.on ||| acc e.on else s) s).testBit i = true →
      s.testBit i = true ∨ ∃ e ∈ es, Region.binds md e = true ∧ (e.on = i ∨ (acc e.on).testBit i = true) := by
    intro es
    induction es with
    | nil => intro s h; exact .inl h
    | cons e r ih =>
      intro s h
      simp only [List.foldl_cons] at h
      rcases ih _ h with h' | ⟨e', he', hx⟩
      · split at h'
        · rename_i hb
          simp only [Nat.testBit_or, Bool.or_eq_true] at h'
          rcases h' with (h' | h') | h'
          · exact .inl h'
          · rw [Nat.testBit_two_pow] at h'
            exact .inr ⟨e, by simp, hb, .inl (by simpa using h')⟩
          · exact .inr ⟨e, by simp, hb, .inr h'⟩
        · exact .inl h'
      · exact .inr ⟨e', List.mem_cons_of_mem _ he', hx⟩
  rcases key es 0 h with h' | h'
  · simp at h'
  · exact h'

theorem masks_pre : ∀ (l : List Oper) (acc : List Nat) (j : Nat), j < acc.length → (masks md l acc).getD j 0 = acc.getD j 0
  | [], acc, j, h => rfl
  | o :: r, acc, j, h => by
    rw [masks, masks_pre r _ j (by simp; omega)]
    simp [List.getD_eq_getElem?_getD, List.getElem?_append_left h]
theorem masks_at : ∀ (l : List Oper) (acc : List Nat) (k : Nat) (o : Oper), l[k]? = some o →
    (masks md l acc).getD (acc.length + k) 0 = maskOf md (fun m => if m < acc.length + k then (masks md l acc).getD m 0 else 0) o.after.toList
  | [], acc, k, o, h => by simp at h
  | o' :: r, acc, k, o, h => by
    cases k with
    | zero =>
      simp only [List.getElem?_cons_zero, Option.some.injEq] at h
      subst h
      simp only [Nat.add_zero]
      rw [masks, masks_pre r _ acc.length (by simp)]
      have e1 : (acc ++ [maskOf md (acc.getD · 0) o'.after.toList]).getD acc.length 0 = maskOf md (acc.getD · 0) o'.after.toList := by
        simp [List.getD_eq_getElem?_getD]
      rw [e1]
      congr 1
      funext m
      by_cases hm : m < acc.length
      · rw [if_pos hm, masks_pre r _ m (by simp; omega)]
        simp [List.getD_eq_getElem?_getD, List.getElem?_append_left hm]
      · rw [if_neg hm, List.getD_eq_getElem?_getD, List.getElem?_eq_none (by omega)]; rfl
    | succ k =>
      have h' : r[k]? = some o := by simpa using h
      have := masks_at r (acc ++ [maskOf md (acc.getD · 0) o'.after.toList]) k o h'
      simp only [List.length_append, List.length_singleton] at this
      rw [masks]
      rw [show acc.length + (k + 1) = acc.length + 1 + k by omega]
      exact this

theorem listed_of_mask {listed : Array Bool} (hd : Down md ops listed) : ∀ (n j : Nat) (i : Nat), j < n → ∀ oj, ops[j]? = some oj → ((masks md ops.toList []).getD j 0).testBit i = true →
    (∀ e ∈ oj.after, Region.binds md e = true → listed.getD e.on false = true) → listed.getD i false = true := by
  intro n
  induction n with
  | zero => intro j i h; omega
  | succ n ih =>
    intro j i hj oj hoj hm hall
    have := masks_at (md := md) ops.toList [] j oj (by simpa using hoj)
    simp only [List.length_nil, Nat.zero_add] at this
    rw [this] at hm
    obtain ⟨e, he, hb, hx⟩ := maskOf_spec hm
    have hl := hall e (by simpa using he) hb
    rcases hx with rfl | hx
    · exact hl
    · split at hx
      · rename_i hlt
        have hsz : e.on < ops.size := by
          have := (Array.getElem?_eq_some_iff.1 hoj).1; omega
        exact ih e.on i (by omega) ops[e.on] (Array.getElem?_eq_getElem hsz) hx (hd e.on ops[e.on] (Array.getElem?_eq_getElem hsz) hl)
      · simp at hx

/-- The text's order. -/
def goL (Inv : World → Prop) (P : Program) (ops : Array Oper) (K : Act → World → Prop) : List (Cls × Oper) → Act → World → Prop
  | [], a, w => K a w
  | (c, o) :: rest, a, w => opG Inv P ops c o a w (goL Inv P ops K rest)

theorem goL_mono {K K' : Act → World → Prop} (h : ∀ a w, K a w → K' a w) : ∀ (l : List (Cls × Oper)) a w, goL Inv P ops K l a w → goL Inv P ops K' l a w
  | [], a, w, hh => h a w hh
  | (_, _) :: l, _, _, hh => opG_mono (fun a w => goL_mono h l a w) hh

theorem wpList_of_goL {Q : Exit → Act → World → Prop} : ∀ (l : List (Cls × Oper)) a w, Inv w → goL Inv P ops (Q .normal) l a w → wpList P ops Q (l.map (·.2)) a w
  | [], _, _, _, h => h
  | (c, o) :: l, a, w, hI, h => by
    simp only [List.map_cons, wpList]
    simp only [goL, opG] at h
    split
    · rename_i hw
      simp only [hw, if_true] at h
      left
      unfold Oper.wp
      cases c with
      | s => obtain ⟨v, hv, hk⟩ := h; simp only [hv w hI, Oper.upon]; exact wpList_of_goL l _ _ hI hk
      | r => obtain ⟨v, hv, hk⟩ := h; simp only [hv, Oper.upon]; exact wpList_of_goL l _ _ hI hk
      | w =>
        simp only [opM, op1] at h
        split at h
        · rename_i hr; simp only [hr, Oper.upon]; exact wpList_of_goL l _ _ h.1 h.2
        · rename_i hr; simp only [hr, Oper.upon]; exact wpList_of_goL l _ _ h.1 h.2
        · rename_i hr; simp only [hr, Oper.upon]; exact h.mono fun e w'' ⟨v, he, hk⟩ => by subst he; exact wpList_of_goL l _ _ hk.1 hk.2
        · exact h.elim
    · rename_i hw
      simp only [hw] at h
      exact wpList_of_goL l _ _ hI h

/-- May operation i go first, whatever is not listed? -/
def freeM (ms : List Nat) (ops : Array Oper) (cl : Nat → Cls) (listed : Array Bool) (i : Nat) : Bool :=
  match ops[i]? with
  | none => false
  | some oi => (List.range ops.size).all fun j => j == i || listed.getD j true || match ops[j]? with
      | some oj => (ms.getD j 0).testBit i || (compat (cl i) (cl j) && oi.apart ops oj)
      | none => true

def lexFromM (md : Region.Mode) (ms : List Nat) (ops : Array Oper) (cl : Nat → Cls) : Nat → Nat → Array Bool → Bool
  | 0, _, listed => (Region.ready md ops listed).isEmpty
  | fuel + 1, k, listed => (Region.ready md ops listed).contains k && freeM ms ops cl listed k && lexFromM md ms ops cl fuel (k + 1) (listed.setIfInBounds k true)
def lexM (md : Region.Mode) (ops : Array Oper) (cl : Nat → Cls) : Bool := Region.noSelect ops && lexFromM md (masks md ops.toList []) ops cl ops.size 0 (Array.replicate ops.size false)

theorem freeM_spec {cl : Nat → Cls} {i : Nat} {oi : Oper} {listed : Array Bool} (hi : ops[i]? = some oi) (h : freeM (masks md ops.toList []) ops cl listed i = true)
    (hsz : listed.size = ops.size) (listed' : Array Bool) (hd : Down md ops listed') (hsub : ∀ k, listed.getD k false = true → listed'.getD k false = true) (hun : listed'.getD i false = false)
    (j : Nat) (hj : j ∈ Region.ready md ops listed') (oj : Oper) (hoj : ops[j]? = some oj) (hne : j ≠ i) : compat (cl i) (cl j) = true ∧ oi.apart ops oj = true := by
  obtain ⟨hjun, oj', hoj', hall⟩ := mem_ready.1 hj
  rw [hoj] at hoj'; cases hoj'
  have hjlt := (Array.getElem?_eq_some_iff.1 hoj).1
  have hjl : listed.getD j true = false := by
    have h1 : listed.getD j false = false := by
      cases hx : listed.getD j false with
      | false => rfl
      | true => have := hsub j hx; rw [getD_both hjun] at this; cases this
    exact getD_in (by omega) h1
  simp only [freeM, hi, List.all_eq_true, List.mem_range] at h
  have h1 := h j hjlt
  simp only [hoj, Bool.or_eq_true, beq_iff_eq, hne, false_or, hjl, Bool.false_eq_true] at h1
  rcases h1 with h1 | h1
  · have := listed_of_mask hd (j + 1) j i (by omega) oj hoj h1 hall
    rw [hun] at this; cases this
  · simpa using h1

theorem region_plain (Inv : World → Prop) {id : Nat} {Q : Exit → Act → World → Prop} {a : Act} {w : World} {l : List (Cls × Oper)}
    (hops : ops = (l.map (·.2)).toArray) (hI : Inv w) (h : goL Inv P ops (Q .normal) l a w) : (Code.region id ops false).wp P Q a w := by
  subst hops
  exact wp_region_list (by simpa using wpList_of_goL l a w hI h)
end
end Go.EV

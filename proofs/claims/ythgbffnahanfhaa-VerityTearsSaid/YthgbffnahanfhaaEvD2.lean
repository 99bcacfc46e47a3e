/- Rules for walks: ends, calls, loops, ways that meet. -/
import Derived.Test.YthgbffnahanfhaaEvD
set_option linter.unusedVariables false
set_option linter.unusedSimpArgs false
namespace Go.EV
open Go
variable {P : Program} {a : Act} {w : World}

/-! the state as it must be, up to the numbers that blocks bear here -/
def leS2 (s : List (Nat × SV)) : List (Nat × SV) → Prop
  | [] => True
  | (t, v) :: r => (∃ v', getS s t = some v' ∧ v'.den = v.den) ∧ leS2 s r
def SameB (hp : List Blk) (i : Nat) (b : Blk) : Prop := ∃ k, getB hp i = some k ∧ k.blk = b.blk ∧ k.ty = b.ty ∧ k.ro = b.ro ∧ k.fr = b.fr ∧ k.cs.map C.den = b.cs.map C.den
def leH2 (hp : List Blk) : List Nat → List Blk → Prop
  | [], [] => True
  | i :: is, b :: l => SameB hp i b ∧ leH2 hp is l
  | _, _ => False
/-- the number is none of these -/
def nin (i : Nat) : List Nat → Bool
  | [] => true
  | j :: l => !(Nat.beq i j) && nin i l
def ndup : List Nat → Bool
  | [] => true
  | i :: l => nin i l && ndup l
theorem nin_ok {i : Nat} {l : List Nat} (h : nin i l = true) : i ∉ l := by
  induction l with
  | nil => simp
  | cons j l ih =>
    simp only [nin, Bool.and_eq_true, Bool.not_eq_true'] at h
    intro hm
    rcases List.mem_cons.1 hm with rfl | hm
    · simp at h
    · exact ih h.2 hm
theorem ndup_ok {l : List Nat} (h : ndup l = true) : l.Nodup := by
  induction l with
  | nil => simp
  | cons i l ih =>
    simp only [ndup, Bool.and_eq_true] at h
    exact List.nodup_cons.2 ⟨nin_ok h.1, ih h.2⟩

theorem leS2_spec {s l : List (Nat × SV)} (h : leS2 s l) : ∀ t v, getS l t = some v → ∃ v', getS s t = some v' ∧ v'.den = v.den := by
  induction l with
  | nil => intro t v hv; cases hv
  | cons p r ih =>
    obtain ⟨t', v'⟩ := p
    intro t v hv
    simp only [getS_cons] at hv
    split at hv
    · rename_i ht; subst ht; cases hv; exact h.1
    · exact ih h.2 t v hv

theorem leH2_mem {hp : List Blk} : ∀ {is : List Nat} {l : List Blk}, leH2 hp is l → ∀ b ∈ l, ∃ i ∈ is, SameB hp i b
  | [], [], _, b, hb => by cases hb
  | i :: is, k :: l, h, b, hb => by
    rcases List.mem_cons.1 hb with rfl | hb
    · exact ⟨i, by simp, h.1⟩
    · obtain ⟨j, hj, hs⟩ := leH2_mem h.2 b hb; exact ⟨j, List.mem_cons_of_mem _ hj, hs⟩
  | [], _ :: _, h, _, _ => h.elim
  | _ :: _, [], h, _, _ => h.elim

theorem leH2_dis {hp : List Blk} (hd : hp.Pairwise (fun x y => x.blk ≠ y.blk ∨ (x.ro = true ∧ y.ro = true))) : ∀ {is : List Nat} {l : List Blk}, leH2 hp is l → is.Nodup →
    l.Pairwise (fun x y => x.blk ≠ y.blk ∨ (x.ro = true ∧ y.ro = true))
  | [], [], _, _ => .nil
  | i :: is, k :: l, h, hn => by
    obtain ⟨hn1, hn2⟩ := List.nodup_cons.1 hn
    refine .cons (fun b hb => ?_) (leH2_dis hd h.2 hn2)
    obtain ⟨j, hj, kb, g1, g2, _, g4, _⟩ := leH2_mem h.2 b hb
    obtain ⟨kk, f1, f2, _, f4, _⟩ := h.1
    have hij : i ≠ j := fun e => hn1 (e ▸ hj)
    by_cases hro : k.ro = true ∧ b.ro = true
    · exact .inr hro
    · left
      by_cases hx : k.ro = false
      · rw [← f2, ← g2]; exact blk_ne hd f1 g1 hij (f4.trans hx)
      · have hb2 : b.ro = false := by simp only [Bool.not_eq_false] at hx; simpa [hx] using hro
        rw [← f2, ← g2]; exact fun e => blk_ne hd g1 f1 (Ne.symm hij) (g4.trans hb2) e.symm
  | [], _ :: _, h, _ => h.elim
  | _ :: _, [], h, _ => h.elim

theorem weak2 {F : Frm} {n : Nat} {s s' : St} {is : List Nat} (h1 : leS2 s'.sl s.sl) (h2 : leH2 s'.hp is s.hp) (hn : is.Nodup) (h3 : s.sz = s'.sz) : Weak F n s s' := by
  intro a w hr
  refine { slots := fun t v hv => ?_, tsz := hr.tsz, dfr := hr.dfr, hsz := by rw [h3]; exact hr.hsz, hp := fun b hb => ?_, dis := leH2_dis hr.dis h2 hn, own := fun b hb hro => ?_, le := hr.le, keep := hr.keep, os := hr.os, tape := hr.tape, output := hr.output }
  · obtain ⟨v', e1, e2⟩ := leS2_spec h1 t v hv
    rw [← e2]; exact hr.slots t v' e1
  · obtain ⟨i, _, k, e1, e2, e3, e4, e5, e6⟩ := leH2_mem h2 b hb
    rw [← e2, ← e3, ← e5, ← e6]; exact hr.hp k (getB_mem e1)
  · obtain ⟨i, _, k, e1, e2, e3, e4, e5, e6⟩ := leH2_mem h2 b hb
    rw [← e2]; exact hr.own k (getB_mem e1) (e4.trans hro)

/-! ends of functions -/
def Rt (res : List RV) (rw : List Blk) (R : SV → List (List C) → List Blk → Prop) : EK
  | .normal, st => go st
  | .ret, st => go st
  | _, _ => False
 where
  go (st : St) : Prop := match resV st res with
    | some (v', pc) => pc ∧ ∃ v ups nw iu ir, R v ups nw ∧ v'.den = v.den ∧ leH2 st.hp iu ((setCs rw ups).map rwB) ∧ leH2 st.hp ir (nw.map rwB) ∧ ndup (iu ++ ir) = true
    | none => False

theorem HpL_rwB {l : List Blk} : HpL (l.map rwB) w ↔ HpL l w := by
  induction l with
  | nil => exact Iff.rfl
  | cons b r ih => simp only [List.map_cons, HpL, ih, rwB]
theorem leH2_HpL {hp : List Blk} (h : HpOK hp w) {is : List Nat} {l : List Blk} (hh : leH2 hp is l) : HpL l w := by
  refine HpL_iff.2 fun b hb => ?_
  obtain ⟨i, _, k, e1, e2, e3, e4, e5, e6⟩ := leH2_mem hh b hb
  rw [← e2, ← e3, ← e5, ← e6]; exact h k (getB_mem e1)
theorem setCs_blk : ∀ (rw : List Blk) (u : List (List C)), (setCs rw u).map (·.blk) = rw.map (·.blk)
  | [], u => rfl
  | b :: r, [] => by simp only [setCs, List.map_cons, setCs_blk r []]
  | b :: r, c :: u => by simp only [setCs, List.map_cons, setCs_blk r u]

theorem new_of {F : Frm} {n : Nat} {st : St} (hr : Rel F n st a w) {rw : List Blk} (hF : F.mods = rw.map (·.blk)) {ups : List (List C)} {iu : List Nat} (hu : leH2 st.hp iu ((setCs rw ups).map rwB)) :
    ∀ {ir : List Nat} {nw : List Blk}, leH2 st.hp ir (nw.map rwB) → (∀ i ∈ iu, i ∉ ir) → ir.Nodup → NewL F.w0.heap.size nw
  | [], [], _, _, _ => trivial
  | i :: is, k :: l, h, hd, hn => by
    obtain ⟨hn1, hn2⟩ := List.nodup_cons.1 hn
    obtain ⟨kb, e1, e2, e3, e4, e5, e6⟩ := h.1
    have hk : kb.blk = k.blk := e2
    have hkro : kb.ro = false := e4
    refine ⟨?_, NotIn_of fun b hb => ?_, new_of hr hF hu h.2 (fun j hj hm => hd j hj (List.mem_cons_of_mem _ hm)) hn2⟩
    · rw [← hk]
      rcases hr.own kb (getB_mem e1) hkro with h' | h'
      · exact h'
      · exfalso
        rw [hF, ← setCs_blk rw ups] at h'
        obtain ⟨c, hc, he⟩ := List.mem_map.1 h'
        obtain ⟨j, hj, kc, g1, g2, _⟩ := leH2_mem hu (rwB c) (List.mem_map.2 ⟨c, hc, rfl⟩)
        have hij : i ≠ j := fun e => hd j hj (by rw [← e]; simp)
        exact blk_ne hr.dis e1 g1 hij hkro (by rw [← he, g2]; rfl)
    · obtain ⟨j, hj, kc, g1, g2, _⟩ := leH2_mem h.2 (rwB b) (List.mem_map.2 ⟨b, hb, rfl⟩)
      have hij : i ≠ j := fun e => hn1 (e ▸ hj)
      rw [← hk]
      have := blk_ne hr.dis e1 g1 hij hkro
      rw [g2] at this; exact this
  | [], _ :: _, h, _, _ => h.elim
  | _ :: _, [], h, _, _ => h.elim

theorem rel0 {fn : Func} {args : List SV} {rw ro : List Blk} (hargs : args.length = fn.params.size) (hsz1 : fn.params.size ≤ fn.ntmps) (h1 : HpL rw w) (h2 : HpL ro w) (h3 : Apart rw ro) :
    Rel ⟨w, rw.map (·.blk)⟩ fn.ntmps (st0 args rw ro w.heap.size) { tmps := (args.map SV.den).toArray ++ Array.replicate (fn.ntmps - (args.map SV.den).toArray.size) undef, defers := [] } w := by
  have hrw := HpL_iff.1 h1
  have hro := HpL_iff.1 h2
  refine { slots := ?_, tsz := ?_, dfr := rfl, hsz := rfl, hp := ?_, dis := ?_, own := ?_, le := Nat.le_refl _, keep := fun _ _ _ => rfl, os := rfl, tape := rfl, output := rfl }
  · intro t v hv
    obtain ⟨_, h5⟩ := initSl_get args 0 t v hv
    simp only [Nat.sub_zero] at h5
    have hlt := (List.getElem?_eq_some_iff.1 h5).1
    have hval : v = args[t] := (by rw [List.getElem?_eq_getElem hlt] at h5; exact (Option.some.inj h5).symm)
    subst hval
    simp [Array.getElem?_append, hlt]
  · simp; omega
  · intro b hb
    simp only [st0, List.mem_append, List.mem_map] at hb
    rcases hb with ⟨k, hk, rfl⟩ | ⟨k, hk, rfl⟩
    · exact hrw k hk
    · exact hro k hk
  · simp only [st0]
    rw [List.pairwise_append]
    refine ⟨?_, ?_, ?_⟩
    · clear h1 hrw
      induction rw with
      | nil => simp
      | cons k r ih =>
        simp only [List.map_cons, List.pairwise_cons]
        refine ⟨fun b hb => ?_, ih h3.2.2⟩
        simp only [List.mem_map] at hb
        obtain ⟨k', hk', rfl⟩ := hb
        exact .inl (NotIn_spec h3.1 k' hk')
    · rw [List.pairwise_map]
      exact List.pairwise_of_forall (fun _ _ => .inr ⟨rfl, rfl⟩)
    · clear h1 hrw
      induction rw with
      | nil => simp
      | cons k r ih =>
        intro b hb b' hb'
        simp only [List.map_cons, List.mem_cons] at hb
        rcases hb with rfl | hb
        · simp only [List.mem_map] at hb'
          obtain ⟨k', hk', rfl⟩ := hb'
          exact .inl (NotIn_spec h3.2.1 k' hk')
        · exact ih h3.2.2 b hb b' hb'
  · intro b hb hr
    simp only [st0, List.mem_append, List.mem_map] at hb
    rcases hb with ⟨k, hk, rfl⟩ | ⟨k, hk, rfl⟩
    · right; exact List.mem_map.2 ⟨k, hk, rfl⟩
    · cases hr

/-- FROM THE BODY TO THE CONTRACT -/
theorem d_fn {f : Nat} {fn : Func} {i : IFn} {args : List SV} {rw ro : List Blk} {R : SV → List (List C) → List Blk → Prop} {sl0 : List (Nat × SV)} {hp0 : List Blk}
    (hf : P.funcs[f]? = some fn) (hl : lowF P fn = some i.strip) (hm : P.follows .mixedOrders = true) (hargs : args.length = fn.params.size)
    (hs0 : initSl 0 args = sl0) (hh0 : rw.map rwB ++ ro.map roB = hp0)
    (h : ∀ (F : Frm) (z : Nat), wpC P F i.n i.code (Rt i.res rw R) ⟨sl0, hp0, 100, z⟩) :
    Fn P f args rw ro R := by
  subst hs0 hh0
  have key : Fn P f args rw ro fun v u nw => True → R v u nw := by
    intro w h1 h2 h3
    unfold lowF at hl
    split at hl
    · cases hl
    · rename_i c hb
      split at hl <;> try (cases hl; done)
      rename_i ic r hc hr
      split at hl <;> simp only [Option.some.injEq, reduceCtorEq] at hl
      rename_i hsz
      obtain ⟨n, code, res⟩ := i
      simp only [IFn.strip, IFn.mk.injEq] at hl
      obtain ⟨rfl, rfl, rfl⟩ := hl
      have hcall : (callFunc f (args.map SV.den).toArray).run P w = .ok (.enter f (args.map SV.den).toArray) w := by
        unfold callFunc
        simp [program, Sem.run_bind, hf, hsz.2, hb, Sem.run, pure, Result.andThen]
      unfold callF
      rw [hcall]
      refine calls_of_wp hf hb ?_
      have hrel : Rel ⟨w, rw.map (·.blk)⟩ fn.ntmps (st0 args rw ro w.heap.size) { tmps := (args.map SV.den).toArray ++ Array.replicate (fn.ntmps - (args.map SV.den).toArray.size) undef, defers := [] } w :=
        rel0 hargs hsz.1 h1 h2 h3
      have hwp := wpC_sound hm 1000 c _ _ _ _ _ hc hrel (h ⟨w, rw.map (·.blk)⟩ w.heap.size)
      refine wp_mono hwp fun e a' w' ⟨st, hq, hrel'⟩ => ?_
      have fin : Rt.go r rw R st → a'.defers = [] ∧ ∃ v, (results fn a'.tmps).run P w' = .ok v w' ∧
          ∃ v_1, Ending.returned v = .returned v_1 ∧ ∃ v ups nw, (True → R v ups nw) ∧ v_1 = v.den ∧ HpL (setCs rw ups) w' ∧ HpL nw w' ∧ NewL w.heap.size nw ∧ Fr (rw.map (·.blk)) w w' := by
        intro hq
        simp only [Rt.go] at hq
        split at hq
        · rename_i v' pc hres
          obtain ⟨hp, v, ups, nw, iu, ir, hR, hv, h6, h7, h8⟩ := hq
          have hnd := List.nodup_append.1 (ndup_ok h8)
          refine ⟨hrel'.dfr, v'.den, results_sound (fn := fn) hrel' hr hres hp, _, rfl, v, ups, nw, fun _ => hR, hv, HpL_rwB.1 (leH2_HpL hrel'.hp h6), HpL_rwB.1 (leH2_HpL hrel'.hp h7), ?_, ?_⟩
          · exact new_of hrel' rfl h6 h7 (fun i hi hm => hnd.2.2 i hi i hm rfl) hnd.2.1
          · exact ⟨hrel'.le, hrel'.keep, hrel'.os, hrel'.tape, hrel'.output⟩
        · exact hq.elim
      cases e with
      | normal => exact fin hq
      | ret => exact fin hq
      | _ => exact hq.elim
  exact key.mono fun v u n hR => hR trivial
end Go.EV

/- Lemmas on what lowered instructions do, part EvCall. No condition but those that a theorem names. -/
import Derived.Test.YthgbffnahanfhaaEvFn
set_option linter.unusedVariables false
set_option linter.unusedSimpArgs false
namespace Go.EV
open Go
variable {P : Program} {a : Act} {w : World}

theorem getB_setB_ne {hp : List Blk} {i j : Nat} {cs : List C} (h : i ≠ j) : getB (setB hp i cs) j = getB hp j := by
  induction hp with
  | nil => rfl
  | cons x r ih =>
    simp only [setB]
    split
    · rename_i hx
      simp only [getB_cons, hx, h, if_false]
    · simp only [getB_cons, ih]

theorem setAll_pair {R : Blk → Blk → Prop} (hR : ∀ x y c, R x y → R { x with cs := c } y ∧ R x { y with cs := c }) : ∀ (rw : List Blk) (ups : List (List C)) (hp : List Blk),
    hp.Pairwise R → (setAll hp rw ups).Pairwise R
  | [], ups, hp, h => h
  | _ :: _, [], hp, h => h
  | k :: r, c :: cs, hp, h => setAll_pair hR r cs _ (setB_pair hR h)

theorem setAll_mem : ∀ (rw : List Blk) (ups : List (List C)) (hp : List Blk) (b : Blk), b ∈ setAll hp rw ups → ∃ k ∈ hp, b.blk = k.blk ∧ b.ro = k.ro
  | [], ups, hp, b, h => ⟨b, h, rfl, rfl⟩
  | _ :: _, [], hp, b, h => ⟨b, h, rfl, rfl⟩
  | k :: r, c :: cs, hp, b, h => by
    obtain ⟨k', hk', h1, h2⟩ := setAll_mem r cs _ b h
    rcases setB_mem hk' with ⟨k2, h3, rfl⟩ | h3
    · exact ⟨k2, getB_mem h3, h1, h2⟩
    · exact ⟨k', h3, h1, h2⟩

theorem NoId_spec {i : Nat} {l : List Blk} (h : NoId i l) : ∀ b ∈ l, b.id ≠ i := by
  induction l with
  | nil => simp
  | cons x r ih => intro b hb; rcases List.mem_cons.1 hb with rfl | hb; exact h.1; exact ih h.2 b hb

theorem HaveRw_setB {hp r : List Blk} {i : Nat} {cs : List C} (h : HaveRw hp r) (hn : NoId i r) : HaveRw (setB hp i cs) r := by
  induction r with
  | nil => trivial
  | cons k r ih =>
    obtain ⟨⟨b, h1, h2⟩, h3⟩ := h
    exact ⟨⟨b, by rw [getB_setB_ne (Ne.symm hn.1)]; exact h1, h2⟩, ih h3 hn.2⟩

/-- the entry that is not shared is the one of its number -/
theorem eq_of_blk {hp : List Blk} {b c : Blk} (hd : hp.Pairwise (fun x y => x.blk ≠ y.blk ∨ (x.ro = true ∧ y.ro = true))) (hb : b ∈ hp) (hc : c ∈ hp) (hro : c.ro = false) (h : b.blk = c.blk) : b = c := by
  induction hp with
  | nil => cases hb
  | cons x r ih =>
    simp only [List.pairwise_cons] at hd
    simp only [List.mem_cons] at hb hc
    rcases hb with rfl | hb
    · rcases hc with rfl | hc
      · rfl
      · rcases hd.1 c hc with h' | h'
        · exact absurd h h'
        · rw [hro] at h'; exact absurd h'.2 (by simp)
    · rcases hc with rfl | hc
      · rcases hd.1 b hb with h' | h'
        · exact absurd h.symm h'
        · rw [hro] at h'; exact absurd h'.1 (by simp)
      · exact ih hd.2 hb hc

theorem setAll_spec : ∀ (rw : List Blk) (ups : List (List C)) (hp ro : List Blk), hp.Pairwise (fun x y => x.blk ≠ y.blk ∨ (x.ro = true ∧ y.ro = true)) → HaveRw hp rw → OwnIds rw ro →
    ∀ b ∈ setAll hp rw ups, (∃ k ∈ setCs rw ups, b.blk = k.blk ∧ b.ty = k.ty ∧ b.fr = k.fr ∧ b.cs = k.cs) ∨ (b ∈ hp ∧ ∀ k ∈ rw, b.blk ≠ k.blk)
  | [], ups, hp, ro, hd, hh, ho, b, hb => .inr ⟨hb, by simp⟩
  | k :: r, [], hp, ro, hd, hh, ho, b, hb => by
    have hb : b ∈ hp := hb
    by_cases hk : ∃ k' ∈ k :: r, b.blk = k'.blk
    · obtain ⟨k', hk', he⟩ := hk
      have : ∀ (l : List Blk), HaveRw hp l → k' ∈ l → ∃ b', getB hp k'.id = some b' ∧ b'.ro = false ∧ b'.blk = k'.blk ∧ b'.ty = k'.ty ∧ b'.fr = k'.fr ∧ b'.cs = k'.cs := by
        intro l
        induction l with
        | nil => intro _ h; cases h
        | cons x l ih =>
          intro hl hm
          rcases List.mem_cons.1 hm with rfl | hm
          · exact hl.1
          · exact ih hl.2 hm
      obtain ⟨b', h1, h2, h3, h4, h5, h6⟩ := this _ hh hk'
      have := eq_of_blk hd hb (getB_mem h1) h2 (he.trans h3.symm)
      subst this
      have hs : ∀ l : List Blk, setCs l [] = l := by
        intro l; induction l with
        | nil => rfl
        | cons x l ih => simp [setCs, ih]
      exact .inl ⟨k', by rw [hs]; exact hk', he, h4, h5, h6⟩
    · exact .inr ⟨hb, fun k' hk' he => hk ⟨k', hk', he⟩⟩
  | k :: r, c :: cs, hp, ro, hd, hh, ho, b, hb => by
    obtain ⟨⟨b0, h1, h2, h3, h4, h5, h6⟩, hh'⟩ := hh
    have hd' := setB_pair (id := k.id) (cs := c) (fun x y c (hr : x.blk ≠ y.blk ∨ (x.ro = true ∧ y.ro = true)) => ⟨hr, hr⟩) hd
    rcases setAll_spec r cs _ ro hd' (HaveRw_setB hh' ho.1) ho.2.2 b hb with ⟨k', hk', hx⟩ | ⟨hb', hx⟩
    · exact .inl ⟨k', by simp [setCs, hk'], hx⟩
    · rcases setB_other h1 hd h2 hb' with rfl | ⟨h7, h8⟩
      · exact .inl ⟨{ k with cs := c }, by simp [setCs], h3, h4, h5, rfl⟩
      · refine .inr ⟨h7, fun k' hk' => ?_⟩
        rcases List.mem_cons.1 hk' with rfl | hk'
        · rw [← h3]; exact h8
        · exact hx k' hk'

theorem NewL_spec {N : Nat} {l : List Blk} (h : NewL N l) : (∀ b ∈ l, N ≤ b.blk) ∧ l.Pairwise (fun x y => x.blk ≠ y.blk) := by
  induction l with
  | nil => simp
  | cons x r ih =>
    obtain ⟨h1, h2, h3⟩ := h
    obtain ⟨i1, i2⟩ := ih h3
    refine ⟨fun b hb => ?_, .cons (fun b hb => NotIn_spec h2 b hb) i2⟩
    rcases List.mem_cons.1 hb with rfl | hb
    · exact h1
    · exact i1 b hb

theorem NotIn_of {n : Nat} {l : List Blk} (h : ∀ b ∈ l, n ≠ b.blk) : NotIn n l := by
  induction l with
  | nil => trivial
  | cons x r ih => exact ⟨h x (by simp), ih fun b hb => h b (List.mem_cons_of_mem _ hb)⟩

/-- THE CALL, BY THE CONTRACT -/
theorem callG {F : Frm} {n f : Nat} {args args0 : List SV} {st : St} {rw ro : List Blk} {R : SV → List (List C) → List Blk → Prop} {K : SV → St → Prop}
    (C : Fn P f args0 rw ro R) (hargs : args.map SV.den = args0.map SV.den) (hrw : HaveRw st.hp rw) (hro : HaveRo st.hp ro) (hown : OwnIds rw ro)
    (hK : ∀ v ups nw sz', R v ups nw → st.sz ≤ sz' → K v { st with hp := nw.map rwB ++ setAll st.hp rw ups, sz := sz' }) : CallG P F n f args st K := by
  intro a w hr
  have hRw : ∀ k ∈ rw, ∃ b, getB st.hp k.id = some b ∧ b.ro = false ∧ b.blk = k.blk ∧ b.ty = k.ty ∧ b.fr = k.fr ∧ b.cs = k.cs := by
    clear hK hown C
    induction rw with
    | nil => simp
    | cons x l ih => intro k hk; rcases List.mem_cons.1 hk with rfl | hk; exact hrw.1; exact ih hrw.2 k hk
  have hRo : ∀ k ∈ ro, ∃ b, getB st.hp k.id = some b ∧ b.blk = k.blk ∧ b.ty = k.ty ∧ b.fr = k.fr ∧ b.cs = k.cs := by
    clear hK hown C
    induction ro with
    | nil => simp
    | cons x l ih => intro k hk; rcases List.mem_cons.1 hk with rfl | hk; exact hro.1; exact ih hro.2 k hk
  have h1 : HpL rw w := HpL_iff.2 fun k hk => by
    obtain ⟨b, g, _, g1, g2, g3, g4⟩ := hRw k hk
    rw [← g1, ← g2, ← g3, ← g4]; exact hr.hp b (getB_mem g)
  have h2 : HpL ro w := HpL_iff.2 fun k hk => by
    obtain ⟨b, g, g1, g2, g3, g4⟩ := hRo k hk
    rw [← g1, ← g2, ← g3, ← g4]; exact hr.hp b (getB_mem g)
  have h3 : Apart rw ro := by
    clear hK C h1 hrw
    induction rw with
    | nil => trivial
    | cons k l ih =>
      obtain ⟨b, g, g0, g1, _⟩ := hRw k (by simp)
      refine ⟨NotIn_of fun k' hk' => ?_, NotIn_of fun k' hk' => ?_, ih hown.2.2 (fun k' hk' => hRw k' (List.mem_cons_of_mem _ hk'))⟩
      · obtain ⟨b', g', _, g1', _⟩ := hRw k' (List.mem_cons_of_mem _ hk')
        rw [← g1, ← g1']
        exact blk_ne hr.dis g g' (Ne.symm (NoId_spec hown.1 k' hk')) g0
      · obtain ⟨b', g', g1', _⟩ := hRo k' hk'
        rw [← g1, ← g1']
        exact blk_ne hr.dis g g' (Ne.symm (NoId_spec hown.2.1 k' hk')) g0
  rw [hargs]
  refine callF_mono (fun v' w' ⟨v, ups, nw, hR, hv, hup, hnw, hnew, hfr⟩ => ?_) (C w h1 h2 h3)
  refine ⟨v, _, hK v ups nw w'.heap.size hR (by rw [← hr.hsz]; exact hfr.size), hv, ?_⟩
  obtain ⟨hn1, hn2⟩ := NewL_spec hnew
  have hlt : ∀ b ∈ st.hp, b.blk < w.heap.size := fun b hb => (Array.getElem?_eq_some_iff.1 (hr.hp b hb)).1
  have hup' := HpL_iff.1 hup
  have hnw' := HpL_iff.1 hnw
  refine { slots := hr.slots, tsz := hr.tsz, dfr := hr.dfr, hsz := rfl, hp := ?_, dis := ?_, own := ?_, le := Nat.le_trans hr.le hfr.size, keep := ?_, os := hfr.os.trans hr.os, tape := hfr.tape.trans hr.tape, output := hfr.output.trans hr.output }
  · intro b hb
    simp only [List.mem_append, List.mem_map] at hb
    rcases hb with ⟨k, hk, rfl⟩ | hb
    · exact hnw' k hk
    · rcases setAll_spec rw ups st.hp ro hr.dis hrw hown b hb with ⟨k, hk, e1, e2, e3, e4⟩ | ⟨hb, hne⟩
      · rw [e1, e2, e3, e4]; exact hup' k hk
      · rw [hfr.keep b.blk (hlt b hb) ?_]
        · exact hr.hp b hb
        · intro hm
          obtain ⟨k, hk, he⟩ := List.mem_map.1 hm
          exact hne k hk he.symm
  · simp only
    rw [List.pairwise_append]
    refine ⟨?_, setAll_pair (fun x y c hx => ⟨hx, hx⟩) rw ups st.hp hr.dis, ?_⟩
    · rw [List.pairwise_map]; exact hn2.imp fun h => .inl h
    · intro b hb b' hb'
      obtain ⟨k, hk, rfl⟩ := List.mem_map.1 hb
      obtain ⟨k', hk', e1, _⟩ := setAll_mem rw ups st.hp b' hb'
      left
      have := hn1 k hk
      have := hlt k' hk'
      show k.blk ≠ b'.blk
      omega
  · intro b hb hro'
    simp only [List.mem_append, List.mem_map] at hb
    rcases hb with ⟨k, hk, rfl⟩ | hb
    · left; exact Nat.le_trans hr.le (hn1 k hk)
    · obtain ⟨k', hk', e1, e2⟩ := setAll_mem rw ups st.hp b hb
      rw [e1]; exact hr.own k' hk' (by rw [← e2]; exact hro')
  · intro b hb hm
    rw [hfr.keep b (Nat.lt_of_lt_of_le hb hr.le) ?_]
    · exact hr.keep b hb hm
    · intro hx
      obtain ⟨k, hk, rfl⟩ := List.mem_map.1 hx
      obtain ⟨b', g, g0, g1, _⟩ := hRw k hk
      rcases hr.own b' (getB_mem g) g0 with h | h
      · omega
      · rw [g1] at h; exact hm h

/-! ### weakening, loops -/

theorem Weak.refl {F : Frm} {n : Nat} {s : St} : Weak F n s s := fun _ _ h => h

theorem wpC_mono {F : Frm} {n : Nat} : ∀ (c : IC) (Q Q' : EK) (s : St), (∀ e s, Q e s → Q' e s) → wpC P F n c Q s → wpC P F n c Q' s := by
  intro c
  have hS : ∀ (pv : List Blk) (i : I) (st : St) (K K' : St → Prop), (∀ s, K s → K' s) → wpS P F n pv i st K → wpS P F n pv i st K' := by
    intro pv i st K K' h hh
    cases i <;> simp only [wpS] at hh ⊢
    · split at hh
      · exact ⟨hh.1, h _ hh.2⟩
      · exact hh
    · split at hh
      · exact ⟨hh.1, h _ hh.2⟩
      · exact hh
    · split at hh
      · exact ⟨hh.1, h _ hh.2⟩
      · exact hh
    · split at hh
      · exact ⟨hh.1, hh.2.1, h _ hh.2.2⟩
      · exact hh
    · split at hh
      · exact fun a w hr => callF_mono (fun v' w' ⟨v, st', hk, hx⟩ => ⟨v, st', ⟨hk.1, h _ hk.2⟩, hx⟩) (hh a w hr)
      · exact hh
    · split at hh
      · exact fun ts type a w hT hr => by obtain ⟨v, st', w', h1, hk, h2⟩ := hh ts type a w hT hr; exact ⟨v, st', w', h1, ⟨hk.1, h _ hk.2⟩, h2⟩
      · exact hh
  have hI : ∀ (pv : List Blk) (t : GT) (Q Q' : St → Prop) (s : St), (∀ s, Q s → Q' s) → wpI P F n pv Q t s → wpI P F n pv Q' t s := by
    intro pv t
    induction t with
    | nil => intro Q Q' s h hh; exact h s hh
    | alt x y ihx ihy => intro Q Q' s h hh; exact ⟨ihx _ _ _ h hh.1, ihy _ _ _ h hh.2⟩
    | cons g r ih =>
      intro Q Q' s h hh
      obtain ⟨gd, i⟩ := g
      cases gd with
      | none => exact hS pv i s _ _ (fun s => ih _ _ s h) hh
      | some tb =>
        obtain ⟨t, b⟩ := tb
        simp only [wpI, wpG] at hh ⊢
        split at hh
        · exact ⟨fun hb => hS pv i _ _ _ (fun s => ih _ _ s h) (hh.1 hb), fun hb => ih _ _ _ h (hh.2 hb)⟩
        · exact ih _ _ _ h hh
        · exact hh
  induction c with
  | skip => intro Q Q' s h hh; exact h _ _ hh
  | reg pl l => intro Q Q' s h hh; exact hI _ l _ _ _ (h _) hh
  | seq x y ihx ihy =>
    intro Q Q' s h hh
    refine ihx _ _ _ (fun e s hq => ?_) hh
    cases e with
    | normal => exact ihy _ _ _ h hq
    | _ => exact h _ _ hq
  | seqJ x y ihx ihy =>
    intro Q Q' s h ⟨σ, J, p, h1, h2⟩
    refine ⟨σ, J, p, ihx _ _ _ (fun e s hq => ?_) h1, fun z hz => ihy _ _ _ h (h2 z hz)⟩
    cases e with
    | normal => exact hq
    | _ => exact h _ _ hq
  | cond c t e iht ihe =>
    intro Q Q' s h hh
    simp only [wpC] at hh ⊢
    split at hh
    · exact ⟨fun hb => iht _ _ _ h (hh.1 hb), fun hb => ihe _ _ _ h (hh.2 hb)⟩
    · exact hh
  | block id c ih =>
    intro Q Q' s h hh
    refine ih _ _ _ (fun e s hq => ?_) hh
    cases e with
    | exit id' => simp only [BlockK] at hq ⊢; split <;> rename_i hid <;> simp only [hid, if_true, if_false] at hq <;> exact h _ _ hq
    | _ => exact h _ _ hq
  | loop c ih =>
    intro Q Q' s h ⟨I, h0, hs⟩
    refine ⟨I, h0, fun N s hI => ih _ _ _ (fun e s hq => ?_) (hs N s hI)⟩
    cases e with
    | normal => exact hq
    | _ => exact h _ _ hq
  | exit id => intro Q Q' s h hh; exact h _ _ hh
  | ret => intro Q Q' s h hh; exact h _ _ hh
  | lab l => intro Q Q' s h hh; exact h _ _ hh
  | goto l => intro Q Q' s h hh; exact h _ _ hh
  | scope l c r ihc ihr =>
    intro Q Q' s h ⟨J, N, h1, h2⟩
    refine ⟨J, N, ihc _ _ _ (fun e s hq => ?_) h1, fun M s hJ => ihr _ _ _ (fun e s hq => ?_) (h2 M s hJ)⟩
    · cases e with
      | goto l' => exact hq
      | _ => exact h _ _ hq
    · cases e with
      | goto l' => exact hq
      | _ => exact h _ _ hq

end Go.EV

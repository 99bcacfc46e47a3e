/- A call that takes a block over: its rule. -/
import Derived.Test.YthgbffnahanfhaaEvX
set_option linter.unusedVariables false
set_option linter.unusedSimpArgs false
namespace Go.EV
open Go
theorem getB_delF {hp hp1 : List Blk} {i j : Nat} (h : delF hp i = some hp1) (hne : j ≠ i) : getB hp1 j = getB hp j := by
  induction hp generalizing hp1 with
  | nil => cases h
  | cons x l ih =>
    obtain ⟨a, b, t, r, f, d, c⟩ := x
    simp only [delF] at h
    by_cases hi : a = i
    · subst hi
      simp only [Nat.beq_refl, cond_true, Option.some.injEq] at h
      subst h
      simp only [getB_cons]; rw [if_neg (fun e => hne e.symm)]
    · have hb : Nat.beq a i = false := by cases hb : Nat.beq a i with | false => rfl | true => exact absurd (Nat.eq_of_beq_eq_true hb) hi
      simp only [hb, cond_false] at h
      split at h
      · rename_i l' hl; cases h
        simp only [getB_cons, ih hl]
      · cases h
theorem haveRw_del {hp hp1 : List Blk} {i : Nat} (h : delF hp i = some hp1) : ∀ {rw : List Blk}, HaveRw hp rw → NoId i rw → HaveRw hp1 rw
  | [], _, _ => trivial
  | k :: r, ⟨⟨b, h1, h2⟩, h3⟩, hn => ⟨⟨b, by rw [getB_delF h hn.1]; exact h1, h2⟩, haveRw_del h h3 hn.2⟩
theorem newC_spec {N : Nat} {cb : List Nat} {l : List Blk} (h : NewC N cb l) : (∀ b ∈ l, N ≤ b.blk ∨ b.blk ∈ cb) ∧ l.Pairwise (fun x y => x.blk ≠ y.blk) := by
  induction l with
  | nil => simp
  | cons x r ih =>
    obtain ⟨h1, h2, h3⟩ := h
    obtain ⟨i1, i2⟩ := ih h3
    refine ⟨fun b hb => ?_, .cons (fun b hb => NotIn_spec h2 b hb) i2⟩
    rcases List.mem_cons.1 hb with rfl | hb
    · exact h1
    · exact i1 b hb
theorem callGC {P : Program} {F : Frm} {n f : Nat} {args args0 : List SV} {st : St} {ck : Blk} {rw ro hp1 : List Blk} {R : SV → List (List C) → List Blk → Prop} {K : SV → St → Prop}
    (C : FnC P f args0 [ck] rw ro R) (hargs : args.map SV.den = args0.map SV.den) (hrw : HaveRw st.hp (ck :: rw)) (hro : HaveRo st.hp ro) (hown : OwnIds (ck :: rw) ro) (hdel : delF st.hp ck.id = some hp1)
    (hK : ∀ v ups nw sz', R v ups nw → K v { st with hp := nw.map rwB ++ setAll hp1 rw ups, sz := sz' }) : CallG P F n f args st K := by
  intro a w hr
  have hRw : ∀ k ∈ ck :: rw, ∃ b, getB st.hp k.id = some b ∧ b.ro = false ∧ b.blk = k.blk ∧ b.ty = k.ty ∧ b.fr = k.fr ∧ b.cs = k.cs := by
    have : ∀ l : List Blk, HaveRw st.hp l → ∀ k ∈ l, ∃ b, getB st.hp k.id = some b ∧ b.ro = false ∧ b.blk = k.blk ∧ b.ty = k.ty ∧ b.fr = k.fr ∧ b.cs = k.cs := by
      intro l
      induction l with
      | nil => simp
      | cons x l ih => intro h k hk; rcases List.mem_cons.1 hk with rfl | hk; exact h.1; exact ih h.2 k hk
    exact this _ hrw
  have hRo : ∀ k ∈ ro, ∃ b, getB st.hp k.id = some b ∧ b.blk = k.blk ∧ b.ty = k.ty ∧ b.fr = k.fr ∧ b.cs = k.cs := by
    clear hK hown C
    induction ro with
    | nil => simp
    | cons x l ih => intro k hk; rcases List.mem_cons.1 hk with rfl | hk; exact hro.1; exact ih hro.2 k hk
  have h1 : HpL (ck :: rw) w := HpL_iff.2 fun k hk => by
    obtain ⟨b, g, _, g1, g2, g3, g4⟩ := hRw k hk
    rw [← g1, ← g2, ← g3, ← g4]; exact hr.hp b (getB_mem g)
  have h2 : HpL ro w := HpL_iff.2 fun k hk => by
    obtain ⟨b, g, g1, g2, g3, g4⟩ := hRo k hk
    rw [← g1, ← g2, ← g3, ← g4]; exact hr.hp b (getB_mem g)
  have h3 : Apart (ck :: rw) ro := by
    have : ∀ l : List Blk, (∀ k ∈ l, ∃ b, getB st.hp k.id = some b ∧ b.ro = false ∧ b.blk = k.blk ∧ b.ty = k.ty ∧ b.fr = k.fr ∧ b.cs = k.cs) → OwnIds l ro → Apart l ro := by
      intro l
      induction l with
      | nil => intro _ _; trivial
      | cons k l ih =>
        intro hRw hown
        obtain ⟨b, g, g0, g1, _⟩ := hRw k (by simp)
        refine ⟨NotIn_of fun k' hk' => ?_, NotIn_of fun k' hk' => ?_, ih (fun k' hk' => hRw k' (List.mem_cons_of_mem _ hk')) hown.2.2⟩
        · obtain ⟨b', g', _, g1', _⟩ := hRw k' (List.mem_cons_of_mem _ hk')
          rw [← g1, ← g1']
          exact blk_ne hr.dis g g' (Ne.symm (NoId_spec hown.1 k' hk')) g0
        · obtain ⟨b', g', g1', _⟩ := hRo k' hk'
          rw [← g1, ← g1']
          exact blk_ne hr.dis g g' (Ne.symm (NoId_spec hown.2.1 k' hk')) g0
    exact this _ hRw hown
  obtain ⟨cb, c1, c2, c3, c4, c5, c6⟩ := hRw ck (by simp)
  obtain ⟨d1, d2, d3⟩ := delF_spec (fun x y h => h.imp (fun e => Ne.symm e) (fun e => ⟨e.2, e.1⟩)) hdel c1 hr.dis
  have hrw1 := haveRw_del hdel hrw.2 hown.1
  rw [hargs]
  refine callF_mono (fun v' w' ⟨v, ups, nw, hR, hv, hup, hnw, hnew, hnr, hfr⟩ => ?_) (C w h1 h2 h3)
  refine ⟨v, _, hK v ups nw w'.heap.size hR, hv, ?_⟩
  obtain ⟨hn1, hn2⟩ := newC_spec hnew
  have hlt : ∀ b ∈ hp1, b.blk < w.heap.size := fun b hb => (Array.getElem?_eq_some_iff.1 (hr.hp b (d1 b hb))).1
  have hne : ∀ b ∈ hp1, b.blk ≠ ck.blk := fun b hb => by
    rcases d3 b hb with h | h
    · rw [← c3]; exact Ne.symm h
    · rw [c2] at h; exact absurd h.1 (by simp)
  have hup' := HpL_iff.1 hup
  have hnw' := HpL_iff.1 hnw
  have hNw : ∀ k ∈ nw, w.heap.size ≤ k.blk ∨ k.blk = ck.blk := fun k hk => by simpa using hn1 k hk
  refine { slots := hr.slots, tsz := hr.tsz, dfr := hr.dfr, hsz := rfl, hp := ?_, dis := ?_, own := ?_, le := Nat.le_trans hr.le hfr.size, keep := ?_, os := hfr.os.trans hr.os, tape := hfr.tape.trans hr.tape, output := hfr.output.trans hr.output }
  · intro b hb
    simp only [List.mem_append, List.mem_map] at hb
    rcases hb with ⟨k, hk, rfl⟩ | hb
    · exact hnw' k hk
    · rcases setAll_spec rw ups hp1 ro d2 hrw1 hown.2.2 b hb with ⟨k, hk, e1, e2, e3, e4⟩ | ⟨hb, hnb⟩
      · rw [e1, e2, e3, e4]; exact hup' k hk
      · rw [hfr.keep b.blk (hlt b hb) ?_]
        · exact hr.hp b (d1 b hb)
        · intro hm
          obtain ⟨k, hk, he⟩ := List.mem_map.1 hm
          rcases List.mem_cons.1 hk with rfl | hk
          · exact hne b hb he.symm
          · exact hnb k hk he.symm
  · simp only
    rw [List.pairwise_append]
    refine ⟨?_, setAll_pair (fun x y c hx => ⟨hx, hx⟩) rw ups hp1 d2, ?_⟩
    · rw [List.pairwise_map]; exact hn2.imp fun h => .inl h
    · intro b hb b' hb'
      obtain ⟨k, hk, rfl⟩ := List.mem_map.1 hb
      obtain ⟨k', hk', e1, _⟩ := setAll_mem rw ups hp1 b' hb'
      left
      have := hlt k' hk'
      show k.blk ≠ b'.blk
      rcases hNw k hk with h | h
      · omega
      · rw [h, e1]; exact Ne.symm (hne k' hk')
  · intro b hb hro'
    simp only [List.mem_append, List.mem_map] at hb
    rcases hb with ⟨k, hk, rfl⟩ | hb
    · rcases hNw k hk with h | h
      · left; exact Nat.le_trans hr.le h
      · have := hr.own cb (getB_mem c1) c2
        rw [c3, ← h] at this; exact this
    · obtain ⟨k', hk', e1, e2⟩ := setAll_mem rw ups hp1 b hb
      rw [e1]; exact hr.own k' (d1 k' hk') (by rw [← e2]; exact hro')
  · intro b hb hm
    rw [hfr.keep b (Nat.lt_of_lt_of_le hb hr.le) ?_]
    · exact hr.keep b hb hm
    · intro hx
      obtain ⟨k, hk, rfl⟩ := List.mem_map.1 hx
      obtain ⟨b', g, g0, g1, _⟩ := hRw k hk
      rcases hr.own b' (getB_mem g) g0 with h | h
      · omega
      · rw [g1] at h; exact hm h
section
variable {P : Program} {F : Frm} {n : Nat} {pv : List Blk} {Q : St → Prop} {t : GT} {sl : List (Nat × SV)} {hp hp1 : List Blk} {nx sz : Nat} {d : Nat}
theorem d_callC {f : Nat} {args : List A} {vs args0 : List SV} {ck : Blk} {rw ro : List Blk} {R : SV → List (List C) → List Blk → Prop} (hC : FnC P f args0 [ck] rw ro R) (hA : evArgs sl args = some vs) (hv : vs.map SV.den = args0.map SV.den)
    (hrw : HaveRw hp (ck :: rw)) (hro : HaveRo hp ro) (hown : OwnIds (ck :: rw) ro) (hdel : delF hp ck.id = some hp1)
    (hK : ∀ v ups nw z, R v ups nw → ∃ hp', callHp nw hp1 rw ups = some hp' ∧ Pin pv hp' ∧ wpI P F n pv Q t ⟨(d, v) :: sl, hp', nx, z⟩) :
    wpI P F n pv Q (.cons ⟨none, .call (some d) f args⟩ t) ⟨sl, hp, nx, sz⟩ := by
  simp only [wpI, wpG, wpS, hA]
  refine callGC hC hv hrw hro hown hdel fun v ups nw sz' hR => ?_
  obtain ⟨hp', h1, h2, h3⟩ := hK v ups nw sz' hR
  simp only [callHp_ok h1]
  exact ⟨h2, h3⟩
end
end Go.EV
namespace Go.EV
open Go
theorem d_qldas {P : Program} {F : Frm} {n : Nat} {pv : List Blk} {Q : St → Prop} {t : GT} {sl : List (Nat × SV)} {hp : List Blk} {nx sz : Nat} {d : Nat} {x : A} {id id' b o ty : Nat} {ro : Bool} {fr : Nat × Nat} {dc : C} {g : List SG} {kd : IntKind} {l : List Int} {ρ : Type} {r : ρ} {q : Nat} (j : Nat) {N : Nat} {kk : List Int → Option ρ}
    (h1 : x.ev sl = some (.c (.p id b o))) (h2 : getB pv id = some ⟨id', b, ty, ro, fr, dc, flat g⟩) (h3 : sgAt g j = some (.i kd l)) (h4 : sgPos g j + q = o) (h5 : q + N ≤ l.length)
    (h : nm (sub l q N) kk = some r) (hK : ∀ w, w.length = N → kk w = some r → wpI P F n pv Q t ⟨(d, .g (flat [.i kd w])) :: sl, hp, nx, sz⟩) : wpI P F n pv Q (.cons ⟨none, .q d (.lda N x)⟩ t) ⟨sl, hp, nx, sz⟩ := by
  obtain ⟨A, B, f1, f2, f3⟩ := sg_split g j _ h3
  have hcut : cut (flat g) o N = flat [.i kd (sub l q N)] := by
    rw [flat_one, ← h4, ← f2, f1]; exact cut_sub h5
  simp only [wpI, wpG, wpS, IR.val, h1, h2, hcut]
  exact ⟨⟨trivial, by rw [f1, flat_len, flen_append, f2, ← h4]; simp only [flen]; omega⟩, hK _ (sub_len h5) h⟩
end Go.EV

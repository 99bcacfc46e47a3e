/- Rules for walks: append. -/
import Derived.Test.YthgbffnahanfhaaEvD4
set_option linter.unusedVariables false
set_option linter.unusedSimpArgs false
namespace Go.EV
open Go
theorem sub_full {l : List Int} {n : Nat} (h : l.length = n) : sub l 0 n = l := by subst h; simp [sub]
/-- the heap without a block -/
def delF : List Blk → Nat → Option (List Blk)
  | [], _ => none
  | ⟨i, b, t, r, f, d, c⟩ :: l, id => cond (Nat.beq i id) (some l) (match delF l id with | some l' => some (⟨i, b, t, r, f, d, c⟩ :: l') | none => none)
theorem delF_spec {R : Blk → Blk → Prop} (hsym : ∀ x y, R x y → R y x) : ∀ {hp : List Blk} {id : Nat} {k : Blk} {hp1 : List Blk}, delF hp id = some hp1 → getB hp id = some k → hp.Pairwise R →
    (∀ b ∈ hp1, b ∈ hp) ∧ hp1.Pairwise R ∧ ∀ b ∈ hp1, R k b
  | [], _, _, _, h, _, _ => by cases h
  | ⟨i, b, t, r, f, d, c⟩ :: l, id, k, hp1, h, hk, hp => by
    simp only [delF] at h
    simp only [getB_cons] at hk
    obtain ⟨p1, p2⟩ := List.pairwise_cons.1 hp
    by_cases hi : i = id
    · subst hi
      simp only [Nat.beq_refl, cond_true, Option.some.injEq] at h
      simp only [if_true, Option.some.injEq] at hk
      subst h hk
      exact ⟨fun b hb => List.mem_cons_of_mem _ hb, p2, p1⟩
    · have hb : Nat.beq i id = false := by cases hb : Nat.beq i id with | false => rfl | true => exact absurd (Nat.eq_of_beq_eq_true hb) hi
      simp only [hb, cond_false] at h
      rw [if_neg hi] at hk
      split at h
      · rename_i l' hl; cases h
        obtain ⟨q1, q2, q3⟩ := delF_spec hsym hl hk p2
        refine ⟨fun b hb => ?_, .cons (fun b hb => p1 b (q1 b hb)) q2, fun b hb => ?_⟩
        · rcases List.mem_cons.1 hb with rfl | hb
          · simp
          · exact List.mem_cons_of_mem _ (q1 b hb)
        · rcases List.mem_cons.1 hb with rfl | hb
          · exact hsym _ _ (p1 k (getB_mem hk))
          · exact q3 b hb
      · cases h

section
variable {P : Program} {F : Frm} {n : Nat} {pv : List Blk} {Q : St → Prop} {t : GT} {sl : List (Nat × SV)} {hp hp1 : List Blk} {nx sz : Nat} {d : Nat} {x y : A} {a : Act} {w : World}
variable {id id1 b o ty ln cp : Nat} {dc : C} {kd : IntKind} {l m : List Int} {z0 : Int} {pre post : List C} {elem bytes : Nat}
variable {id2 id2' b2 o2 ln2 cp2 ty2 p2 q2 j2 : Nat} {ro2 : Bool} {fr2 : Nat × Nat} {dc2 : C} {g2 : List SG} {l2 : List Int}

/-- the source of an append -/
structure Src (P : Program) (w : World) (src : Value) (kd : IntKind) (m : List Int) : Prop where
  len : (Builtin.lenOf src).run P w = .ok m.length w
  first : (Builtin.firstCells 1 m.length src).run P w = .ok (m.map fun n => Value.int kd n).toArray w

theorem ik_den (kd : IntKind) (m : List Int) : (ik kd m).map C.den = m.map fun n => Value.int kd n := by simp [ik, C.den]

theorem src_slice (hr : HpOK hp w) (hb2 : getB hp id2 = some ⟨id2', b2, ty2, ro2, fr2, dc2, flat g2⟩) (hs2 : sgAt g2 j2 = some (.i kd l2)) (e2 : sgPos g2 j2 = p2) (hS2 : 0 < ln2 → p2 + q2 = o2) (hB2 : q2 + ln2 ≤ l2.length) :
    Src P w (SV.den (.c (.s id2 b2 o2 ln2 cp2))) kd (sub l2 q2 ln2) := by
  obtain ⟨A2, B2, f4, f5, _⟩ := sg_split g2 j2 _ hs2
  have hlen : (sub l2 q2 ln2).length = ln2 := sub_len hB2
  refine ⟨by rw [hlen]; rfl, ?_⟩
  rw [hlen, ← ik_den]
  by_cases h0 : 0 < ln2
  · have hcut : cut (flat g2) o2 ln2 = ik kd (sub l2 q2 ln2) := by
      rw [← hS2 h0, ← e2, ← f5, f4]; exact cut_sub hB2
    have := loadCells_of (P := P) (o := o2) (n := ln2) (hr _ (getB_mem hb2)) (by
      show _ ≤ (flat g2).length
      rw [f4, flat_len, flen_append, f5, e2, ← hS2 h0]; simp only [flen]; omega)
    rw [hcut] at this
    simpa [Builtin.firstCells, SV.den, C.den] using this
  · have : ln2 = 0 := by omega
    subst this
    simp [sub, ik, Builtin.firstCells, SV.den, C.den, loadCells, loadCellsFrom, pure, Sem.run]

theorem Src.drew {src : Value} (h : ∀ w', HpOK hp w' → Src P w' src kd m) (hw : HpOK hp w) : Src P w.drew src kd m := h _ hw

theorem new_grow {F : Frm} {st : St} (hr : Rel F n st a w) {cells : List C} {elem : Nat} (hsub : ∀ b ∈ hp1, b ∈ st.hp) (hpw : hp1.Pairwise (fun x y => x.blk ≠ y.blk ∨ (x.ro = true ∧ y.ro = true))) {dz : Value} :
    Rel F n ⟨st.sl, ⟨nx, w.heap.size, elem, false, (0, 0), .v dz, cells⟩ :: hp1, nx + 1, w.heap.size + 1⟩ a (w.drew.alloc (.cells (cells.map C.den).toArray elem)) := by
  have h1 : Rel F n st a w.drew := hr.world rfl rfl rfl rfl
  have h2 := h1.new (ty := elem) (dz := dz) (cs := cells)
  refine { slots := h2.slots, tsz := h2.tsz, dfr := h2.dfr, hsz := ?_, hp := fun b hb => ?_, dis := ?_, own := fun b hb hro => ?_, le := h2.le, keep := h2.keep, os := h2.os, tape := h2.tape, output := h2.output }
  · have := h2.hsz; rw [this]; show (new st elem dz cells).sz = w.heap.size + 1; show st.sz + 1 = _; rw [← hr.hsz]
  · rcases List.mem_cons.1 hb with rfl | hb
    · have := h2.hp _ (List.mem_cons_self ..)
      have e : st.sz = w.heap.size := hr.hsz.symm
      simp only [e] at this
      exact this
    · exact h2.hp b (List.mem_cons_of_mem _ (hsub b hb))
  · refine .cons (fun b hb => ?_) hpw
    left
    have := (Array.getElem?_eq_some_iff.1 (hr.hp b (hsub b hb))).1
    show w.heap.size ≠ b.blk; omega
  · rcases List.mem_cons.1 hb with rfl | hb
    · left; exact hr.le
    · exact hr.own b (hsub b hb) hro

/-- append to a slice of our own: it may lie on in its block, or in a new one -/
theorem app_own {st : St} {u : SV} {K : SV → St → Prop} (hr0 : st = ⟨sl, hp, nx, sz⟩) (hb1 : getB hp id = some ⟨id1, b, ty, false, (0, 0), dc, flat [.r pre, .i kd l, .r post]⟩) (hln : l.length = ln) (hO : pre.length = o) (hR : cp ≤ l.length + post.length)
    (hsrc : ∀ w, HpOK hp w → Src P w u.den kd m) (hbig : (ln + m.length) * bytes ≤ 140737488355328 ∧ ln + m.length ≤ 9223372036854775807) (hdel : delF hp id = some hp1)
    (hK : ∀ b' o' cp' ty' pre' post' sz', pre'.length = o' → cp' ≤ (l ++ m).length + post'.length → (l ++ m).length ≤ cp' → K (.c (.s nx b' o' (l ++ m).length cp')) ⟨sl, ⟨nx, b', ty', false, (0, 0), .v (.int kd z0), flat [.r pre', .i kd (l ++ m), .r post']⟩ :: hp1, nx + 1, sz'⟩) :
    AppG P F n elem bytes (.int kd z0) (.c (.s id b o ln cp)) u st K := by
  subst hr0
  intro ts type a w hT hr
  obtain ⟨s1, s2⟩ := hsrc w hr.hp
  obtain ⟨s3, s4⟩ := hsrc w.drew (hr.world (w' := w.drew) rfl rfl rfl rfl).hp
  obtain ⟨d1, d2, d3⟩ := delF_spec (fun x y h => h.imp (fun e => Ne.symm e) (fun e => ⟨e.2, e.1⟩)) hdel hb1 hr.dis
  have hk := hr.hp _ (getB_mem hb1)
  have hcells : flat [SG.r pre, .i kd l, .r post] = pre ++ (ik kd l ++ post) := by simp [flat, SG.cells]
  by_cases hroom : ln + m.length ≤ cp
  · refine ⟨.c (.s nx b o (ln + m.length) cp), ⟨sl, ⟨nx, b, ty, false, (0, 0), .v (.int kd z0), flat [.r pre, .i kd (l ++ m), .r (post.drop m.length)]⟩ :: hp1, nx + 1, sz⟩, _, run_app_room (P := P) (w := w) (new := m.map fun n => Value.int kd n) hT s1 s2 hroom hk ?_ ?_, ?_, ?_⟩
    · simp only [List.size_toArray, List.length_map, hcells]; simp [length_ik]; omega
    · intro v hv; obtain ⟨n, _, rfl⟩ := List.mem_map.1 hv; rfl
    · have := hK b o cp ty pre (post.drop m.length) sz hO (by simp only [List.length_append, List.length_drop]; omega) (by simp only [List.length_append]; omega)
      simp only [List.length_append, hln] at this
      exact this
    · have hset := Rel.set (cs := flat [.r pre, .i kd (l ++ m), .r (post.drop m.length)]) hr hb1 rfl
      have hrow : ((flat [SG.r pre, .i kd (l ++ m), .r (post.drop m.length)]).map C.den).toArray = (((flat [SG.r pre, .i kd l, .r post]).map C.den).toArray.toList.take (o + ln) ++ (m.map fun n => Value.int kd n) ++ ((flat [SG.r pre, .i kd l, .r post]).map C.den).toArray.toList.drop (o + ln + (m.map fun n => Value.int kd n).length)).toArray := by
        congr 1
        have e1 : (pre.map C.den ++ (ik kd l).map C.den).length = o + ln := by simp [length_ik]; omega
        have e2 : (flat [SG.r pre, .i kd l, .r post]).map C.den = (pre.map C.den ++ (ik kd l).map C.den) ++ post.map C.den := by rw [hcells]; simp
        simp only [e2, List.length_map]
        rw [List.take_left' e1, ← List.drop_drop, List.drop_left' e1]
        simp [flat, SG.cells, ik, C.den, Function.comp_def]
      rw [hrow] at hset
      refine { slots := hset.slots, tsz := hset.tsz, dfr := hset.dfr, hsz := hset.hsz, hp := fun b' hb' => ?_, dis := ?_, own := fun b' hb' hro => ?_, le := hset.le, keep := hset.keep, os := hset.os, tape := hset.tape, output := hset.output }
      · rcases List.mem_cons.1 hb' with rfl | hb'
        · have h1 := setRow_heap w b (((flat [SG.r pre, .i kd l, .r post]).map C.den).toArray) ((flat [SG.r pre, .i kd (l ++ m), .r (post.drop m.length)]).map C.den).toArray ty (0, 0) hk
          rw [hrow] at h1
          rw [← hrow] at h1 ⊢
          exact h1
        · have hne : b'.blk ≠ b := by
            rcases d3 b' hb' with h | h
            · exact Ne.symm h
            · exact absurd h.1 (by simp)
          rw [setRow_other w b b'.blk _ hne]; exact hr.hp b' (d1 b' hb')
      · refine .cons (fun b' hb' => ?_) d2
        rcases d3 b' hb' with h | h
        · exact .inl h
        · exact absurd h.1 (by simp)
      · rcases List.mem_cons.1 hb' with rfl | hb'
        · exact hr.own ⟨id1, b, ty, false, (0, 0), dc, _⟩ (getB_mem hb1) rfl
        · exact hr.own b' (d1 b' hb') hro
  · have hold : (Builtin.firstCells 1 ln (.slice (some ⟨b, o, none⟩) ln cp)).run P w.drew = .ok ((ik kd l).map C.den).toArray w.drew := by
      have hk' : w.drew.heap[b]? = _ := hk
      have := loadCells_of (P := P) (w := w.drew) (k := ⟨id1, b, ty, false, (0, 0), dc, flat [.r pre, .i kd l, .r post]⟩) (o := o) (n := ln) hk' (by show _ ≤ (flat _).length; rw [hcells]; simp [length_ik]; omega)
      have hc : cut (flat [SG.r pre, .i kd l, .r post]) o ln = ik kd l := by
        unfold cut; rw [hcells, List.drop_left' hO, List.take_left' (by simp [length_ik, hln])]
      simp only [hc] at this
      simpa [Builtin.firstCells] using this
    obtain ⟨cap, hcap, hrun⟩ := run_app_grow (P := P) (w := w) (new := m.map fun n => Value.int kd n) (type := type) hT s1 s4 hold (by omega) hbig.1 hbig.2
    clear hbig
    refine ⟨.c (.s nx w.heap.size 0 (ln + m.length) cap), ⟨sl, ⟨nx, w.heap.size, elem, false, (0, 0), .v (.int kd z0), flat [.r [], .i kd (l ++ m), .r (List.replicate (cap - (ln + m.length)) (C.v (.int kd z0)))]⟩ :: hp1, nx + 1, w.heap.size + 1⟩, _, hrun, ?_, ?_⟩
    rotate_left
    · have := new_grow (nx := nx) hr (hp1 := hp1) (elem := elem) (dz := .int kd z0) (cells := flat [.r [], .i kd (l ++ m), .r (List.replicate (cap - (ln + m.length)) (C.v (.int kd z0)))]) d1 d2
      have e : ((flat [SG.r [], .i kd (l ++ m), .r (List.replicate (cap - (ln + m.length)) (C.v (.int kd z0)))]).map C.den).toArray = ((ik kd l).map C.den).toArray ++ (m.map fun n => Value.int kd n).toArray ++ ((List.replicate (cap - (ln + m.length)) (C.v (.int kd z0))).map C.den).toArray := by
        simp [flat, SG.cells, ik, C.den, Function.comp_def]
      rw [e] at this
      exact this
    · have := hK w.heap.size 0 cap elem [] (List.replicate (cap - (ln + m.length)) (C.v (.int kd z0))) (w.heap.size + 1) rfl (by simp only [List.length_append, List.length_replicate]; omega) (by simp only [List.length_append]; omega)
      simp only [List.length_append, hln] at this
      exact this

/-- append to nil, of some -/
theorem app_nil {st : St} {u : SV} {K : SV → St → Prop} {c0 : Nat} (hr0 : st = ⟨sl, hp, nx, sz⟩) (hc0 : c0 = 0) (hm : 0 < m.length)
    (hsrc : ∀ w, HpOK hp w → Src P w u.den kd m) (hbig : m.length * bytes ≤ 140737488355328 ∧ m.length ≤ 9223372036854775807)
    (hK : ∀ b' cp' post' sz', cp' ≤ m.length + post'.length → m.length ≤ cp' → K (.c (.s nx b' 0 m.length cp')) ⟨sl, ⟨nx, b', elem, false, (0, 0), .v (.int kd z0), flat [.r [], .i kd m, .r post']⟩ :: hp, nx + 1, sz'⟩) :
    AppG P F n elem bytes (.int kd z0) (.c (.v (.slice none 0 c0))) u st K := by
  subst hr0 hc0
  intro ts type a w hT hr
  obtain ⟨s1, s2⟩ := hsrc w hr.hp
  obtain ⟨s3, s4⟩ := hsrc w.drew (hr.world (w' := w.drew) rfl rfl rfl rfl).hp
  have hold : (Builtin.firstCells 1 0 (.slice none 0 0)).run P w.drew = .ok ([] : List Value).toArray w.drew := by simp [Builtin.firstCells, pure, Sem.run]
  obtain ⟨cap, hcap, hrun⟩ := run_app_grow (P := P) (w := w) (new := m.map fun n => Value.int kd n) (type := type) (sLen := 0) (sCap := 0) hT s1 s4 hold (by omega) (by rw [Nat.zero_add]; exact hbig.1) (by rw [Nat.zero_add]; exact hbig.2)
  simp only [Nat.zero_add] at hrun hcap
  clear hbig
  refine ⟨.c (.s nx w.heap.size 0 m.length cap), ⟨sl, ⟨nx, w.heap.size, elem, false, (0, 0), .v (.int kd z0), flat [.r [], .i kd m, .r (List.replicate (cap - m.length) (C.v (.int kd z0)))]⟩ :: hp, nx + 1, w.heap.size + 1⟩, _, hrun, ?_, ?_⟩
  rotate_left
  · have := new_grow (nx := nx) hr (hp1 := hp) (elem := elem) (dz := .int kd z0) (cells := flat [.r [], .i kd m, .r (List.replicate (cap - m.length) (C.v (.int kd z0)))]) (fun _ h => h) hr.dis
    have e : ((flat [SG.r [], .i kd m, .r (List.replicate (cap - m.length) (C.v (.int kd z0)))]).map C.den).toArray = ([] : List Value).toArray ++ (m.map fun n => Value.int kd n).toArray ++ ((List.replicate (cap - m.length) (C.v (.int kd z0))).map C.den).toArray := by
      simp [flat, SG.cells, ik, C.den, Function.comp_def]
    rw [e] at this
    exact this
  · exact hK w.heap.size cap _ _ (by simp only [List.length_replicate]; omega) (by omega)

theorem app_nil0 {st : St} {u : SV} {K : SV → St → Prop} {c0 : Nat} (hc0 : c0 = 0) (hsrc : ∀ w, HpOK st.hp w → Src P w u.den kd []) (hK : K (.c (.v (.slice none 0 0))) st) :
    AppG P F n elem bytes (.int kd z0) (.c (.v (.slice none 0 c0))) u st K := by
  subst hc0
  intro ts type a w hT hr
  obtain ⟨s1, s2⟩ := hsrc w hr.hp
  exact ⟨_, st, w, run_app_same hT s1 s2, hK, hr⟩

theorem d_appo {u : SV} {ρ : Type} {r : ρ} {kk : List Int → Option ρ} (h1 : x.ev sl = some (.c (.s id b o ln cp))) (h2 : y.ev sl = some u) (hb1 : getB hp id = some ⟨id1, b, ty, false, (0, 0), dc, flat [.r pre, .i kd l, .r post]⟩) (hln : l.length = ln) (hO : pre.length = o) (hR : cp ≤ l.length + post.length)
    (h : nm (l ++ m) kk = some r) (hsrc : ∀ w, HpOK hp w → Src P w u.den kd m) (hbig : (l ++ m).length * bytes ≤ 140737488355328) (hdel : delF hp id = some hp1) (hpin : pv = [])
    (hK : ∀ l' b' o' cp' ty' pre' post' sz', pre'.length = o' → cp' ≤ l'.length + post'.length → l'.length ≤ cp' → kk l' = some r → wpI P F n pv Q t ⟨(d, .c (.s nx b' o' l'.length cp')) :: sl, ⟨nx, b', ty', false, (0, 0), .v (.int kd z0), flat [.r pre', .i kd l', .r post']⟩ :: hp1, nx + 1, sz'⟩)
    (hb : 0 < bytes := by decide) :
    wpI P F n pv Q (.cons ⟨none, .app (some d) elem bytes (.int kd z0) x y⟩ t) ⟨sl, hp, nx, sz⟩ := by
  subst hpin
  simp only [wpI, wpG, wpS, h1, h2]
  have hlen : (l ++ m).length = ln + m.length := by simp [hln]
  refine app_own (m := m) rfl hb1 hln hO hR hsrc ⟨by rw [← hlen]; exact hbig, ?_⟩ hdel fun b' o' cp' ty' pre' post' sz' g1 g2 g3 => ⟨trivial, hK (l ++ m) b' o' cp' ty' pre' post' sz' g1 g2 g3 h⟩
  rw [← hlen]
  have := Nat.le_mul_of_pos_right (l ++ m).length hb
  omega
theorem d_appnil {u : SV} {c0 : Nat} {ρ : Type} {r : ρ} {kk : List Int → Option ρ} (h1 : x.ev sl = some (.c (.v (.slice none 0 c0)))) (hc0 : c0 = 0) (h2 : y.ev sl = some u)
    (h : nm m kk = some r) (hsrc : ∀ w, HpOK hp w → Src P w u.den kd m) (hm : 0 < m.length) (hbig : m.length * bytes ≤ 140737488355328) (hpin : pv = [])
    (hK : ∀ l' b' cp' post' sz', cp' ≤ l'.length + post'.length → l'.length ≤ cp' → kk l' = some r → wpI P F n pv Q t ⟨(d, .c (.s nx b' 0 l'.length cp')) :: sl, ⟨nx, b', elem, false, (0, 0), .v (.int kd z0), flat [.r [], .i kd l', .r post']⟩ :: hp, nx + 1, sz'⟩)
    (hb : 0 < bytes := by decide) :
    wpI P F n pv Q (.cons ⟨none, .app (some d) elem bytes (.int kd z0) x y⟩ t) ⟨sl, hp, nx, sz⟩ := by
  subst hpin
  simp only [wpI, wpG, wpS, h1, h2]
  refine app_nil (m := m) rfl hc0 hm hsrc ⟨hbig, ?_⟩ fun b' cp' post' sz' g1 g2 => ⟨trivial, hK m b' cp' post' sz' g1 g2 h⟩
  have := Nat.le_mul_of_pos_right m.length hb
  omega
theorem d_appnil0 {u : SV} {c0 : Nat} (h1 : x.ev sl = some (.c (.v (.slice none 0 c0)))) (hc0 : c0 = 0) (h2 : y.ev sl = some u) (hsrc : ∀ w, HpOK hp w → Src P w u.den kd []) (hpin : pv = [])
    (hK : wpI P F n pv Q t ⟨(d, .c (.v (.slice none 0 0))) :: sl, hp, nx, sz⟩) :
    wpI P F n pv Q (.cons ⟨none, .app (some d) elem bytes (.int kd z0) x y⟩ t) ⟨sl, hp, nx, sz⟩ := by
  subst hpin
  simp only [wpI, wpG, wpS, h1, h2]
  exact app_nil0 hc0 hsrc ⟨trivial, hK⟩
theorem src_nil {c0 : Nat} (w : World) : Src P w (SV.den (.c (.v (.slice none 0 c0)))) kd [] := ⟨rfl, by simp [SV.den, C.den, Builtin.firstCells, pure, Sem.run]⟩
theorem Src.of_eq {src : Value} {m m' : List Int} (h : Src P w src kd m) (e : m = m') : Src P w src kd m' := e ▸ h
end
end Go.EV
namespace Go.EV
open Go
theorem le_lenp {a n m p : Nat} (hn : a = n) (h : m ≤ n + p) : m ≤ a + p := by omega
theorem le_lenl {a n m : Nat} (hn : a = n) (h : n ≤ m) : a ≤ m := by omega
theorem cond_d {β : Type} {p : Prop} [Decidable p] {A B : Option β} {r : β} {G : Prop} (h : cond (decide p) A B = some r) (f : p → A = some r → G) (g : ¬ p → B = some r → G) : G := by
  by_cases hp : p
  · exact f hp (by simpa [hp] using h)
  · exact g hp (by simpa [hp] using h)
theorem win_eq0 {g : List SG} {j : Nat} {kd : IntKind} {l : List Int} {p : Nat} (h1 : sgAt g j = some (.i kd l)) (h3 : sgPos g j = p) :
    ∃ pre post, flat g = flat [.r pre, .i kd l, .r post] ∧ pre.length = p := by
  obtain ⟨A, B, e1, e2, _⟩ := sg_split g j _ h1
  refine ⟨flat A, flat B, ?_, by simp [flat_len, e2, h3]⟩
  rw [e1, flat_mid]
  simp only [flat, SG.cells, List.append_nil]
end Go.EV
namespace Go.EV
open Go
theorem d_ret2 {st : St} {res : List RV} {rw : List Blk} {R : SV → List (List C) → List Blk → Prop} {v : SV} {ups : List (List C)} {nw : List Blk} (iu ir : List Nat) (hR : R v ups nw) (h : ResIs st res v)
    (hu : leH2 st.hp iu ((setCs rw ups).map rwB)) (hn : leH2 st.hp ir (nw.map rwB)) (hd : ndup (iu ++ ir) = true) : Rt res rw R .ret st := d_ret iu ir h hR hu hn hd
theorem d_ret2n {st : St} {res : List RV} {rw : List Blk} {R : SV → List (List C) → List Blk → Prop} {v : SV} {ups : List (List C)} {nw : List Blk} (iu ir : List Nat) (hR : R v ups nw) (h : ResIs st res v)
    (hu : leH2 st.hp iu ((setCs rw ups).map rwB)) (hn : leH2 st.hp ir (nw.map rwB)) (hd : ndup (iu ++ ir) = true) : Rt res rw R .normal st := d_retn iu ir h hR hu hn hd
theorem len_s {a n p o : Nat} (hn : a = n) (h : 0 < n → p = o) : 0 < a → p = o := by subst hn; exact h
end Go.EV

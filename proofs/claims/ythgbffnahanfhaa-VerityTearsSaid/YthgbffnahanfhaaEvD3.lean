/- Rules for walks: ends, calls, loops, ways that meet, slices. -/
import Derived.Test.YthgbffnahanfhaaEvD2
set_option linter.unusedVariables false
set_option linter.unusedSimpArgs false
namespace Go.EV
open Go

section
variable {P : Program} {F : Frm} {n : Nat} {pv : List Blk} {Q : St → Prop} {K : EK} {t t' : GT} {sl : List (Nat × SV)} {hp hp' : List Blk} {nx sz : Nat} {d : Nat} {dd : Option Nat} {x y : A}
variable {id id' b o ty ln cp : Nat} {ro : Bool} {fr : Nat × Nat} {dc : C} {g g' : List SG} {kd : IntKind} {l m : List Int} {v z : Int} {u : SV} {pc : Prop} {ρ : Type} {r : ρ} {j q : Nat} {cs : List C}
variable {c c' : IC} {st : St}

/-! results -/
/-- the result stands there as v -/
def RIs (st : St) (x : RV) (v : SV) : Prop := ∃ v' pc, x.val st = some (v', pc) ∧ pc ∧ v'.den = v.den
theorem rIs_t {tt : Nat} {u v : SV} (h : getS sl tt = some u) (hd : u.den = v.den) : RIs ⟨sl, hp, nx, sz⟩ (.tmp tt) v := by
  refine ⟨u, True, ?_, trivial, hd⟩
  simp only [RV.val, h]
theorem rIs_a (j M : Nat) {tt N : Nat} {hv : Value} (h1 : getS sl tt = some (.c (.p id b o))) (h2 : getB hp id = some ⟨id', b, ty, ro, fr, dc, flat g⟩) (h3 : sgCutO g j M = some g') (h4 : sgPos g j = o) (h5 : flen g' = N) :
    RIs ⟨sl, hp, nx, sz⟩ (.cell true N hv tt) (.g (flat g')) := by
  obtain ⟨aa, B, e1, e2⟩ := sgCutO_ok h3
  subst h5
  have e3 := flat_cut (a := aa) (m := g') (b := B)
  rw [← e1, e2, h4] at e3
  have h1' : A.ev sl (.t tt) = some (.c (.p id b o)) := h1
  refine ⟨.g (flat g'), b = b ∧ o + flen g' ≤ (flat g).length, ?_, ⟨rfl, by rw [e1, flat_len, flen_append, flen_append, e2, h4]; omega⟩, rfl⟩
  simp only [RV.val, if_true, IR.val, h1', h2, e3]
def ResIs (st : St) : List RV → SV → Prop
  | [], v => v = .t0
  | [x], v => RIs st x v
  | [x, y], .t2 a b => RIs st x a ∧ RIs st y b
  | [x, y, z], .t3 a b c => RIs st x a ∧ RIs st y b ∧ RIs st z c
  | _, _ => False
theorem resIs_ok {res : List RV} {v : SV} (h : ResIs st res v) : ∃ v' pc, resV st res = some (v', pc) ∧ pc ∧ v'.den = v.den := by
  unfold ResIs at h
  split at h
  · subst h; exact ⟨.t0, True, rfl, trivial, rfl⟩
  · obtain ⟨v', pc, h1, h2, h3⟩ := h; exact ⟨v', pc, h1, h2, h3⟩
  · obtain ⟨⟨v', pc, h1, h2, h3⟩, w', pd, g1, g2, g3⟩ := h
    exact ⟨.t2 v' w', pc ∧ pd, by simp only [resV, h1, g1], ⟨h2, g2⟩, by simp only [SV.den, h3, g3]⟩
  · obtain ⟨⟨v', pc, h1, h2, h3⟩, ⟨w', pd, g1, g2, g3⟩, x', pe, f1, f2, f3⟩ := h
    exact ⟨.t3 v' w' x', pc ∧ pd ∧ pe, by simp only [resV, h1, g1, f1], ⟨h2, g2, f2⟩, by simp only [SV.den, h3, g3, f3]⟩
  · exact h.elim
theorem d_ret {res : List RV} {rw : List Blk} {R : SV → List (List C) → List Blk → Prop} {v : SV} {ups : List (List C)} {nw : List Blk} (iu ir : List Nat) (h : ResIs st res v) (hR : R v ups nw)
    (hu : leH2 st.hp iu ((setCs rw ups).map rwB)) (hn : leH2 st.hp ir (nw.map rwB)) (hd : ndup (iu ++ ir) = true) : Rt res rw R .ret st := by
  obtain ⟨v', pc, h1, h2, h3⟩ := resIs_ok h
  simp only [Rt, Rt.go, h1]; exact ⟨h2, v, ups, nw, iu, ir, hR, h3, hu, hn, hd⟩
theorem d_retn {res : List RV} {rw : List Blk} {R : SV → List (List C) → List Blk → Prop} {v : SV} {ups : List (List C)} {nw : List Blk} (iu ir : List Nat) (h : ResIs st res v) (hR : R v ups nw)
    (hu : leH2 st.hp iu ((setCs rw ups).map rwB)) (hn : leH2 st.hp ir (nw.map rwB)) (hd : ndup (iu ++ ir) = true) : Rt res rw R .normal st := d_ret (st := st) iu ir h hR hu hn hd

/-! regions -/
def pinF (sl : List (Nat × SV)) (hp : List Blk) : List Nat → Option (List Blk)
  | [] => some []
  | t :: r => match getS sl t with
    | some (.c (.p id _ _)) => match getB hp id, pinF sl hp r with | some k, some l => some (k :: l) | _, _ => none
    | some (.c (.s id _ _ _ _)) => match getB hp id, pinF sl hp r with | some k, some l => some (k :: l) | _, _ => none
    | _ => none
theorem pinF_ok : ∀ {l : List Nat} {pv : List Blk}, pinF sl hp l = some pv → pinB ⟨sl, hp, nx, sz⟩ l = pv
  | [], pv, h => by cases h; rfl
  | t :: r, pv, h => by
    simp only [pinF] at h
    unfold pinB
    simp only
    split at h
    · rename_i e; simp only [e]
      split at h
      · rename_i e1 e2; cases h; simp only [e1, pinF_ok e2]
      · cases h
    · rename_i e; simp only [e]
      split at h
      · rename_i e1 e2; cases h; simp only [e1, pinF_ok e2]
      · cases h
    · cases h
theorem d_reg {pl : List Nat} (hp1 : pinF sl hp pl = some pv) (h : wpI P F n pv (K .normal) t ⟨sl, hp, nx, sz⟩) : wpC P F n (.reg pl t) K ⟨sl, hp, nx, sz⟩ := by
  show wpI P F n (pinB _ pl) (K .normal) t _
  rw [pinF_ok hp1]; exact h

/-! calls -/
def nwF : List Blk → List Blk → Option (List Blk)
  | [], hp => some hp
  | ⟨i, b, t, _, f, d, c⟩ :: r, hp => match nwF r hp with | some l => some (⟨i, b, t, false, f, d, c⟩ :: l) | none => none
theorem nwF_ok : ∀ {nw hp l : List Blk}, nwF nw hp = some l → nw.map rwB ++ hp = l
  | [], hp, l, h => by cases h; rfl
  | ⟨i, b, t, ro, f, d, c⟩ :: r, hp, l, h => by
    simp only [nwF] at h
    split at h
    · rename_i l' hl; cases h; simp only [List.map_cons, List.cons_append, nwF_ok hl]; rfl
    · cases h
def setAllF : List Blk → List Blk → List (List C) → Option (List Blk)
  | hp, [], _ => some hp
  | hp, _ :: _, [] => some hp
  | hp, ⟨i, _, _, _, _, _, _⟩ :: r, c :: cs => match setF hp i c with | some h1 => setAllF h1 r cs | none => none
theorem setAllF_ok : ∀ {rw : List Blk} {hp : List Blk} {ups : List (List C)} {l : List Blk}, setAllF hp rw ups = some l → setAll hp rw ups = l
  | [], hp, ups, l, h => by cases h; rfl
  | _ :: _, hp, [], l, h => by cases h; rfl
  | ⟨i, b, t, ro, f, d, k⟩ :: r, hp, c :: cs, l, h => by
    simp only [setAllF] at h
    split at h
    · rename_i h1 e; simp only [setAll, setF_ok e, setAllF_ok h]
    · cases h
def callHp (nw hp rw : List Blk) (ups : List (List C)) : Option (List Blk) := match setAllF hp rw ups with | some h => nwF nw h | none => none
theorem callHp_ok {nw hp rw : List Blk} {ups : List (List C)} {l : List Blk} (h : callHp nw hp rw ups = some l) : nw.map rwB ++ setAll hp rw ups = l := by
  unfold callHp at h
  split at h
  · rename_i e; rw [setAllF_ok e, nwF_ok h]
  · cases h
theorem d_call {f : Nat} {args : List A} {vs args0 : List SV} {rw ro : List Blk} {R : SV → List (List C) → List Blk → Prop} (hC : Fn P f args0 rw ro R) (hA : evArgs sl args = some vs) (hv : vs.map SV.den = args0.map SV.den)
    (hrw : HaveRw hp rw) (hro : HaveRo hp ro) (hown : OwnIds rw ro)
    (hK : ∀ v ups nw z, R v ups nw → ∃ hp', callHp nw hp rw ups = some hp' ∧ Pin pv hp' ∧ wpI P F n pv Q t ⟨(d, v) :: sl, hp', nx, z⟩) :
    wpI P F n pv Q (.cons ⟨none, .call (some d) f args⟩ t) ⟨sl, hp, nx, sz⟩ := by
  simp only [wpI, wpG, wpS, hA]
  refine callG hC hv hrw hro hown fun v ups nw sz' hR _ => ?_
  obtain ⟨hp', h1, h2, h3⟩ := hK v ups nw sz' hR
  simp only [callHp_ok h1]
  exact ⟨h2, h3⟩
/-! ways that meet -/
def JnK {ζ : Type} (J : ζ → St) (p : ζ → Prop) (Q : EK) : EK
  | .normal, s' => ∃ z is, p z ∧ leS2 s'.sl (J z).sl ∧ leH2 s'.hp is (J z).hp ∧ ndup is = true ∧ (J z).sz = s'.sz
  | e, s' => Q e s'
theorem d_join {ζ : Type} (J : ζ → St) (p : ζ → Prop) (h1 : wpC P F n c (JnK J p K) st) (h2 : ∀ z, p z → wpC P F n c' K (J z)) : wpC P F n (.seqJ c c') K st := by
  refine ⟨ζ, J, p, wpC_mono _ _ _ _ (fun e s hq => ?_) h1, h2⟩
  cases e with
  | normal => obtain ⟨z, is, hz, g1, g2, g3, g4⟩ := hq; exact ⟨z, hz, weak2 g1 g2 (ndup_ok g3) g4⟩
  | _ => exact hq
theorem jnK_n {ζ : Type} {J : ζ → St} {p : ζ → Prop} (z : ζ) (is : List Nat) (hp : p z) (h1 : leS2 st.sl (J z).sl) (h2 : leH2 st.hp is (J z).hp) (h3 : ndup is = true) (h4 : (J z).sz = st.sz) : JnK J p K .normal st := ⟨z, is, hp, h1, h2, h3, h4⟩
/-! loops -/
def LpK {σ τ ζ : Type} (J : ζ → St) (ok : ζ → Prop) (pj : ζ → σ) (rec : σ → Option τ) (o : τ) (Q : EK) : EK
  | .normal, s' => ∃ z is, ok z ∧ rec (pj z) = some o ∧ leS2 s'.sl (J z).sl ∧ leH2 s'.hp is (J z).hp ∧ ndup is = true ∧ (J z).sz = s'.sz
  | e, s' => Q e s'
theorem d_loop {σ τ ζ : Type} {bd : (σ → Option τ) → σ → Option τ} {M : Nat} {o : τ} (pj : ζ → σ) (J : ζ → St) (ok : ζ → Prop) (z0 : ζ) (is : List Nat) (h : itr bd M (pj z0) = some o) (hok : ok z0)
    (hS : leS2 st.sl (J z0).sl) (hH : leH2 st.hp is (J z0).hp) (hn : ndup is = true) (hsz : (J z0).sz = st.sz)
    (step : ∀ (rec : σ → Option τ) (z : ζ), ok z → bd rec (pj z) = some o → wpC P F n c (LpK J ok pj rec o K) (J z)) : wpC P F n (.loop c) K st := by
  refine ⟨fun M s => ∃ z, s = J z ∧ ok z ∧ itr bd M (pj z) = some o, ⟨M, J z0, ⟨z0, rfl, hok, h⟩, weak2 hS hH (ndup_ok hn) hsz⟩, ?_⟩
  rintro N s ⟨z, rfl, hz, hi⟩
  cases N with
  | zero => cases hi
  | succ N =>
    refine wpC_mono _ _ _ _ (fun e s hq => ?_) (step (itr bd N) z hz hi)
    cases e with
    | normal =>
      obtain ⟨z', is', h1, h2, g1, g2, g3, g4⟩ := hq
      exact ⟨N, J z', ⟨z', rfl, h1, h2⟩, Nat.lt_succ_self _, weak2 g1 g2 (ndup_ok g3) g4⟩
    | _ => exact hq
section
variable {σ τ ζ : Type} {J : ζ → St} {ok : ζ → Prop} {pj : ζ → σ} {rec : σ → Option τ} {oo : τ}
theorem lpK_n (z : ζ) (is : List Nat) (hok : ok z) (h : rec (pj z) = some oo) (h1 : leS2 st.sl (J z).sl) (h2 : leH2 st.hp is (J z).hp) (h3 : ndup is = true) (h4 : (J z).sz = st.sz) : LpK J ok pj rec oo K .normal st := ⟨z, is, hok, h, h1, h2, h3, h4⟩
theorem lpK_x (h : K (.exit id) st) : LpK J ok pj rec oo K (.exit id) st := h
end

/-! labels -/
section
variable {σ τ ζ : Type} {J : ζ → St} {ok : ζ → Prop} {pj : ζ → σ} {rec : σ → Option τ} {oo : τ} {lb : Nat}
end

/-! places in slices -/
/-- a slice of a slice -/
theorem d_sls {lo hi : Option A} {a e : Int} {q0 p : Nat} (h1 : x.ev sl = some (.c (.s id b o ln cp))) (hlo : optI sl 0 lo = some a) (hhi : optI sl ln hi = some e) (hg : 0 ≤ a ∧ a ≤ e ∧ e ≤ ln) (hcp : ln ≤ cp) (hS : 0 < ln → p + q0 = o)
    (hK : ∀ o' cp', (0 < e.toNat - a.toNat → p + (q0 + a.toNat) = o') → e.toNat - a.toNat ≤ cp' → wpI P F n pv Q t ⟨(d, .c (.s id b o' (e.toNat - a.toNat) cp')) :: sl, hp, nx, sz⟩) :
    wpI P F n pv Q (.cons ⟨none, .s d (.sls 1 x lo hi none)⟩ t) ⟨sl, hp, nx, sz⟩ := by
  refine wpI_s (u := .c (.s id b (if (cp : Int) = a then o else o + a.toNat * 1) (e.toNat - a.toNat) ((cp : Int).toNat - a.toNat))) (pc := 0 ≤ a ∧ a ≤ e ∧ e ≤ cp ∧ (cp : Int) ≤ cp) ?_ ⟨hg.1, hg.2.1, by omega, Int.le_refl _⟩ (hK _ _ ?_ (by omega))
  · have : optI sl cp none = some (cp : Int) := rfl
    simp only [IS.val, h1, hlo, hhi, this]
  · intro h0
    have := hS (by omega)
    rw [if_neg (by omega)]; omega
/-- with a capacity of its own -/
theorem d_slsm {lo hi : Option A} {mx : A} {a e k : Int} {q0 p : Nat} (h1 : x.ev sl = some (.c (.s id b o ln cp))) (hlo : optI sl 0 lo = some a) (hhi : optI sl ln hi = some e) (hmx : optI sl cp (some mx) = some k) (hg : 0 ≤ a ∧ a ≤ e ∧ e ≤ ln) (hm : e ≤ k ∧ k ≤ ln) (hcp : ln ≤ cp) (hS : 0 < ln → p + q0 = o)
    (hK : ∀ o', (0 < e.toNat - a.toNat → p + (q0 + a.toNat) = o') → wpI P F n pv Q t ⟨(d, .c (.s id b o' (e.toNat - a.toNat) (k.toNat - a.toNat))) :: sl, hp, nx, sz⟩) :
    wpI P F n pv Q (.cons ⟨none, .s d (.sls 1 x lo hi (some mx))⟩ t) ⟨sl, hp, nx, sz⟩ := by
  refine wpI_s (u := .c (.s id b (if k = a then o else o + a.toNat * 1) (e.toNat - a.toNat) (k.toNat - a.toNat))) (pc := 0 ≤ a ∧ a ≤ e ∧ e ≤ k ∧ k ≤ (cp : Int)) ?_ ⟨hg.1, hg.2.1, hm.1, by omega⟩ (hK _ ?_)
  · simp only [IS.val, h1, hlo, hhi, hmx]
  · intro h0
    have := hS (by omega)
    rw [if_neg (by omega)]; omega
/-- a slice of an array in memory -/
theorem d_sla {lo hi : Option A} {a e : Int} {N : Nat} (h1 : x.ev sl = some (.c (.p id b o))) (hlo : optI sl 0 lo = some a) (hhi : optI sl N hi = some e) (hg : 0 ≤ a ∧ a ≤ e ∧ e ≤ N)
    (hK : ∀ o' cp', (0 < e.toNat - a.toNat → o + a.toNat = o') → e.toNat - a.toNat ≤ cp' → wpI P F n pv Q t ⟨(d, .c (.s id b o' (e.toNat - a.toNat) cp')) :: sl, hp, nx, sz⟩) :
    wpI P F n pv Q (.cons ⟨none, .s d (.sla N 1 x lo hi none)⟩ t) ⟨sl, hp, nx, sz⟩ := by
  refine wpI_s (u := .c (.s id b (if (N : Int) = a then o else o + a.toNat * 1) (e.toNat - a.toNat) ((N : Int).toNat - a.toNat))) (pc := 0 ≤ a ∧ a ≤ e ∧ e ≤ (N : Int) ∧ (N : Int) ≤ N) ?_ ⟨hg.1, hg.2.1, hg.2.2, Int.le_refl _⟩ (hK _ _ ?_ (by omega))
  · have : optI sl N none = some (N : Int) := rfl
    simp only [IS.val, h1, hlo, hhi, this]
  · intro h0
    rw [if_neg (by omega)]; omega

/-- a window of a block, as a contract has it -/
theorem win_eq {g : List SG} {j : Nat} {kd : IntKind} {l : List Int} {q n p : Nat} (h1 : sgAt g j = some (.i kd l)) (h2 : q + n ≤ l.length) (h3 : sgPos g j = p) :
    ∃ pre post, flat g = flat [.r pre, .i kd (sub l q n), .r post] ∧ pre.length = p + q := by
  obtain ⟨A, B, e1, e2, _⟩ := sg_split g j _ h1
  refine ⟨flat A ++ ik kd (l.take q), ik kd (l.drop (q + n)) ++ flat B, ?_, by simp [flat_len, e2, h3, length_ik]; omega⟩
  rw [e1, flat_mid]
  simp only [flat, SG.cells, List.append_nil, List.append_assoc]
  congr 1
  have : l = l.take q ++ (sub l q n ++ l.drop (q + n)) := by
    unfold sub; rw [← List.drop_drop, List.take_append_drop, List.take_append_drop]
  conv => lhs; rw [this]
  simp [ik]
end
end Go.EV

/- Lemmas on what lowered instructions do, part EvStep. No condition but those that a theorem names. -/
import Derived.Test.YthgbffnahanfhaaEvCall
set_option linter.unusedVariables false
set_option linter.unusedSimpArgs false
namespace Go.EV
open Go

/-- cells that hold ints of one kind -/
def ik (k : IntKind) (l : List Int) : List C := l.map fun n => .v (.int k n)

@[go_sem] theorem length_ik (k : IntKind) (l : List Int) : (ik k l).length = l.length := by simp [ik]
@[go_sem] theorem ints_ik (k : IntKind) (l : List Int) : ints (ik k l) = some l := by
  induction l with
  | nil => rfl
  | cons x r ih => unfold ik at *; simp only [List.map_cons, ints, C.int?, ih]
@[go_sem] theorem scal_ik (k : IntKind) (l : List Int) : (ik k l).all C.scal = true := by
  simp [ik, C.scal]
@[go_sem] theorem rep_ik (k : IntKind) (n : Nat) (x : Int) : List.replicate n (C.v (.int k x)) = ik k (List.replicate n x) := by simp [ik]
@[go_sem] theorem map_v_rep (n : Nat) (x : Value) : (List.replicate n x).map C.v = List.replicate n (C.v x) := by simp

attribute [go_sem] wpI wpG wpS wpC.eq_1 wpC.eq_2 wpC.eq_3 wpC.eq_5 wpC.eq_6 wpC.eq_8 wpC.eq_9 wpC.eq_10 wpC.eq_11 getS_cons getS_nil getB_cons getB.eq_1 St.put putO setB IS.val A.ev IR.val IW.run isCell C.scal isSh binI shI ib bb I.dst Pin evArgs pinB new
  RetK RetK.go resV RV.val setCs HereL NewL NotIn BlockK HaveRw HaveRo OwnIds NoId setAll rwB roB st0 initSl optI SV.cells? hint hintP isK C.toI List.length_set Int.toNat_natCast Nat.zero_add Nat.mul_one List.length_append List.length_take List.length_drop List.length_replicate


/-! a contract, its blocks under other ids -/
def reids : List Nat → List Blk → List Blk
  | i :: is, b :: r => { b with id := i } :: reids is r
  | _, l => l
theorem reids_HpL {w : World} : ∀ (is : List Nat) (l : List Blk), HpL (reids is l) w = HpL l w
  | [], l => by cases l <;> rfl
  | _ :: _, [] => rfl
  | i :: is, b :: r => by simp only [reids, HpL, reids_HpL is r]
theorem reids_NotIn {n : Nat} : ∀ (is : List Nat) (l : List Blk), NotIn n (reids is l) = NotIn n l
  | [], l => by cases l <;> rfl
  | _ :: _, [] => rfl
  | i :: is, b :: r => by simp only [reids, NotIn, reids_NotIn is r]
theorem reids_Apart : ∀ (is js : List Nat) (l m : List Blk), Apart (reids is l) (reids js m) = Apart l m
  | [], js, [], m => by simp only [reids, Apart]
  | [], js, b :: r, m => by have := reids_Apart [] js r m; simp only [reids] at this ⊢; simp only [Apart, reids_NotIn]; cases r <;> simp_all [reids]
  | _ :: _, js, [], m => by simp only [reids, Apart]
  | i :: is, js, b :: r, m => by simp only [reids, Apart, reids_NotIn, reids_Apart is js r m]
theorem reids_set : ∀ (is : List Nat) (l : List Blk) (u : List (List C)), setCs (reids is l) u = reids is (setCs l u)
  | [], l, u => by cases l <;> rfl
  | _ :: _, [], u => rfl
  | i :: is, b :: r, [] => by simp only [reids, setCs, reids_set is r []]
  | i :: is, b :: r, c :: u => by simp only [reids, setCs, reids_set is r u]
theorem reids_blk : ∀ (is : List Nat) (l : List Blk), (reids is l).map (·.blk) = l.map (·.blk)
  | [], l => by cases l <;> rfl
  | _ :: _, [] => rfl
  | i :: is, b :: r => by simp only [reids, List.map_cons, reids_blk is r]
theorem Fn.reids {P : Program} {f : Nat} {args : List SV} {rw ro : List Blk} {R : SV → List (List C) → List Blk → Prop} (h : Fn P f args rw ro R) (is js : List Nat) : Fn P f args (reids is rw) (EV.reids js ro) R := by
  intro w h1 h2 h3
  rw [reids_HpL] at h1 h2
  rw [reids_Apart] at h3
  refine callF_mono (fun v' w' ⟨v, u, n, hR, hv, hu, hn, hN, hF⟩ => ⟨v, u, n, hR, hv, ?_, hn, hN, ?_⟩) (h w h1 h2 h3)
  · rw [reids_set, reids_HpL]; exact hu
  · rw [reids_blk]; exact hF

def putL (d : Option Nat) (v : SV) (sl : List (Nat × SV)) : List (Nat × SV) := match d with | some d => (d, v) :: sl | none => sl

section
variable {P : Program} {F : Frm} {n : Nat} {pv : List Blk} {Q : St → Prop} {K : EK} {t t' : GT} {sl : List (Nat × SV)} {hp : List Blk} {nx sz : Nat} {d : Nat} {dd : Option Nat} {x y v : A} {id b o : Nat} {k : Blk} {kd : IntKind} {l m : List Int} {z : Int}
variable {u : SV} {pc : Prop} {st' : St}

theorem wpI_s {i : IS} (h : i.val sl = some (u, pc)) (hpc : pc) (hK : wpI P F n pv Q t ⟨(d, u) :: sl, hp, nx, sz⟩) : wpI P F n pv Q (.cons ⟨none, .s d i⟩ t) ⟨sl, hp, nx, sz⟩ := by
  simp only [wpI, wpG, wpS, h]; exact ⟨hpc, hK⟩
/-- a new block -/
theorem wpI_new {i : IW} {ty : Nat} {dz : Value} {cs : List C} (h : i.run ⟨sl, hp, nx, sz⟩ = some (u, new ⟨sl, hp, nx, sz⟩ ty dz cs, pc)) (hpc : pc) (hpin : Pin pv (⟨nx, sz, ty, false, (0, 0), .v dz, cs⟩ :: hp))
    (hK : wpI P F n pv Q t ⟨putL dd u sl, ⟨nx, sz, ty, false, (0, 0), .v dz, cs⟩ :: hp, nx + 1, sz + 1⟩) : wpI P F n pv Q (.cons ⟨none, .w dd i⟩ t) ⟨sl, hp, nx, sz⟩ := by
  simp only [wpI, wpG, wpS, h]; refine ⟨hpc, hpin, ?_⟩; cases dd <;> exact hK

/-- index a value that is an array of ints -/
theorem wpI_ixi {N S : Nat} {j : Int} {kk : IntKind} {z : Int} (h1 : x.ev sl = some (.g (ik kd l))) (h2 : y.ev sl = some (ib kk j)) (h3 : 0 ≤ j ∧ j < N) (h4 : j.toNat < l.length)
    (hK : wpI P F n pv Q t ⟨(d, ib kd (l.getD j.toNat 0)) :: sl, hp, nx, sz⟩) : wpI P F n pv Q (.cons ⟨none, .s d (.ix N S false (.int kd z) x y)⟩ t) ⟨sl, hp, nx, sz⟩ := by
  have h2' : y.ev sl = some (.c (.v (.int kk j))) := h2
  have e : (ik kd l).getD j.toNat (.v (.int kd z)) = .v (.int kd (l.getD j.toNat 0)) := by
    rw [List.getD_eq_getElem?_getD, ik, List.getElem?_map, List.getElem?_eq_getElem h4, List.getD_eq_getElem?_getD, List.getElem?_eq_getElem h4]; rfl
  simp only [wpI, wpG, wpS, IS.val, h1, h2', e, Bool.false_eq_true, if_false, hint, hintP, isK, C.toI]
  exact ⟨⟨h3, by rw [length_ik]; exact h4, trivial⟩, hK⟩

theorem wpI_guard {i : I} {tt : Nat} {bv xv : Bool} (h : getS sl tt = some (bb xv)) (h1 : xv = bv → wpI P F n pv Q (.cons ⟨none, i⟩ t) ⟨(tt, bb bv) :: sl, hp, nx, sz⟩) (h2 : xv ≠ bv → wpI P F n pv Q t ⟨putL i.dst (.c (.v undef)) ((tt, bb (!bv)) :: sl), hp, nx, sz⟩) :
    wpI P F n pv Q (.cons ⟨some (tt, bv), i⟩ t) ⟨sl, hp, nx, sz⟩ := by
  have h' : getS sl tt = some (.c (.v (.bool xv))) := h
  simp only [wpI, wpG, h']
  refine ⟨h1, fun hx => ?_⟩
  have := h2 hx
  revert this
  cases i.dst <;> exact id
theorem wpI_nil (h : Q ⟨sl, hp, nx, sz⟩) : wpI P F n pv Q .nil ⟨sl, hp, nx, sz⟩ := h
theorem wpI_alt (h1 : wpI P F n pv Q t ⟨sl, hp, nx, sz⟩) (h2 : wpI P F n pv Q t' ⟨sl, hp, nx, sz⟩) : wpI P F n pv Q (.alt t t') ⟨sl, hp, nx, sz⟩ := ⟨h1, h2⟩

/-! codes -/
variable {c c' : IC} {st : St}
theorem wpC_seq (h : wpC P F n c (SeqK P F n c' K) st) : wpC P F n (.seq c c') K st := h
theorem wpC_skip (h : K .normal st) : wpC P F n .skip K st := h
theorem wpC_ret (h : K .ret st) : wpC P F n .ret K st := h
theorem wpC_exit (h : K (.exit id) st) : wpC P F n (.exit id) K st := h
theorem wpC_block (h : wpC P F n c (BlockK id K) st) : wpC P F n (.block id c) K st := h
theorem wpC_cond {xv : Bool} (h : x.ev sl = some (bb xv)) (h1 : xv = true → wpC P F n c K ⟨sl, hp, nx, sz⟩) (h2 : xv = false → wpC P F n c' K ⟨sl, hp, nx, sz⟩) : wpC P F n (.cond x c c') K ⟨sl, hp, nx, sz⟩ := by
  have h' : x.ev sl = some (.c (.v (.bool xv))) := h
  simp only [wpC, h']; exact ⟨h1, h2⟩
theorem wpC_condT (h : x.ev sl = some (bb true)) (h1 : wpC P F n c K ⟨sl, hp, nx, sz⟩) : wpC P F n (.cond x c c') K ⟨sl, hp, nx, sz⟩ := wpC_cond h (fun _ => h1) (by simp)
theorem wpC_condF (h : x.ev sl = some (bb false)) (h1 : wpC P F n c' K ⟨sl, hp, nx, sz⟩) : wpC P F n (.cond x c c') K ⟨sl, hp, nx, sz⟩ := wpC_cond h (by simp) (fun _ => h1)
theorem seqK_n (h : wpC P F n c K st) : SeqK P F n c K .normal st := h
theorem seqK_r (h : K .ret st) : SeqK P F n c K .ret st := h
theorem seqK_x (h : K (.exit id) st) : SeqK P F n c K (.exit id) st := h
theorem blockK_n (h : K .normal st) : BlockK id K .normal st := h
theorem blockK_r (h : K .ret st) : BlockK id K .ret st := h
theorem blockK_x (h : K .normal st) : BlockK id K (.exit id) st := by simp only [BlockK, if_true]; exact h
variable {σ : Type} {J : σ → St} {p : σ → Prop} {ms : σ → Nat} {N : Nat}
/-- so many rounds -/
def wpLoopN (P : Program) (F : Frm) (n : Nat) (c : IC) (K : EK) : Nat → St → Prop
  | 0, _ => False
  | N + 1, st => wpC P F n c (fun e s => match e with | .normal => wpLoopN P F n c K N s | e => K e s) st
def RoundK (P : Program) (F : Frm) (n : Nat) (c : IC) (K : EK) (N : Nat) : EK := fun e s => match e with | .normal => wpLoopN P F n c K N s | e => K e s
theorem wpC_rounds (N : Nat) (h : wpLoopN P F n c K N st) : wpC P F n (.loop c) K st := by
  refine ⟨fun M s => wpLoopN P F n c K M s, ⟨N, st, h, Weak.refl⟩, fun M s hs => ?_⟩
  cases M with
  | zero => exact hs.elim
  | succ M =>
    refine wpC_mono _ _ _ _ (fun e s' hq => ?_) hs
    cases e with
    | normal => exact ⟨M, s', hq, Nat.lt_succ_self _, Weak.refl⟩
    | _ => exact hq
theorem wpLoopN_s {N : Nat} (h : wpC P F n c (RoundK P F n c K N) st) : wpLoopN P F n c K (N + 1) st := h
theorem roundK_n {N : Nat} (h : wpLoopN P F n c K N st) : RoundK P F n c K N .normal st := h
theorem roundK_x {N : Nat} (h : K (.exit id) st) : RoundK P F n c K N (.exit id) st := h
end

/-! arithmetic of counters: no wrap -/
section
variable {P : Program} {F : Frm} {n : Nat} {pv : List Blk} {Q : St → Prop} {t : GT} {sl : List (Nat × SV)} {hp : List Blk} {nx sz d : Nat} {x y : A} {a c : Int}
end
end Go.EV

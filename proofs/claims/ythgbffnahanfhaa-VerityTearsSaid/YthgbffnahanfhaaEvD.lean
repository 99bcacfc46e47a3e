/- Rules for walks that follow a function made of the program's text: each step takes its part of the function's equation. -/
import Derived.Test.YthgbffnahanfhaaEvStep
set_option linter.unusedVariables false
set_option linter.unusedSimpArgs false
namespace Go.EV
open Go

/-! the words of the functions -/
def nm {α β : Type} (v : α) (k : α → Option β) : Option β := k v
def gd {β : Type} (p : Prop) [Decidable p] (k : Option β) : Option β := if p then k else none
def upd (l : List Int) (i : Nat) (v : Int) : Option (List Int) := if i < l.length then some (l.set i v) else none
def sub (l : List Int) (o n : Nat) : List Int := (l.drop o).take n
/-- m at place o of l -/
def put (l : List Int) (o : Nat) (m : List Int) : Option (List Int) := if o + m.length ≤ l.length then some (l.take o ++ m ++ l.drop (o + m.length)) else none
def itr {σ τ : Type} (b : (σ → Option τ) → σ → Option τ) : Nat → σ → Option τ
  | 0, _ => none
  | n + 1, z => b (itr b n) z

theorem gd_e {β : Type} {p : Prop} [Decidable p] {k : Option β} {r : β} {G : Prop} (h : gd p k = some r) (f : p → k = some r → G) : G := by
  unfold gd at h; split at h
  · exact f ‹_› h
  · cases h
theorem nm_e {α β : Type} {v : α} {k : α → Option β} {r : β} {G : Prop} (h : nm v k = some r) (f : ∀ x, v = x → k x = some r → G) : G := f v rfl h
theorem bind_e {α β : Type} {v : Option α} {k : α → Option β} {r : β} {G : Prop} (h : v.bind k = some r) (f : ∀ x, v = some x → k x = some r → G) : G := by
  cases v with
  | none => cases h
  | some x => exact f x rfl h
theorem upd_len {l l' : List Int} {i : Nat} {v : Int} (h : upd l i v = some l') : l'.length = l.length := by
  unfold upd at h; split at h
  · cases h; simp
  · cases h
theorem put_len {l l' m : List Int} {o : Nat} (h : put l o m = some l') : l'.length = l.length := by
  unfold put at h; split at h
  · cases h; simp; omega
  · cases h
theorem sub_len {l : List Int} {o n : Nat} (h : o + n ≤ l.length) : (sub l o n).length = n := by simp [sub]; omega

/-! cells in segments -/
inductive SG where
  | i (k : IntKind) (l : List Int)
  | c (x : C)
  | r (p : List C)
def SG.cells : SG → List C
  | .i k l => ik k l
  | .c x => [x]
  | .r p => p
def flat : List SG → List C
  | [] => []
  | s :: r => s.cells ++ flat r
def flen : List SG → Nat
  | [] => 0
  | .i _ l :: r => l.length + flen r
  | .c _ :: r => 1 + flen r
  | .r p :: r => p.length + flen r
theorem flat_len : ∀ s : List SG, (flat s).length = flen s
  | [] => rfl
  | .i k l :: r => by simp [flat, flen, SG.cells, length_ik, flat_len r]
  | .c x :: r => by simp [flat, flen, SG.cells, flat_len r]; omega
  | .r p :: r => by simp [flat, flen, SG.cells, flat_len r]
theorem flat_append : ∀ a b : List SG, flat (a ++ b) = flat a ++ flat b
  | [], b => rfl
  | s :: r, b => by simp [flat, flat_append r b]
theorem flen_append (a b : List SG) : flen (a ++ b) = flen a + flen b := by rw [← flat_len, flat_append, List.length_append, flat_len, flat_len]
/-- the j-th segment -/
def sgAt : List SG → Nat → Option SG
  | [], _ => none
  | s :: _, 0 => some s
  | _ :: r, j + 1 => sgAt r j
/-- another one there -/
def sgSet : List SG → Nat → SG → Option (List SG)
  | [], _, _ => none
  | _ :: r, 0, s => some (s :: r)
  | x :: r, j + 1, s => match sgSet r j s with | some r' => some (x :: r') | none => none
/-- how many cells stand ahead of it -/
def sgPos : List SG → Nat → Nat
  | _, 0 => 0
  | [], _ => 0
  | .i _ l :: r, j + 1 => l.length + sgPos r j
  | .c _ :: r, j + 1 => 1 + sgPos r j
  | .r p :: r, j + 1 => p.length + sgPos r j
theorem sg_split : ∀ (g : List SG) (j : Nat) (s : SG), sgAt g j = some s → ∃ a b, g = a ++ s :: b ∧ flen a = sgPos g j ∧ ∀ s', sgSet g j s' = some (a ++ s' :: b)
  | [], _, _, h => by cases h
  | x :: r, 0, s, h => by cases h; exact ⟨[], r, rfl, rfl, fun _ => rfl⟩
  | x :: r, j + 1, s, h => by
    obtain ⟨a, b, h1, h2, h3⟩ := sg_split r j s h
    refine ⟨x :: a, b, by rw [h1]; rfl, ?_, fun s' => by simp only [sgSet, h3 s']; rfl⟩
    cases x <;> simp only [flen, sgPos, h2]

theorem flat_mid (a b : List SG) (s : SG) : flat (a ++ s :: b) = flat a ++ (s.cells ++ flat b) := by rw [flat_append]; rfl
theorem flat_ld {a b : List SG} {k : IntKind} {l : List Int} {q : Nat} {v : Int} {d : C} (hx : l[q]? = some v) :
    (flat (a ++ .i k l :: b)).getD (flen a + q) d = .v (.int k v) ∧ flen a + q < (flat (a ++ .i k l :: b)).length := by
  have hq : q < l.length := (List.getElem?_eq_some_iff.1 hx).1
  rw [flat_mid]
  refine ⟨?_, by simp only [List.length_append, flat_len, SG.cells, length_ik]; omega⟩
  rw [List.getD_eq_getElem?_getD, List.getElem?_append_right (by rw [flat_len]; omega), flat_len, Nat.add_sub_cancel_left, List.getElem?_append_left (by simp only [SG.cells, length_ik]; exact hq)]
  simp [SG.cells, ik, hx]
theorem flat_ldc {a b : List SG} {x d : C} : (flat (a ++ .c x :: b)).getD (flen a) d = x ∧ flen a < (flat (a ++ .c x :: b)).length := by
  rw [flat_mid]
  refine ⟨?_, by simp only [List.length_append, flat_len, SG.cells, List.length_singleton]; omega⟩
  rw [List.getD_eq_getElem?_getD, List.getElem?_append_right (by rw [flat_len]; omega), flat_len, Nat.sub_self]
  simp [SG.cells]
theorem flat_st {a b : List SG} {k : IntKind} {l : List Int} {q : Nat} {v : Int} (hq : q < l.length) :
    (flat (a ++ .i k l :: b)).set (flen a + q) (.v (.int k v)) = flat (a ++ .i k (l.set q v) :: b) := by
  rw [flat_mid, flat_mid, ← flat_len, List.set_append_right _ _ (by omega), Nat.add_sub_cancel_left, List.set_append_left _ _ (by simp only [SG.cells, length_ik]; exact hq)]
  simp [SG.cells, ik, List.map_set]
theorem flat_stc {a b : List SG} {x y : C} : (flat (a ++ .c x :: b)).set (flen a) y = flat (a ++ .c y :: b) := by
  rw [flat_mid, flat_mid, ← flat_len, List.set_append_right _ _ (by omega), Nat.sub_self]
  simp [SG.cells]
theorem flat_cut {a m b : List SG} : cut (flat (a ++ (m ++ b))) (flen a) (flen m) = flat m := by
  unfold cut; rw [flat_append, flat_append, ← flat_len a, List.drop_left, ← flat_len m, List.take_left]
theorem flat_splice {a m m' b : List SG} (h : flen m = flen m') : splice (flat (a ++ (m ++ b))) (flen a) (flat m') = flat (a ++ (m' ++ b)) := by
  unfold splice
  rw [flat_append, flat_append, ← flat_len a, List.take_left, flat_len m', ← h, ← flat_len m, flat_append, flat_append]
  rw [← List.append_assoc (flat a) (flat m) (flat b), ← List.length_append, List.drop_left, List.append_assoc]
def sgScal : List SG → Bool
  | [] => true
  | .i _ _ :: r => sgScal r
  | .c x :: r => x.scal && sgScal r
  | .r _ :: _ => false
theorem sgScal_ok : ∀ {g : List SG}, sgScal g = true → (flat g).all C.scal = true
  | [], _ => rfl
  | .i k l :: r, h => by simp only [flat, SG.cells, List.all_append, scal_ik, sgScal_ok (g := r) h, Bool.and_self]
  | .c x :: r, h => by
    simp only [sgScal, Bool.and_eq_true] at h
    simp only [flat, SG.cells, List.all_append, List.all_cons, List.all_nil, h.1, Bool.and_true, sgScal_ok h.2]
  | .r p :: r, h => by cases h
/-! the heap, set: reckoned out -/
def setF : List Blk → Nat → List C → Option (List Blk)
  | [], _, _ => none
  | ⟨i, b, t, r, f, d, c⟩ :: l, id, cs => cond (Nat.beq i id) (some (⟨i, b, t, r, f, d, cs⟩ :: l)) (match setF l id cs with | some l' => some (⟨i, b, t, r, f, d, c⟩ :: l') | none => none)
theorem setF_ok : ∀ {hp : List Blk} {id : Nat} {cs : List C} {hp' : List Blk}, setF hp id cs = some hp' → setB hp id cs = hp'
  | [], _, _, _, h => by cases h
  | ⟨i, b, t, r, f, d, c⟩ :: l, id, cs, hp', h => by
    simp only [setF] at h
    simp only [setB]
    by_cases hi : i = id
    · subst hi; simp only [Nat.beq_refl, cond_true, Option.some.injEq] at h; simp [h]
    · have hb : Nat.beq i id = false := by cases hb : Nat.beq i id with | false => rfl | true => exact absurd (Nat.eq_of_beq_eq_true hb) hi
      simp only [hb, cond_false] at h
      rw [if_neg hi]
      split at h
      · rename_i l' hl; cases h; rw [setF_ok hl]
      · cases h

section
variable {P : Program} {F : Frm} {n : Nat} {pv : List Blk} {Q : St → Prop} {K : EK} {t t' : GT} {sl : List (Nat × SV)} {hp hp' : List Blk} {nx sz : Nat} {d : Nat} {dd : Option Nat} {x y : A}
variable {id id' b o ty ln cp : Nat} {ro : Bool} {fr : Nat × Nat} {dc : C} {g g' : List SG} {kd : IntKind} {l m : List Int} {v z : Int} {u : SV} {pc : Prop} {ρ : Type} {r : ρ} {j q : Nat} {cs : List C}

/-! values of slots -/
theorem d_nf {i : IS} {w : Int} (hi : i.val sl = some (ib kd v, pc)) (hpc : pc) (hx : v = w) (hK : wpI P F n pv Q t ⟨(d, ib kd w) :: sl, hp, nx, sz⟩) : wpI P F n pv Q (.cons ⟨none, .s d i⟩ t) ⟨sl, hp, nx, sz⟩ :=
  wpI_s hi hpc (by rw [hx]; exact hK)
theorem d_n {i : IS} {kk : Int → Option ρ} (hi : i.val sl = some (ib kd v, pc)) (hpc : pc) (h : nm v kk = some r) (hK : ∀ w, kk w = some r → wpI P F n pv Q t ⟨(d, ib kd w) :: sl, hp, nx, sz⟩) : wpI P F n pv Q (.cons ⟨none, .s d i⟩ t) ⟨sl, hp, nx, sz⟩ :=
  wpI_s hi hpc (hK v h)
theorem d_bf {i : IS} {c w : Bool} (hi : i.val sl = some (bb c, pc)) (hpc : pc) (hx : c = w) (hK : wpI P F n pv Q t ⟨(d, bb w) :: sl, hp, nx, sz⟩) : wpI P F n pv Q (.cons ⟨none, .s d i⟩ t) ⟨sl, hp, nx, sz⟩ :=
  wpI_s hi hpc (by rw [hx]; exact hK)
theorem d_b {i : IS} {c : Bool} {kk : Bool → Option ρ} (hi : i.val sl = some (bb c, pc)) (hpc : pc) (h : nm c kk = some r) (hK : ∀ w, kk w = some r → wpI P F n pv Q t ⟨(d, bb w) :: sl, hp, nx, sz⟩) : wpI P F n pv Q (.cons ⟨none, .s d i⟩ t) ⟨sl, hp, nx, sz⟩ :=
  wpI_s hi hpc (hK c h)
theorem d_pickT {a : SV} {xc xa xb : A} {bv : SV} (h1 : xc.ev sl = some (bb true)) (h2 : xa.ev sl = some a) (h3 : xb.ev sl = some bv) (hK : wpI P F n pv Q t ⟨(d, a) :: sl, hp, nx, sz⟩) : wpI P F n pv Q (.cons ⟨none, .s d (.pick xc xa xb)⟩ t) ⟨sl, hp, nx, sz⟩ := by
  have h1' : xc.ev sl = some (.c (.v (.bool true))) := h1
  refine wpI_s (u := a) (pc := True) ?_ trivial hK
  simp only [IS.val, h1', h2, h3, if_true]
theorem d_pickF {a : SV} {xc xa xb : A} {bv : SV} (h1 : xc.ev sl = some (bb false)) (h2 : xa.ev sl = some a) (h3 : xb.ev sl = some bv) (hK : wpI P F n pv Q t ⟨(d, bv) :: sl, hp, nx, sz⟩) : wpI P F n pv Q (.cons ⟨none, .s d (.pick xc xa xb)⟩ t) ⟨sl, hp, nx, sz⟩ := by
  have h1' : xc.ev sl = some (.c (.v (.bool false))) := h1
  refine wpI_s (u := bv) (pc := True) ?_ trivial hK
  simp only [IS.val, h1', h2, h3, Bool.false_eq_true, if_false]

/-! guards and conditions -/
theorem d_guard {i : I} {tt : Nat} {bv c : Bool} {A B : Option ρ} (hs : getS sl tt = some (bb c)) (h : cond (c == bv) A B = some r)
    (h1 : A = some r → wpI P F n pv Q (.cons ⟨none, i⟩ t) ⟨(tt, bb bv) :: sl, hp, nx, sz⟩) (h2 : B = some r → wpI P F n pv Q t ⟨putL i.dst (.c (.v undef)) ((tt, bb (!bv)) :: sl), hp, nx, sz⟩) :
    wpI P F n pv Q (.cons ⟨some (tt, bv), i⟩ t) ⟨sl, hp, nx, sz⟩ :=
  wpI_guard hs (fun e => h1 (by subst e; simpa using h)) (fun e => h2 (by have : (c == bv) = false := by simpa using e
                                                                          rw [this] at h; exact h))
theorem d_guardT {i : I} {tt : Nat} {bv : Bool} (hs : getS sl tt = some (bb bv)) (h1 : wpI P F n pv Q (.cons ⟨none, i⟩ t) ⟨(tt, bb bv) :: sl, hp, nx, sz⟩) :
    wpI P F n pv Q (.cons ⟨some (tt, bv), i⟩ t) ⟨sl, hp, nx, sz⟩ := wpI_guard hs (fun _ => h1) (fun e => absurd rfl e)
theorem d_guardF {i : I} {tt : Nat} {bv c : Bool} (hs : getS sl tt = some (bb c)) (hc : (c == bv) = false) (h1 : wpI P F n pv Q t ⟨putL i.dst (.c (.v undef)) ((tt, bb (!bv)) :: sl), hp, nx, sz⟩) :
    wpI P F n pv Q (.cons ⟨some (tt, bv), i⟩ t) ⟨sl, hp, nx, sz⟩ := wpI_guard hs (fun e => by subst e; simp at hc) (fun _ => h1)
theorem d_cond {c c' : IC} {bv : Bool} {A B : Option ρ} (hb : x.ev sl = some (bb bv)) (h : cond bv A B = some r) (h1 : A = some r → wpC P F n c K ⟨sl, hp, nx, sz⟩) (h2 : B = some r → wpC P F n c' K ⟨sl, hp, nx, sz⟩) :
    wpC P F n (.cond x c c') K ⟨sl, hp, nx, sz⟩ :=
  wpC_cond hb (fun e => h1 (by subst e; exact h)) (fun e => h2 (by subst e; exact h))

/-! memory -/
def sgCutO : List SG → Nat → Nat → Option (List SG)
  | g, 0, m => tkO g m
  | [], _ + 1, _ => none
  | _ :: r, j + 1, m => sgCutO r j m
 where
  tkO : List SG → Nat → Option (List SG)
  | _, 0 => some []
  | [], _ + 1 => none
  | s :: r, m + 1 => match tkO r m with | some r' => some (s :: r') | none => none
theorem tkO_ok : ∀ {g : List SG} {m : Nat} {g' : List SG}, sgCutO.tkO g m = some g' → ∃ b, g = g' ++ b ∧ g'.length = m
  | g, 0, g', h => by cases g <;> (simp only [sgCutO.tkO, Option.some.injEq] at h; subst h; exact ⟨_, rfl, rfl⟩)
  | [], m + 1, g', h => by cases h
  | s :: r, m + 1, g', h => by
    simp only [sgCutO.tkO] at h
    split at h
    · rename_i r' hr; cases h
      obtain ⟨b, h1, h2⟩ := tkO_ok hr
      exact ⟨b, by rw [h1]; rfl, by simp [h2]⟩
    · cases h
theorem sgCutO_ok : ∀ {g : List SG} {j m : Nat} {g' : List SG}, sgCutO g j m = some g' → ∃ a b, g = a ++ (g' ++ b) ∧ flen a = sgPos g j
  | g, 0, m, g', h => by
    have h' : sgCutO.tkO g m = some g' := by cases g <;> exact h
    obtain ⟨b, h1, _⟩ := tkO_ok h'
    exact ⟨[], b, h1, by cases g <;> rfl⟩
  | [], j + 1, m, g', h => by cases h
  | x :: r, j + 1, m, g', h => by
    obtain ⟨a, b, h1, h2⟩ := sgCutO_ok (g := r) h
    refine ⟨x :: a, b, by rw [h1]; rfl, ?_⟩
    cases x <;> simp only [flen, sgPos, h2]
/-- put m in the place of the segments from the j-th on: those that were there, and all behind -/
def sgPutO : List SG → Nat → List SG → Option (List SG × List SG)
  | g, 0, m => ov g m
  | [], _ + 1, _ => none
  | x :: r, j + 1, m => match sgPutO r j m with | some (o, r') => some (o, x :: r') | none => none
 where
  ov : List SG → List SG → Option (List SG × List SG)
  | g, [] => some ([], g)
  | [], _ :: _ => none
  | x :: r, s :: m => match ov r m with | some (o, r') => some (x :: o, s :: r') | none => none
theorem ovO_ok : ∀ {g m o g' : List SG}, sgPutO.ov g m = some (o, g') → ∃ b, g = o ++ b ∧ g' = m ++ b
  | g, [], o, g', h => by cases g <;> (simp only [sgPutO.ov, Option.some.injEq, Prod.mk.injEq] at h; obtain ⟨rfl, rfl⟩ := h; exact ⟨_, rfl, rfl⟩)
  | [], _ :: _, o, g', h => by cases h
  | x :: r, s :: m, o, g', h => by
    simp only [sgPutO.ov] at h
    split at h
    · rename_i o' r' hr; cases h
      obtain ⟨b, h1, h2⟩ := ovO_ok hr
      exact ⟨b, by rw [h1]; rfl, by rw [h2]; rfl⟩
    · cases h
theorem sgPutO_ok : ∀ {g : List SG} {j : Nat} {m o g' : List SG}, sgPutO g j m = some (o, g') → ∃ a b, g = a ++ (o ++ b) ∧ flen a = sgPos g j ∧ g' = a ++ (m ++ b)
  | g, 0, m, o, g', h => by
    have h' : sgPutO.ov g m = some (o, g') := by cases g <;> exact h
    obtain ⟨b, h1, h2⟩ := ovO_ok h'
    exact ⟨[], b, h1, by cases g <;> rfl, h2⟩
  | [], j + 1, m, o, g', h => by cases h
  | x :: r, j + 1, m, o, g', h => by
    simp only [sgPutO] at h
    split at h
    · rename_i o' r' hr; cases h
      obtain ⟨a, b, h1, h2, h3⟩ := sgPutO_ok hr
      refine ⟨x :: a, b, by rw [h1]; rfl, ?_, by rw [h3]; rfl⟩
      cases x <;> simp only [flen, sgPos, h2]
    · cases h

theorem d_ldf (j : Nat) (h1 : x.ev sl = some (.c (.p id b o))) (h2 : getB hp id = some ⟨id', b, ty, ro, fr, dc, flat g⟩) (h3 : sgAt g j = some (.i kd l)) (h4 : sgPos g j + q = o) (hx : l[q]? = some v)
    (hK : wpI P F n pv Q t ⟨(d, ib kd v) :: sl, hp, nx, sz⟩) : wpI P F n pv Q (.cons ⟨none, .r d (.ld (.int kd z) x)⟩ t) ⟨sl, hp, nx, sz⟩ := by
  obtain ⟨A, B, e1, e2, _⟩ := sg_split g j _ h3
  obtain ⟨e3, e4⟩ := flat_ld (a := A) (b := B) (k := kd) (d := dc) hx
  rw [← e1] at e3 e4
  rw [e2, h4] at e3 e4
  simp only [wpI, wpG, wpS, IR.val, h1, h2, e3, hint, hintP, isK, C.toI]
  exact ⟨⟨trivial, e4, trivial⟩, hK⟩
theorem d_ld (j : Nat) {kk : Int → Option ρ} (h1 : x.ev sl = some (.c (.p id b o))) (h2 : getB hp id = some ⟨id', b, ty, ro, fr, dc, flat g⟩) (h3 : sgAt g j = some (.i kd l)) (h : (l[q]?).bind kk = some r) (h4 : sgPos g j + q = o)
    (hK : ∀ w, kk w = some r → wpI P F n pv Q t ⟨(d, ib kd w) :: sl, hp, nx, sz⟩) : wpI P F n pv Q (.cons ⟨none, .r d (.ld (.int kd z) x)⟩ t) ⟨sl, hp, nx, sz⟩ :=
  bind_e h fun w hw h => d_ldf j h1 h2 h3 h4 hw (hK w h)
theorem d_ldc (j : Nat) {hv : Value} {y : C} (h1 : x.ev sl = some (.c (.p id b o))) (h2 : getB hp id = some ⟨id', b, ty, ro, fr, dc, flat g⟩) (h3 : sgAt g j = some (.c y)) (h4 : sgPos g j = o) (hh : hintP hv y)
    (hK : wpI P F n pv Q t ⟨(d, .c y) :: sl, hp, nx, sz⟩) : wpI P F n pv Q (.cons ⟨none, .r d (.ld hv x)⟩ t) ⟨sl, hp, nx, sz⟩ := by
  obtain ⟨A, B, e1, e2, _⟩ := sg_split g j _ h3
  obtain ⟨e3, e4⟩ := flat_ldc (a := A) (b := B) (x := y) (d := dc)
  rw [← e1] at e3 e4
  rw [e2, h4] at e3 e4
  simp only [wpI, wpG, wpS, IR.val, h1, h2, e3, hint_eq hh]
  exact ⟨⟨trivial, e4, hh⟩, hK⟩
theorem d_lda (j M : Nat) {N : Nat} (h1 : x.ev sl = some (.c (.p id b o))) (h2 : getB hp id = some ⟨id', b, ty, ro, fr, dc, flat g⟩) (h3 : sgCutO g j M = some g') (h4 : sgPos g j = o) (h5 : flen g' = N)
    (hK : wpI P F n pv Q t ⟨(d, .g (flat g')) :: sl, hp, nx, sz⟩) : wpI P F n pv Q (.cons ⟨none, .r d (.lda N x)⟩ t) ⟨sl, hp, nx, sz⟩ := by
  obtain ⟨A, B, e1, e2⟩ := sgCutO_ok h3
  subst h5
  have e3 := flat_cut (a := A) (m := g') (b := B)
  rw [← e1, e2, h4] at e3
  simp only [wpI, wpG, wpS, IR.val, h1, h2, e3]
  exact ⟨⟨trivial, by rw [e1, flat_len, flen_append, flen_append, e2, h4]; omega⟩, hK⟩
theorem d_qlda (j M : Nat) {N : Nat} (h1 : x.ev sl = some (.c (.p id b o))) (h2 : getB pv id = some ⟨id', b, ty, ro, fr, dc, flat g⟩) (h3 : sgCutO g j M = some g') (h4 : sgPos g j = o) (h5 : flen g' = N)
    (hK : wpI P F n pv Q t ⟨(d, .g (flat g')) :: sl, hp, nx, sz⟩) : wpI P F n pv Q (.cons ⟨none, .q d (.lda N x)⟩ t) ⟨sl, hp, nx, sz⟩ := by
  obtain ⟨A, B, e1, e2⟩ := sgCutO_ok h3
  subst h5
  have e3 := flat_cut (a := A) (m := g') (b := B)
  rw [← e1, e2, h4] at e3
  simp only [wpI, wpG, wpS, IR.val, h1, h2, e3]
  exact ⟨⟨trivial, by rw [e1, flat_len, flen_append, flen_append, e2, h4]; omega⟩, hK⟩

theorem d_stf (j : Nat) {l' : List Int} (h1 : x.ev sl = some (.c (.p id b o))) (hy : y.ev sl = some (ib kd v)) (h2 : getB hp id = some ⟨id', b, ty, false, (0, 0), dc, flat g⟩) (h3 : sgAt g j = some (.i kd l)) (h4 : sgPos g j + q = o) (hx : upd l q v = some l')
    (hg : sgSet g j (.i kd l') = some g') (hs : setF hp id (flat g') = some hp') (hpin : Pin pv hp') (hK : wpI P F n pv Q t ⟨sl, hp', nx, sz⟩) : wpI P F n pv Q (.cons ⟨none, .w none (.st x y)⟩ t) ⟨sl, hp, nx, sz⟩ := by
  obtain ⟨A, B, e1, e2, e3⟩ := sg_split g j _ h3
  unfold upd at hx
  split at hx <;> simp only [Option.some.injEq, reduceCtorEq] at hx
  rename_i hq
  subst hx
  have hy' : y.ev sl = some (.c (.v (.int kd v))) := hy
  have e4 := flat_st (a := A) (b := B) (k := kd) (v := v) hq
  rw [e3, Option.some.injEq] at hg
  rw [← e1, e2, h4, hg] at e4
  have e5 : o < (flat g).length := by rw [e1, flat_len, flen_append, e2, ← h4]; simp only [flen]; omega
  simp only [wpI, wpG, wpS, IW.run, h1, hy', isCell, C.scal, if_true, h2, e4, setF_ok hs]
  exact ⟨⟨trivial, e5, trivial, trivial⟩, hpin, hK⟩
theorem d_st (j : Nat) {kk : List Int → Option ρ} {G : List Int → List SG} {H : List Int → List Blk} (h1 : x.ev sl = some (.c (.p id b o))) (hy : y.ev sl = some (ib kd v)) (h2 : getB hp id = some ⟨id', b, ty, false, (0, 0), dc, flat g⟩) (h3 : sgAt g j = some (.i kd l)) (h : (upd l q v).bind kk = some r) (h4 : sgPos g j + q = o)
    (hg : ∀ l', sgSet g j (.i kd l') = some (G l')) (hs : ∀ l', setF hp id (flat (G l')) = some (H l')) (hpin : ∀ l', Pin pv (H l')) (hK : ∀ l', l'.length = l.length → kk l' = some r → wpI P F n pv Q t ⟨sl, H l', nx, sz⟩) : wpI P F n pv Q (.cons ⟨none, .w none (.st x y)⟩ t) ⟨sl, hp, nx, sz⟩ :=
  bind_e h fun w hw h => d_stf j h1 hy h2 h3 h4 hw (hg w) (hs w) (hpin w) (hK w (upd_len hw) h)
theorem d_stc (j : Nat) {y0 w : C} (h1 : x.ev sl = some (.c (.p id b o))) (hy : y.ev sl = some (.c w)) (hw : w.scal = true) (h2 : getB hp id = some ⟨id', b, ty, false, (0, 0), dc, flat g⟩) (h3 : sgAt g j = some (.c y0)) (h4 : sgPos g j = o)
    (hg : sgSet g j (.c w) = some g') (hs : setF hp id (flat g') = some hp') (hpin : Pin pv hp') (hK : wpI P F n pv Q t ⟨sl, hp', nx, sz⟩) : wpI P F n pv Q (.cons ⟨none, .w none (.st x y)⟩ t) ⟨sl, hp, nx, sz⟩ := by
  obtain ⟨A, B, e1, e2, e3⟩ := sg_split g j _ h3
  have e4 := flat_stc (a := A) (b := B) (x := y0) (y := w)
  rw [e3, Option.some.injEq] at hg
  rw [← e1, e2, h4, hg] at e4
  have e5 : o < (flat g).length := by rw [e1, flat_len, flen_append, e2, ← h4]; simp only [flen]; omega
  simp only [wpI, wpG, wpS, IW.run, h1, hy, isCell, hw, if_true, h2, e4, setF_ok hs]
  exact ⟨⟨trivial, e5, trivial, trivial⟩, hpin, hK⟩
theorem d_sta (j : Nat) {N : Nat} {m o' : List SG} (h1 : x.ev sl = some (.c (.p id b o))) (hy : y.ev sl = some (.g (flat m))) (h2 : getB hp id = some ⟨id', b, ty, false, (0, 0), dc, flat g⟩) (h3 : sgPutO g j m = some (o', g')) (h4 : sgPos g j = o) (h5 : flen m = N) (h6 : flen o' = N) (h7 : sgScal m = true)
    (hs : setF hp id (flat g') = some hp') (hpin : Pin pv hp') (hK : wpI P F n pv Q t ⟨sl, hp', nx, sz⟩) : wpI P F n pv Q (.cons ⟨none, .w none (.sta N x y)⟩ t) ⟨sl, hp, nx, sz⟩ := by
  obtain ⟨A, B, e1, e2, e3⟩ := sgPutO_ok h3
  have e4 := flat_splice (a := A) (m := o') (m' := m) (b := B) (by rw [h5, h6])
  rw [← e1, ← e3, e2, h4] at e4
  have e5 : o + N ≤ (flat g).length := by rw [e1, flat_len, flen_append, flen_append, e2, ← h4]; omega
  simp only [wpI, wpG, wpS, IW.run, h1, hy, h2, e4, setF_ok hs]
  exact ⟨⟨trivial, by rw [flat_len, h5], e5, trivial, trivial, sgScal_ok h7⟩, hpin, hK⟩

/-- memory that is new -/
theorem d_alo {dz : Value} {zs : List Value} (hz : zs.map C.v = flat g) (hpin : ∀ b, Pin pv (⟨nx, b, ty, false, (0, 0), .v dz, flat g⟩ :: hp))
    (hK : ∀ b z, wpI P F n pv Q t ⟨(d, .c (.p nx b 0)) :: sl, ⟨nx, b, ty, false, (0, 0), .v dz, flat g⟩ :: hp, nx + 1, z⟩) : wpI P F n pv Q (.cons ⟨none, .w (some d) (.alo ty dz zs)⟩ t) ⟨sl, hp, nx, sz⟩ := by
  refine wpI_new (cs := flat g) (pc := True) ?_ trivial (hpin sz) (hK sz _)
  simp only [IW.run, hz]
theorem flat_one (kd : IntKind) (l : List Int) : flat [.i kd l] = ik kd l := by simp [flat, SG.cells]
theorem zeros_flat (kd : IntKind) (N : Nat) (z : Int) : (List.replicate N (Value.int kd z)).map C.v = flat [.i kd (List.replicate N z)] := by rw [flat_one, map_v_rep, rep_ik]
theorem d_box {N : Nat} {dz : Value} (hx : x.ev sl = some (.g (flat g))) (hpin : ∀ b, Pin pv (⟨nx, b, ty, false, (0, 0), dc, flat g⟩ :: hp)) (hdz : dc = .v dz)
    (hK : ∀ b z, wpI P F n pv Q t ⟨(d, .c (.p nx b 0)) :: sl, ⟨nx, b, ty, false, (0, 0), dc, flat g⟩ :: hp, nx + 1, z⟩) : wpI P F n pv Q (.cons ⟨none, .w (some d) (.box ty N dz x)⟩ t) ⟨sl, hp, nx, sz⟩ := by
  subst hdz
  refine wpI_new (cs := flat g) (pc := True) ?_ trivial (hpin sz) (hK sz _)
  simp only [IW.run, hx, SV.cells?]
theorem d_bsl {N : Nat} {dz : Value} {zs : List Value} {ps : List (Nat × Nat × A)} (hf : fillL sl ps (zs.map .v) = some (flat g)) (hpin : ∀ b, Pin pv (⟨nx, b, ty, false, (0, 0), .v dz, flat g⟩ :: hp))
    (hK : ∀ b z, wpI P F n pv Q t ⟨(d, .c (.s nx b 0 N N)) :: sl, ⟨nx, b, ty, false, (0, 0), .v dz, flat g⟩ :: hp, nx + 1, z⟩) : wpI P F n pv Q (.cons ⟨none, .w (some d) (.bsl ty dz zs N ps)⟩ t) ⟨sl, hp, nx, sz⟩ := by
  refine wpI_new (cs := flat g) (pc := True) ?_ trivial (hpin sz) (hK sz _)
  simp only [IW.run, hf]
theorem d_mks {bytes : Nat} {k1 k2 : IntKind} (h1 : x.ev sl = some (ib k1 v)) (h2 : y.ev sl = some (ib k2 v)) (hg : 0 ≤ v ∧ bytes * v ≤ 281474976710656 ∧ v ≤ 9223372036854775807) (hpin : ∀ b, Pin pv (⟨nx, b, ty, false, (0, 0), .v (.int kd z), flat [.i kd (List.replicate v.toNat z)]⟩ :: hp))
    (hK : ∀ b w, wpI P F n pv Q t ⟨(d, .c (.s nx b 0 v.toNat v.toNat)) :: sl, ⟨nx, b, ty, false, (0, 0), .v (.int kd z), flat [.i kd (List.replicate v.toNat z)]⟩ :: hp, nx + 1, w⟩) : wpI P F n pv Q (.cons ⟨none, .w (some d) (.mks ty bytes (.int kd z) x y)⟩ t) ⟨sl, hp, nx, sz⟩ := by
  have h1' : x.ev sl = some (.c (.v (.int k1 v))) := h1
  have h2' : y.ev sl = some (.c (.v (.int k2 v))) := h2
  refine wpI_new (cs := flat [.i kd (List.replicate v.toNat z)]) (pc := 0 ≤ v ∧ v ≤ v ∧ bytes * v ≤ 281474976710656 ∧ v ≤ 9223372036854775807) ?_ ⟨hg.1, Int.le_refl _, hg.2⟩ (hpin sz) (hK sz _)
  simp only [IW.run, h1', h2', flat_one, rep_ik]
end
end Go.EV

/- Rules for walks: small words, aggregates, copies. -/
import Derived.Test.YthgbffnahanfhaaEvD3
set_option linter.unusedVariables false
set_option linter.unusedSimpArgs false
namespace Go.EV
open Go
def iand (k : IntKind) (a b : Int) : Int := k.wrap (BitVec.ofInt k.bits a &&& BitVec.ofInt k.bits b).toNat
def ior (k : IntKind) (a b : Int) : Int := k.wrap (BitVec.ofInt k.bits a ||| BitVec.ofInt k.bits b).toNat
def ixor (k : IntKind) (a b : Int) : Int := k.wrap (BitVec.ofInt k.bits a ^^^ BitVec.ofInt k.bits b).toNat
def ishl (k : IntKind) (a b : Int) : Int := k.wrap (a * 2 ^ (min b.toNat k.bits))
def ishr (_k : IntKind) (a b : Int) : Int := a.fdiv (2 ^ (min b.toNat _k.bits))
/-- bytes as a string -/
def mkS (l : List Int) : ByteArray := ⟨(l.map fun (n : Int) => UInt8.ofNat n.toNat).toArray⟩

theorem leS2_n {s : List (Nat × SV)} : leS2 s [] := trivial
theorem leS2_c {s r : List (Nat × SV)} {t : Nat} {v v' : SV} (h : getS s t = some v') (hd : v'.den = v.den) (hr : leS2 s r) : leS2 s ((t, v) :: r) := ⟨⟨v', h, hd⟩, hr⟩
theorem leH2_n {hp : List Blk} : leH2 hp [] [] := trivial
theorem leH2_c {hp : List Blk} {i : Nat} {is : List Nat} {b k : Blk} {l : List Blk} (h : getB hp i = some k) (h1 : k.blk = b.blk) (h2 : k.ty = b.ty) (h3 : k.ro = b.ro) (h4 : k.fr = b.fr) (h5 : k.cs.map C.den = b.cs.map C.den) (hr : leH2 hp is l) : leH2 hp (i :: is) (b :: l) :=
  ⟨⟨k, h, h1, h2, h3, h4, h5⟩, hr⟩
theorem pin_c {hp r : List Blk} {k b : Blk} (h : getB hp k.id = some b) (h1 : b.blk = k.blk) (h2 : b.ty = k.ty) (h3 : b.fr = k.fr) (h4 : b.cs = k.cs) (hr : Pin r hp) : Pin (k :: r) hp := by
  refine ⟨?_, hr⟩
  rw [h]; exact ⟨h1, h2, h3, h4⟩
theorem hs_zero {p o ln : Nat} (h : 0 < ln → p = o) : 0 < ln → p + 0 = o := h
theorem den_s {i i' b o ln ln' c : Nat} (h : ln = ln') : (SV.c (.s i b o ln c)).den = (SV.c (.s i' b o ln' c)).den := by subst h; rfl
theorem sl_offP0 {p p' o ln : Nat} {i : Int} (e : p' = p) (hS : 0 < ln → p = o) (hg : 0 ≤ i ∧ i < (ln : Int)) : p' + i.toNat = o + i.toNat * 1 := by
  have := hS (by omega); omega
theorem ar_offi {p o : Nat} (i : Int) (h : p = o) : p + i.toNat = o + i.toNat * 1 := by omega

def haveIds : List Nat → List Nat → Bool
  | [], _ => true
  | i :: r, ro => nin i r && nin i ro && haveIds r ro
theorem haveRw_n {hp : List Blk} : HaveRw hp [] := trivial
theorem haveRw_c {hp r : List Blk} {i i' b t : Nat} {f : Nat × Nat} {d d' : C} {c : List C} {ro : Bool} (h : getB hp i = some ⟨i', b, t, false, f, d', c⟩) (hr : HaveRw hp r) : HaveRw hp (⟨i, b, t, ro, f, d, c⟩ :: r) := ⟨⟨_, h, rfl, rfl, rfl, rfl, rfl⟩, hr⟩
theorem haveRo_n {hp : List Blk} : HaveRo hp [] := trivial
theorem haveRo_c {hp r : List Blk} {i i' b t : Nat} {f : Nat × Nat} {d d' : C} {c c' : List C} {ro ro' : Bool} (h : getB hp i = some ⟨i', b, t, ro', f, d', c'⟩) (hc : c' = c) (hr : HaveRo hp r) : HaveRo hp (⟨i, b, t, ro, f, d, c⟩ :: r) := ⟨⟨_, h, rfl, rfl, rfl, hc⟩, hr⟩
theorem noId_of {i : Nat} : ∀ {l : List Blk}, nin i (l.map (·.id)) = true → NoId i l
  | [], _ => trivial
  | b :: l, h => by
    simp only [List.map_cons, nin, Bool.and_eq_true, Bool.not_eq_true'] at h
    refine ⟨fun e => ?_, noId_of h.2⟩
    rw [e] at h; simp at h
theorem own_of : ∀ {rw ro : List Blk}, haveIds (rw.map (·.id)) (ro.map (·.id)) = true → OwnIds rw ro
  | [], ro, _ => trivial
  | b :: r, ro, h => by
    simp only [List.map_cons, haveIds, Bool.and_eq_true] at h
    exact ⟨noId_of h.1.1, noId_of h.1.2, own_of h.2⟩

/-! a contract, its blocks under other numbers -/
def BlkEq : List Blk → List Blk → Prop
  | [], [] => True
  | b :: l, k :: r => (b.blk = k.blk ∧ b.ty = k.ty ∧ b.fr = k.fr ∧ b.cs.map C.den = k.cs.map C.den) ∧ BlkEq l r
  | _, _ => False
theorem blkEq_n : BlkEq [] [] := trivial
theorem blkEq_c {b k : Blk} {l r : List Blk} (h1 : b.blk = k.blk) (h2 : b.ty = k.ty) (h3 : b.fr = k.fr) (h4 : b.cs.map C.den = k.cs.map C.den) (hr : BlkEq l r) : BlkEq (b :: l) (k :: r) := ⟨⟨h1, h2, h3, h4⟩, hr⟩
theorem blkEq_HpL {w : World} : ∀ {l r : List Blk}, BlkEq l r → (HpL r w → HpL l w)
  | [], [], _, h => h
  | b :: l, k :: r, ⟨⟨h1, h2, h3, h4⟩, hr⟩, h => ⟨by rw [h1, h2, h3, h4]; exact h.1, blkEq_HpL hr h.2⟩
  | [], _ :: _, h, _ => h.elim
  | _ :: _, [], h, _ => h.elim
theorem blkEq_symm : ∀ {l r : List Blk}, BlkEq l r → BlkEq r l
  | [], [], _ => trivial
  | b :: l, k :: r, ⟨⟨h1, h2, h3, h4⟩, hr⟩ => ⟨⟨h1.symm, h2.symm, h3.symm, h4.symm⟩, blkEq_symm hr⟩
  | [], _ :: _, h => h.elim
  | _ :: _, [], h => h.elim
theorem blkEq_blk : ∀ {l r : List Blk}, BlkEq l r → l.map (·.blk) = r.map (·.blk)
  | [], [], _ => rfl
  | b :: l, k :: r, ⟨⟨h1, _⟩, hr⟩ => by simp only [List.map_cons, h1, blkEq_blk hr]
  | [], _ :: _, h => h.elim
  | _ :: _, [], h => h.elim
theorem notIn_map {n : Nat} {l r : List Blk} (h : l.map (·.blk) = r.map (·.blk)) (hn : NotIn n r) : NotIn n l := by
  refine NotIn_of fun b hb => ?_
  have : b.blk ∈ l.map (·.blk) := List.mem_map.2 ⟨b, hb, rfl⟩
  rw [h] at this
  obtain ⟨c, hc, he⟩ := List.mem_map.1 this
  rw [← he]; exact NotIn_spec hn c hc
theorem blkEq_Apart : ∀ {l r m k : List Blk}, BlkEq l r → BlkEq m k → Apart r k → Apart l m
  | [], [], _, _, _, _, _ => trivial
  | b :: l, c :: r, m, k, ⟨⟨h1, _⟩, hr⟩, hm, h => ⟨by rw [h1]; exact notIn_map (blkEq_blk hr) h.1, by rw [h1]; exact notIn_map (blkEq_blk hm) h.2.1, blkEq_Apart hr hm h.2.2⟩
  | [], _ :: _, _, _, h, _, _ => h.elim
  | _ :: _, [], _, _, h, _, _ => h.elim
theorem blkEq_set : ∀ {l r : List Blk} (u : List (List C)), BlkEq l r → BlkEq (setCs l u) (setCs r u)
  | [], [], _, _ => trivial
  | b :: l, k :: r, [], ⟨h, hr⟩ => ⟨h, blkEq_set [] hr⟩
  | b :: l, k :: r, c :: u, ⟨⟨h1, h2, h3, _⟩, hr⟩ => ⟨⟨h1, h2, h3, rfl⟩, blkEq_set u hr⟩
  | [], _ :: _, _, h => h.elim
  | _ :: _, [], _, h => h.elim
theorem Fn.cong {P : Program} {f : Nat} {args args' : List SV} {rw rw' ro ro' : List Blk} {R : SV → List (List C) → List Blk → Prop} (h : Fn P f args rw ro R) (ha : args'.map SV.den = args.map SV.den) (h1 : BlkEq rw rw') (h2 : BlkEq ro ro') : Fn P f args' rw' ro' R := by
  intro w g1 g2 g3
  rw [ha]
  refine callF_mono (fun v' w' ⟨v, u, n, hR, hv, hu, hn, hN, hF⟩ => ⟨v, u, n, hR, hv, ?_, hn, hN, ?_⟩) (h w (blkEq_HpL h1 g1) (blkEq_HpL h2 g2) (blkEq_Apart h1 h2 g3))
  · exact blkEq_HpL (blkEq_symm (blkEq_set u h1)) hu
  · rw [← blkEq_blk h1]; exact hF

section
variable {P : Program} {F : Frm} {n : Nat} {pv : List Blk} {Q : St → Prop} {K : EK} {t t' : GT} {sl : List (Nat × SV)} {hp hp' : List Blk} {nx sz : Nat} {d : Nat} {dd : Option Nat} {x y : A}
variable {id id' b o ty ln cp : Nat} {ro : Bool} {fr : Nat × Nat} {dc : C} {g g' g0 : List SG} {kd : IntKind} {l m : List Int} {v z : Int} {u : SV} {pc : Prop} {ρ : Type} {r : ρ} {j q : Nat} {cs : List C}

theorem d_ix {N S : Nat} {i : Int} {kk : IntKind} {k2 : Int → Option ρ} (h1 : x.ev sl = some (.g (flat [.i kd l]))) (h2 : y.ev sl = some (ib kk i)) (hg : 0 ≤ i ∧ i < (N : Int)) (h : (l[i.toNat]?).bind k2 = some r)
    (hK : ∀ w, k2 w = some r → wpI P F n pv Q t ⟨(d, ib kd w) :: sl, hp, nx, sz⟩) : wpI P F n pv Q (.cons ⟨none, .s d (.ix N S false (.int kd z) x y)⟩ t) ⟨sl, hp, nx, sz⟩ := by
  refine bind_e h fun w hw h => ?_
  have hlt : i.toNat < l.length := (List.getElem?_eq_some_iff.1 hw).1
  rw [flat_one] at h1
  refine wpI_ixi h1 h2 hg hlt ?_
  have : l.getD i.toNat 0 = w := by rw [List.getD_eq_getElem?_getD, hw]; rfl
  rw [this]; exact hK w h
/-- aggregates that are built -/
theorem d_bld {zs : List Value} {ps : List (Nat × Nat × A)} (hf : fillL sl ps (zs.map .v) = some (flat g)) (hK : wpI P F n pv Q t ⟨(d, .g (flat g)) :: sl, hp, nx, sz⟩) : wpI P F n pv Q (.cons ⟨none, .s d (.bld zs ps)⟩ t) ⟨sl, hp, nx, sz⟩ := by
  refine wpI_s (u := .g (flat g)) (pc := True) ?_ trivial hK
  simp only [IS.val, hf]
theorem d_bldg {zs : List Value} {ps : List (Nat × Nat × A)} (hz : zs.map C.v = flat g0) (hf : fillL sl ps (flat g0) = some (flat g)) (hK : wpI P F n pv Q t ⟨(d, .g (flat g)) :: sl, hp, nx, sz⟩) : wpI P F n pv Q (.cons ⟨none, .s d (.bld zs ps)⟩ t) ⟨sl, hp, nx, sz⟩ :=
  d_bld (by rw [hz]; exact hf) hK
theorem fill_g (j : Nat) {off N : Nat} {ps : List (Nat × Nat × A)} {o' : List SG} {mg : List SG} {cs : List C} (h1 : x.ev sl = some (.g (flat mg))) (h3 : sgPutO g j mg = some (o', g')) (h4 : sgPos g j = off) (h5 : flen mg = N) (h6 : flen o' = N) (hr : fillL sl ps (flat g') = some cs) :
    fillL sl ((off, N, x) :: ps) (flat g) = some cs := by
  obtain ⟨A, B, e1, e2, e3⟩ := sgPutO_ok h3
  have e4 := flat_splice (a := A) (m := o') (m' := mg) (b := B) (by rw [h5, h6])
  rw [← e1, ← e3, e2, h4] at e4
  have e5 : (flat mg).length = N ∧ off + N ≤ (flat g).length := ⟨by rw [flat_len, h5], by rw [e1, flat_len, flen_append, flen_append, e2, ← h4]; omega⟩
  simp only [fillL, h1, SV.cells?, if_pos e5, e4, hr]
theorem fill_c (j : Nat) {off N : Nat} {ps : List (Nat × Nat × A)} {o' : List SG} {w : C} {cs : List C} (h1 : x.ev sl = some (.c w)) (h3 : sgPutO g j [.c w] = some (o', g')) (h4 : sgPos g j = off) (h5 : w.scal = true) (h6 : flen o' = 1) (hr : fillL sl ps (flat g') = some cs) (hN : N = 1 := by rfl) :
    fillL sl ((off, N, x) :: ps) (flat g) = some cs := by
  subst hN
  obtain ⟨A, B, e1, e2, e3⟩ := sgPutO_ok h3
  have e4 := flat_splice (a := A) (m := o') (m' := [.c w]) (b := B) (by rw [h6]; rfl)
  rw [← e1, ← e3, e2, h4] at e4
  have e5 : ([w] : List C).length = 1 ∧ off + 1 ≤ (flat g).length := ⟨rfl, by rw [e1, flat_len, flen_append, flen_append, e2, ← h4]; omega⟩
  have e6 : flat [.c w] = [w] := rfl
  rw [e6] at e4
  simp only [fillL, h1, SV.cells?, h5, if_true, if_pos e5, e4, hr]

/-- a slice that is made: a window -/
theorem d_mksw {bytes : Nat} {k1 k2 : IntKind} (h1 : x.ev sl = some (ib k1 v)) (h2 : y.ev sl = some (ib k2 v)) (hg : 0 ≤ v ∧ bytes * v ≤ 281474976710656 ∧ v ≤ 9223372036854775807) (hpin : ∀ b, Pin pv (⟨nx, b, ty, false, (0, 0), .v (.int kd z), flat [.r [], .i kd (List.replicate v.toNat z), .r []]⟩ :: hp))
    (hK : ∀ b w, wpI P F n pv Q t ⟨(d, .c (.s nx b 0 v.toNat v.toNat)) :: sl, ⟨nx, b, ty, false, (0, 0), .v (.int kd z), flat [.r [], .i kd (List.replicate v.toNat z), .r []]⟩ :: hp, nx + 1, w⟩) : wpI P F n pv Q (.cons ⟨none, .w (some d) (.mks ty bytes (.int kd z) x y)⟩ t) ⟨sl, hp, nx, sz⟩ := by
  have e : flat [.r [], .i kd (List.replicate v.toNat z), .r []] = flat [.i kd (List.replicate v.toNat z)] := rfl
  rw [e] at hpin hK
  exact d_mks h1 h2 hg hpin hK
/-- copying a slice's numbers -/
theorem put_ok {l m l' : List Int} {q : Nat} (h : EV.put l q m = some l') : l' = l.take q ++ m ++ l.drop (q + m.length) ∧ q + m.length ≤ l.length := by
  unfold EV.put at h
  split at h
  · cases h; exact ⟨rfl, by assumption⟩
  · cases h
theorem flat_put {a bb : List SG} {k : IntKind} {l m : List Int} {q : Nat} (h : q + m.length ≤ l.length) :
    splice (flat (a ++ .i k l :: bb)) (flen a + q) (ik k m) = flat (a ++ .i k (l.take q ++ m ++ l.drop (q + m.length)) :: bb) := by
  have e1 : a ++ .i k l :: bb = a ++ ([.i k l] ++ bb) := rfl
  have e2 : ik k l = ik k (l.take q) ++ (ik k ((l.drop q).take m.length) ++ ik k (l.drop (q + m.length))) := by
    rw [← List.drop_drop]
    have : l = l.take q ++ ((l.drop q).take m.length ++ (l.drop q).drop m.length) := by rw [List.take_append_drop, List.take_append_drop]
    conv => lhs; rw [this]
    simp [ik]
  unfold splice
  rw [flat_mid, flat_mid]
  have hlen : (flat a ++ ik k (l.take q)).length = flen a + q := by simp [flat_len, length_ik]; omega
  have e3 : flat a ++ (SG.cells (.i k l) ++ flat bb) = (flat a ++ ik k (l.take q)) ++ (ik k ((l.drop q).take m.length) ++ (ik k (l.drop (q + m.length)) ++ flat bb)) := by
    simp only [SG.cells, e2, List.append_assoc]
  rw [e3, List.take_left' hlen, ← List.drop_drop, List.drop_left' hlen, List.drop_left' (by simp [length_ik]; omega)]
  simp [SG.cells, ik]
theorem cut_sub {a bb : List SG} {k : IntKind} {l : List Int} {q n : Nat} (h : q + n ≤ l.length) : cut (flat (a ++ .i k l :: bb)) (flen a + q) n = ik k (sub l q n) := by
  unfold cut sub
  rw [flat_mid, ← List.drop_drop, ← flat_len a, List.drop_left]
  simp only [SG.cells]
  rw [List.drop_append_of_le_length (by rw [length_ik]; omega), List.take_append_of_le_length (by simp [length_ik]; omega)]
  simp [ik, List.map_take, List.map_drop]
theorem d_cpyf {j2 : Nat} (j : Nat) {id2 b2 o2 ln2 cp2 ty2 id2' p q0 p2 q2 : Nat} {ro2 : Bool} {fr2 : Nat × Nat} {dc2 : C} {g2 : List SG} {l2 l' : List Int} (h1 : x.ev sl = some (.c (.s id b o ln cp))) (h2 : y.ev sl = some (.c (.s id2 b2 o2 ln2 cp2)))
    (hb1 : getB hp id = some ⟨id', b, ty, false, (0, 0), dc, flat g⟩) (hb2 : getB hp id2 = some ⟨id2', b2, ty2, ro2, fr2, dc2, flat g2⟩) (hs1 : sgAt g j = some (.i kd l)) (hs2 : sgAt g2 j2 = some (.i kd l2))
    (e1 : sgPos g j = p) (e2 : sgPos g2 j2 = p2) (hS1 : 0 < ln → p + q0 = o) (hS2 : 0 < ln2 → p2 + q2 = o2) (hB2 : q2 + ln2 ≤ l2.length)
    (hx : EV.put l q0 (sub l2 q2 (min ln2 ln)) = some l') (hg : sgSet g j (.i kd l') = some g') (hset : setF hp id (flat g') = some hp') (hpin : Pin pv hp') (hK : wpI P F n pv Q t ⟨putL dd (ib .i64 ((min ln2 ln : Nat) : Int)) sl, hp', nx, sz⟩) :
    wpI P F n pv Q (.cons ⟨none, .w dd (.cpy 1 x y)⟩ t) ⟨sl, hp, nx, sz⟩ := by
  obtain ⟨A, B, f1, f2, f3⟩ := sg_split g j _ hs1
  obtain ⟨A2, B2, f4, f5, _⟩ := sg_split g2 j2 _ hs2
  obtain ⟨hl', hle⟩ := put_ok hx
  rw [f3, Option.some.injEq] at hg
  have hsub : (sub l2 q2 (min ln2 ln)).length = min ln2 ln := sub_len (by omega)
  have hcut : min ln2 ln ≠ 0 → cut (flat g2) o2 (min ln2 ln) = ik kd (sub l2 q2 (min ln2 ln)) := fun h0 => by
    rw [← hS2 (by omega), ← e2, ← f5, f4]; exact cut_sub (by omega)
  have hspl : min ln2 ln ≠ 0 → splice (flat g) o (ik kd (sub l2 q2 (min ln2 ln))) = flat g' := fun h0 => by
    rw [← hS1 (by omega), ← e1, ← f2, f1, flat_put hle, ← hl', hg]
  have hsame : min ln2 ln = 0 → g' = g := fun h0 => by
    rw [← hg, f1, hl']
    have : sub l2 q2 (min ln2 ln) = [] := List.length_eq_zero_iff.1 (by rw [hsub, h0])
    rw [this]; simp
  have hheap : (if min ln2 ln = 0 then hp else setB hp id (splice (flat g) o (cut (flat g2) o2 (min ln2 ln * 1)))) = hp' := by
    split
    · rename_i h0
      have h' := setF_ok hset
      rw [hsame h0] at h'
      rw [← h']
      exact (setB_same hb1).symm
    · rename_i h0
      rw [Nat.mul_one, hcut h0, hspl h0]; exact setF_ok hset
  simp only [wpI, wpG, wpS, IW.run, h1, h2, hb1, hb2, hheap]
  refine ⟨⟨trivial, trivial, fun h0 => ?_, trivial, trivial, ?_⟩, hpin, ?_⟩
  · have hS1' := hS1 (by omega)
    have hS2' := hS2 (by omega)
    constructor
    · rw [f1, flat_len, flen_append, f2, e1, ← hS1']; simp only [flen]; omega
    · rw [f4, flat_len, flen_append, f5, e2, ← hS2']; simp only [flen]; omega
  · by_cases h0 : min ln2 ln = 0
    · rw [h0]; simp [cut]
    · rw [Nat.mul_one, hcut h0]; exact scal_ik _ _
  · cases dd <;> exact hK
 where
  setB_same {hp : List Blk} {id i' b ty : Nat} {ro : Bool} {fr : Nat × Nat} {dc : C} {cs : List C} (h : getB hp id = some ⟨i', b, ty, ro, fr, dc, cs⟩) : setB hp id cs = hp := by
    induction hp with
    | nil => rfl
    | cons k r ih =>
      simp only [getB_cons] at h
      simp only [setB]
      split
      · rename_i hk; rw [if_pos hk] at h; cases h; rfl
      · rename_i hk; rw [if_neg hk] at h; rw [ih h]
theorem d_cpy {j2 : Nat} (j : Nat) {id2 b2 o2 ln2 cp2 ty2 id2' p q0 p2 q2 : Nat} {ro2 : Bool} {fr2 : Nat × Nat} {dc2 : C} {g2 : List SG} {l2 : List Int} {kk : List Int → Option ρ} {G : List Int → List SG} {H : List Int → List Blk} (h1 : x.ev sl = some (.c (.s id b o ln cp))) (h2 : y.ev sl = some (.c (.s id2 b2 o2 ln2 cp2)))
    (hb1 : getB hp id = some ⟨id', b, ty, false, (0, 0), dc, flat g⟩) (hb2 : getB hp id2 = some ⟨id2', b2, ty2, ro2, fr2, dc2, flat g2⟩) (hs1 : sgAt g j = some (.i kd l)) (hs2 : sgAt g2 j2 = some (.i kd l2))
    (h : (EV.put l q0 (sub l2 q2 (min ln2 ln))).bind kk = some r) (e1 : sgPos g j = p) (e2 : sgPos g2 j2 = p2) (hS1 : 0 < ln → p + q0 = o) (hS2 : 0 < ln2 → p2 + q2 = o2) (hB2 : q2 + ln2 ≤ l2.length)
    (hg : ∀ l', sgSet g j (.i kd l') = some (G l')) (hset : ∀ l', setF hp id (flat (G l')) = some (H l')) (hpin : ∀ l', Pin pv (H l')) (hK : ∀ l', l'.length = l.length → kk l' = some r → wpI P F n pv Q t ⟨putL dd (ib .i64 ((min ln2 ln : Nat) : Int)) sl, H l', nx, sz⟩) :
    wpI P F n pv Q (.cons ⟨none, .w dd (.cpy 1 x y)⟩ t) ⟨sl, hp, nx, sz⟩ :=
  bind_e h fun l' hx h => d_cpyf j h1 h2 hb1 hb2 hs1 hs2 e1 e2 hS1 hS2 hB2 hx (hg l') (hset l') (hpin l') (hK l' (put_len hx) h)
/-- a slice of bytes as a string -/
theorem allU8_ik : ∀ (l : List Int), IR.val.allU8 (ik .u8 l)
  | [] => trivial
  | _ :: l => by show IR.val.allU8 (_ :: ik .u8 l); exact allU8_ik l
theorem d_b2s (j : Nat) {p q0 : Nat} {kk : ByteArray → Option ρ} (h1 : x.ev sl = some (.c (.s id b o ln cp))) (hb1 : getB hp id = some ⟨id', b, ty, ro, fr, dc, flat g⟩) (hs1 : sgAt g j = some (.i .u8 l)) (e1 : sgPos g j = p) (hS1 : 0 < ln → p + q0 = o) (hB : q0 + ln ≤ l.length)
    (h : nm (mkS (sub l q0 ln)) kk = some r) (hK : ∀ w, kk w = some r → wpI P F n pv Q t ⟨(d, .c (.v (.string w))) :: sl, hp, nx, sz⟩) : wpI P F n pv Q (.cons ⟨none, .r d (.b2s x)⟩ t) ⟨sl, hp, nx, sz⟩ := by
  obtain ⟨A, B, f1, f2, f3⟩ := sg_split g j _ hs1
  have hcut : cut (flat g) o ln = ik .u8 (sub l q0 ln) := by
    by_cases h0 : 0 < ln
    · rw [← hS1 h0, ← e1, ← f2, f1]; exact cut_sub hB
    · have : ln = 0 := by omega
      subst this; simp [cut, sub, ik]
  have hle : ln ≠ 0 → o + ln ≤ (flat g).length := fun h0 => by
    rw [f1, flat_len, flen_append, f2, e1, ← hS1 (by omega)]; simp only [flen]; omega
  simp only [wpI, wpG, wpS, IR.val, h1, hb1, hcut, ints_ik]
  exact ⟨⟨trivial, hle, allU8_ik _⟩, hK _ h⟩
/-- an array out of a slice -/
theorem d_ldas (j : Nat) {N : Nat} {kk : List Int → Option ρ} (h1 : x.ev sl = some (.c (.p id b o))) (h2 : getB hp id = some ⟨id', b, ty, ro, fr, dc, flat g⟩) (h3 : sgAt g j = some (.i kd l)) (h4 : sgPos g j + q = o) (h5 : q + N ≤ l.length)
    (h : nm (sub l q N) kk = some r) (hK : ∀ w, w.length = N → kk w = some r → wpI P F n pv Q t ⟨(d, .g (flat [.i kd w])) :: sl, hp, nx, sz⟩) : wpI P F n pv Q (.cons ⟨none, .r d (.lda N x)⟩ t) ⟨sl, hp, nx, sz⟩ := by
  obtain ⟨A, B, f1, f2, f3⟩ := sg_split g j _ h3
  have hcut : cut (flat g) o N = flat [.i kd (sub l q N)] := by
    rw [flat_one, ← h4, ← f2, f1]; exact cut_sub h5
  simp only [wpI, wpG, wpS, IR.val, h1, h2, hcut]
  exact ⟨⟨trivial, by rw [f1, flat_len, flen_append, f2, ← h4]; simp only [flen]; omega⟩, hK _ (sub_len h5) h⟩
end
end Go.EV

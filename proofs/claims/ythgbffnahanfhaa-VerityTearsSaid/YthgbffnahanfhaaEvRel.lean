/- Lemmas on what lowered instructions do, part EvRel. No condition but those that a theorem names. -/
import Derived.Test.YthgbffnahanfhaaEvW
set_option linter.unusedVariables false
set_option linter.unusedSimpArgs false
namespace Go.EV
open Go
variable {P : Program} {a : Act} {w : World}

structure Frm where
  w0 : World
  mods : List Nat

structure Rel (F : Frm) (n : Nat) (st : St) (a : Act) (w : World) : Prop where
  slots : SlOK st.sl a
  tsz : a.tmps.size = n
  dfr : a.defers = []
  hsz : w.heap.size = st.sz
  hp : HpOK st.hp w
  dis : st.hp.Pairwise (fun x y => x.blk ≠ y.blk ∨ (x.ro = true ∧ y.ro = true))
  own : ∀ b ∈ st.hp, b.ro = false → F.w0.heap.size ≤ b.blk ∨ b.blk ∈ F.mods
  le : F.w0.heap.size ≤ w.heap.size
  keep : ∀ b, b < F.w0.heap.size → b ∉ F.mods → w.heap[b]? = F.w0.heap[b]?
  os : w.os = F.w0.os
  tape : w.tape = F.w0.tape
  output : w.output = F.w0.output

theorem SlOK.put {sl : List (Nat × SV)} {a : Act} {d : Nat} {v : SV} (h : SlOK sl a) (hd : d < a.tmps.size) : SlOK ((d, v) :: sl) (a.put (some d) v.den) := by
  intro t u hu
  simp only [getS_cons] at hu
  split at hu
  · rename_i hdt; subst hdt; cases hu; simp [Act.put, hd]
  · rename_i hdt
    have := h t u hu
    simp only [Act.put, Array.getD_eq_getD_getElem?] at this ⊢
    rw [Array.getElem?_setIfInBounds_ne hdt]
    exact this

theorem Rel.put {F : Frm} {n : Nat} {st : St} {d : Nat} {v : SV} (h : Rel F n st a w) (hd : d < n) : Rel F n (st.put d v) (a.put (some d) v.den) w :=
  { slots := h.slots.put (by rw [h.tsz]; exact hd), tsz := by simp [Act.put, h.tsz], dfr := h.dfr, hsz := h.hsz, hp := h.hp, dis := h.dis, own := h.own, le := h.le, keep := h.keep, os := h.os, tape := h.tape, output := h.output }

theorem Rel.world {F : Frm} {n : Nat} {st : St} {w' : World} (h : Rel F n st a w) (hh : w'.heap = w.heap) (ho : w'.os = w.os) (ht : w'.tape = w.tape) (hu : w'.output = w.output) : Rel F n st a w' :=
  { slots := h.slots, tsz := h.tsz, dfr := h.dfr, hsz := by rw [hh]; exact h.hsz, hp := fun b hb => by rw [hh]; exact h.hp b hb, dis := h.dis, own := h.own, le := by rw [hh]; exact h.le,
    keep := fun b hb hm => by rw [hh]; exact h.keep b hb hm, os := ho.trans h.os, tape := ht.trans h.tape, output := hu.trans h.output }

/-- a fresh block -/
theorem Rel.new {F : Frm} {n : Nat} {st : St} {ty : TypeId} {dz : Value} {cs : List C} (h : Rel F n st a w) : Rel F n (new st ty dz cs) a (w.alloc (.cells (cs.map C.den).toArray ty)) := by
  have hold : ∀ b, b < w.heap.size → (w.alloc (.cells (cs.map C.den).toArray ty)).heap[b]? = w.heap[b]? := fun b hb => by show (w.heap.push _)[b]? = _; rw [Array.getElem?_push, if_neg (Nat.ne_of_lt hb)]
  have lt : ∀ b ∈ st.hp, b.blk < w.heap.size := fun b hb => (Array.getElem?_eq_some_iff.1 (h.hp b hb)).1
  refine { slots := h.slots, tsz := h.tsz, dfr := h.dfr, hsz := ?_, hp := ?_, dis := ?_, own := ?_, le := ?_, keep := ?_, os := h.os, tape := h.tape, output := h.output }
  · show (w.heap.push _).size = _; simp [EV.new, h.hsz]
  · intro b hb
    simp only [EV.new, List.mem_cons] at hb
    rcases hb with rfl | hb
    · show (w.alloc _).heap[st.sz]? = _
      rw [← h.hsz]; show (w.heap.push _)[w.heap.size]? = _; simp
    · rw [hold _ (lt b hb)]; exact h.hp b hb
  · simp only [EV.new, List.pairwise_cons]
    exact ⟨fun b hb => .inl (by have := lt b hb; rw [h.hsz] at this; show st.sz ≠ b.blk; omega), h.dis⟩
  · intro b hb hr
    simp only [EV.new, List.mem_cons] at hb
    rcases hb with rfl | hb
    · left; show F.w0.heap.size ≤ st.sz; rw [← h.hsz]; exact h.le
    · exact h.own b hb hr
  · show _ ≤ (w.heap.push _).size; simp; have := h.le; omega
  · intro b hb hm
    rw [hold b (Nat.lt_of_lt_of_le hb h.le)]; exact h.keep b hb hm

theorem setB_mem {hp : List Blk} {id : Nat} {cs : List C} {b : Blk} (h : b ∈ setB hp id cs) : (∃ k, getB hp id = some k ∧ b = { k with cs := cs }) ∨ b ∈ hp := by
  induction hp with
  | nil => cases h
  | cons x r ih =>
    simp only [setB] at h
    split at h
    · rename_i hx
      simp only [List.mem_cons] at h
      rcases h with rfl | h
      · left; exact ⟨x, by simp [getB_cons, hx], rfl⟩
      · right; exact List.mem_cons_of_mem _ h
    · rename_i hx
      simp only [List.mem_cons] at h
      rcases h with rfl | h
      · right; simp
      · rcases ih h with ⟨k, hk, rfl⟩ | h
        · left; exact ⟨k, by simp [getB_cons, hx, hk], rfl⟩
        · right; exact List.mem_cons_of_mem _ h

theorem setB_pair {R : Blk → Blk → Prop} {hp : List Blk} {id : Nat} {cs : List C} (hR : ∀ x y c, R x y → R { x with cs := c } y ∧ R x { y with cs := c })
    (h : hp.Pairwise R) : (setB hp id cs).Pairwise R := by
  induction hp with
  | nil => exact .nil
  | cons x r ih =>
    simp only [List.pairwise_cons] at h
    simp only [setB]
    split
    · exact .cons (fun b hb => (hR _ _ cs (h.1 b hb)).1) h.2
    · refine .cons (fun b hb => ?_) (ih h.2)
      rcases setB_mem hb with ⟨k, hk, rfl⟩ | hb
      · exact (hR _ _ cs (h.1 k (getB_mem hk))).2
      · exact h.1 b hb

/-- other blocks than the one that is set stay -/
theorem setB_other {hp : List Blk} {id : Nat} {cs : List C} {k b : Blk} (hk : getB hp id = some k)
    (hd : hp.Pairwise (fun x y => x.blk ≠ y.blk ∨ (x.ro = true ∧ y.ro = true))) (hro : k.ro = false) (hb : b ∈ setB hp id cs) :
    b = { k with cs := cs } ∨ (b ∈ hp ∧ b.blk ≠ k.blk) := by
  induction hp with
  | nil => cases hb
  | cons x r ih =>
    simp only [List.pairwise_cons] at hd
    simp only [setB] at hb
    simp only [getB_cons] at hk
    split at hb
    · rename_i hx
      simp only [hx, if_true, Option.some.injEq] at hk
      subst hk
      simp only [List.mem_cons] at hb
      rcases hb with rfl | hb
      · exact .inl rfl
      · rcases hd.1 b hb with h | h
        · exact .inr ⟨List.mem_cons_of_mem _ hb, fun e => h e.symm⟩
        · rw [hro] at h; exact absurd h.1 (by simp)
    · rename_i hx
      simp only [hx, if_false] at hk
      simp only [List.mem_cons] at hb
      rcases hb with rfl | hb
      · rcases hd.1 k (getB_mem hk) with h | h
        · exact .inr ⟨by simp, h⟩
        · rw [hro] at h; exact absurd h.2 (by simp)
      · rcases ih hk hd.2 hb with h | ⟨h1, h2⟩
        · exact .inl h
        · exact .inr ⟨List.mem_cons_of_mem _ h1, h2⟩

theorem Rel.set {F : Frm} {n : Nat} {st : St} {id : Nat} {k : Blk} {cs : List C} (h : Rel F n st a w) (hk : getB st.hp id = some k) (hro : k.ro = false) :
    Rel F n { st with hp := setB st.hp id cs } a (w.setRow k.blk (cs.map C.den).toArray) := by
  have hkb := h.hp k (getB_mem hk)
  refine { slots := h.slots, tsz := h.tsz, dfr := h.dfr, hsz := ?_, hp := ?_, dis := ?_, own := ?_, le := ?_, keep := ?_, os := h.os, tape := h.tape, output := h.output }
  · rw [size_setRow]; exact h.hsz
  · intro b hb
    rcases setB_other hk h.dis hro hb with rfl | ⟨h1, h2⟩
    · exact setRow_heap w k.blk _ _ k.ty k.fr hkb
    · rw [setRow_other w k.blk b.blk _ h2]; exact h.hp b h1
  · exact setB_pair (fun x y c hr => ⟨hr, hr⟩) h.dis
  · intro b hb hr
    rcases setB_mem hb with ⟨k', hk', rfl⟩ | hb
    · exact h.own k' (getB_mem hk') hr
    · exact h.own b hb hr
  · rw [size_setRow]; exact h.le
  · intro b hb hm
    rw [setRow_other w k.blk b _ ?_]
    · exact h.keep b hb hm
    · intro e; subst e
      rcases h.own k (getB_mem hk) hro with h1 | h1
      · omega
      · exact hm h1
end Go.EV

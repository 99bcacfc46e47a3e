/- From a contract to a row: arguments that are read as data. -/
import Derived.Test.YthgbffnahanfhaaEvX2
import Derived.ProofKit
import Derived.Carry
set_option linter.unusedVariables false
set_option linter.unusedSimpArgs false
namespace Go.EV
open Go Go.RowKit Go.WideShapes Go.ChangeShapes
variable {P : Program} {H : Type} {enc : TypeId × Value → H}

/-- in the range of its kind -/
def InK (k : IntKind) (l : List Int) : Prop := ∀ x ∈ l, k.has x

theorem calls_of_callF {f : FuncId} {fn : Func} {args : Array Value} {w : World} {K : Value → World → Prop} (hf : P.funcs[f]? = some fn) (hb : fn.body.isNone = false) (hn : (fn.name == "runtime.NumGoroutine") = false) (h : callF P f args w K) :
    Calls P f args w fun e w' => ∃ v, e = .returned v ∧ K v w' := by
  have h1 : fn.name ≠ "runtime.NumGoroutine" := by simpa using hn
  have h2 : fn.body ≠ none := by intro e; rw [e] at hb; cases hb
  have hcall : (callFunc f args).run P w = .ok (.enter f args) w := by
    unfold callFunc
    cases hbb : fn.body with
    | none => exact absurd hbb h2
    | some c => simp [program, Sem.run_bind, hf, h1, hbb, Sem.run, pure, Result.andThen]
  unfold callF at h
  rw [hcall] at h
  exact h
theorem fr_below {w w' : World} (h : Fr [] w w') : Below w.heap.size w w' := ⟨h.os, h.tape, h.output, h.size, fun k hk => h.keep k hk (by simp)⟩

/-- an int that came in -/
theorem arg_int {t : TypeId} {k : IntKind} {w : World} {b : Nat} {v : Value} (ht : P.underlying t = some (.int k)) (h : Value.okWide P w .any b t v) : ∃ x : Int, v = (ib k x).den ∧ k.has x := by
  unfold Value.okWide at h
  rw [ht] at h
  unfold Cell.okWide at h
  rw [ht] at h
  unfold Cell.ok at h
  rw [ht] at h
  cases v <;> first | exact h.elim | skip
  obtain ⟨rfl, h2⟩ := h
  exact ⟨_, rfl, h2⟩
theorem cell_int {t : TypeId} {k : IntKind} {w : World} {b : Nat} {v : Value} (ht : P.underlying t = some (.int k)) (h : Cell.okWide P w .any b t v) : ∃ x : Int, v = .int k x ∧ k.has x := by
  unfold Cell.okWide at h
  rw [ht] at h
  unfold Cell.ok at h
  rw [ht] at h
  cases v <;> first | exact h.elim | skip
  obtain ⟨rfl, h2⟩ := h
  exact ⟨_, rfl, h2⟩
/-- cells of one kind of ints -/
theorem cells_ints {e : TypeId} {k : IntKind} {w : World} {b : Nat} (he : P.underlying e = some (.int k)) : ∀ (l : List Value), (∀ v ∈ l, Cell.okWide P w .any b e v) → ∃ m : List Int, l = m.map (Value.int k) ∧ m.length = l.length ∧ InK k m
  | [], _ => ⟨[], rfl, rfl, by simp [InK]⟩
  | v :: l, h => by
    obtain ⟨x, rfl, hx⟩ := cell_int he (h v (by simp))
    obtain ⟨m, rfl, hm, hk⟩ := cells_ints he l (fun u hu => h u (by simp [hu]))
    exact ⟨x :: m, rfl, by simp, by intro y hy; rcases List.mem_cons.1 hy with rfl | hy; exact hx; exact hk y hy⟩
/-- the cells of an aggregate, each by its type -/
theorem agg_cells {t : TypeId} {ts : List TypeId} {w : World} {b : Nat} {v : Value} (hag : isAggT P t = true) (hts : P.cellTypes P.depth t = some ts) (hn : P.cellsOf t = ts.length) (h : Value.okWide P w .any b t v) :
    ∃ l : List Value, v = .agg l.toArray ∧ l.length = ts.length ∧ ∀ (i : Nat) (u : TypeId) (x : Value), ts[i]? = some u → l[i]? = some x → Cell.okWide P w .any b u x := by
  have h' : ∃ cs, v = .agg cs ∧ cs.size = P.cellsOf t ∧ Row.okWide P w .any b t cs := by
    unfold Value.okWide at h
    unfold isAggT at hag
    split at hag
    · rename_i e; rw [e] at h; exact h
    · rename_i e; rw [e] at h; exact h
    · cases hag
  obtain ⟨cs, rfl, hsz, ts', hts', _, hrow⟩ := h'
  rw [hts, Option.some.injEq] at hts'
  subst hts'
  refine ⟨cs.toList, by simp, by simp [hsz, hn], fun i u x hu hx => ?_⟩
  obtain ⟨u', hu', hok⟩ := hrow i x (by simpa using hx)
  have hi : i < ts.length := (List.getElem?_eq_some_iff.1 hu).1
  rw [Nat.mod_eq_of_lt hi, hu, Option.some.injEq] at hu'
  subst hu'; exact hok
/-- an array of ints that came in -/
theorem arg_ints {t e : TypeId} {k : IntKind} {N : Nat} {w : World} {b : Nat} {v : Value} (hag : isAggT P t = true) (hts : P.cellTypes P.depth t = some (List.replicate N e)) (hn : P.cellsOf t = N) (he : P.underlying e = some (.int k)) (h : Value.okWide P w .any b t v) :
    ∃ l : List Int, v = (SV.g (flat [.i k l])).den ∧ l.length = N ∧ InK k l := by
  obtain ⟨l, rfl, hl, hc⟩ := agg_cells hag hts (by simpa using hn) h
  obtain ⟨m, rfl, hm, hk⟩ := cells_ints he l (fun v hv => by
    obtain ⟨i, hi, rfl⟩ := List.getElem_of_mem hv
    have hl' : l.length = N := by simpa using hl
    exact hc i e _ (by rw [List.getElem?_replicate, if_pos (by omega)]) (List.getElem?_eq_getElem hi))
  refine ⟨m, ?_, by simpa using hm.trans (by simpa using hl), hk⟩
  simp [SV.den, flat_one, ik, C.den, Function.comp_def]
/-- a slice of ints that came in -/
theorem arg_slice {t e : TypeId} {k : IntKind} {w : World} {b : Nat} {v : Value} {d : DataW H} {ps : List MemPlace} {sp : Nat → Bool} (ht : P.underlying t = some (.slice e)) (he : P.underlying e = some (.int k)) (hc : P.cellsOf e = 1)
    (h : Value.okWide P w .any b t v) (hd : DataW.Trod enc P w 0 sp true t v d ps) :
    v = (SV.c (.v (.slice none 0 0))).den ∨ ∃ (blk ty o n cp : Nat) (fr : Nat × Nat) (pre post : List C) (x : List Int), v = (SV.c (.s 0 blk o n cp)).den ∧ n = x.length ∧ (0 < n → pre.length = o) ∧ n ≤ cp ∧ InK k x ∧ x.length ≤ maxLen ∧
      w.heap[blk]? = some (.cells ((flat [.r pre, .i k x, .r post]).map C.den).toArray ty fr) := by
  unfold Value.okWide at h
  rw [ht] at h
  simp only at h
  unfold Cell.okWide at h
  rw [ht] at h
  unfold Cell.ok at h
  rw [ht] at h
  obtain ⟨fuel, hf⟩ := hd
  cases v with
  | slice p len cap =>
  rcases open_ints ht he hc hf with ⟨hcs, hx⟩ | ⟨a, len0, cap0, zs, hcs, _, hl, hm, hz, hx, hcell, hwz⟩
  · left
    simp [Value.cells] at hcs
    obtain ⟨rfl, rfl, rfl⟩ := hcs; rfl
  · right
    simp [Value.cells] at hcs
    obtain ⟨rfl, rfl, rfl⟩ := hcs
    obtain ⟨h1, h2, h3, h4, row, cells, h5, h6⟩ := h
    obtain ⟨bk, off, spot⟩ := a
    simp only at h4; subst h4
    have hsh : ∃ cs fr, w.heap[bk]? = some (.cells cs row fr) := by
      unfold World.shape? at h5
      split at h5
      · rename_i c el fr e; simp only [Option.some.injEq, Prod.mk.injEq] at h5; exact ⟨c, fr, by rw [e, h5.1]⟩
      · cases h5
    obtain ⟨cs, fr, hheap⟩ := hsh
    have hzlen : len ≤ zs.length := by split at hz <;> omega
    have hget : ∀ i, i < len → cs[off + i]? = some (.int k (zs.getD i 0)) := fun i hi => by
      have := hcell i (by omega)
      unfold World.cell? at this
      have hadd : (Addr.add ⟨bk, off, none⟩ i) = ⟨bk, off + i, none⟩ := by unfold Addr.add; split <;> simp_all
      rw [hadd] at this
      simp only [hheap] at this
      simpa using this
    have hx' : (zs.take len).length = len := by simp; omega
    refine ⟨bk, row, off, len, cap, fr, (cs.toList.take off).map C.v, (cs.toList.drop (off + len)).map C.v, zs.take len, rfl, hx'.symm, fun h0 => ?_, hl, ?_, by rw [hx']; exact Nat.le_trans hl hm, ?_⟩
    · have := hget 0 h0
      have := (Array.getElem?_eq_some_iff.1 this).1
      simp; omega
    · intro y hy
      have := hwz y (List.mem_of_mem_take hy)
      simpa [Lit.wf, IntKind.has] using this
    · rw [hheap]
      congr 2
      apply Array.ext'
      simp only [flat, SG.cells, List.append_nil, List.map_append, List.map_map, ik]
      have hmid : (zs.take len).map (C.den ∘ fun n => C.v (.int k n)) = (cs.toList.drop off).take len := by
        apply List.ext_getElem?
        intro i
        by_cases hi : i < len
        · have h7 := hget i hi
          have h8 : i < zs.length := by omega
          simp only [List.getElem?_map, List.getElem?_take, hi, if_true, List.getElem?_drop]
          rw [List.getElem?_eq_getElem h8]
          simp only [Option.map_some, Function.comp, C.den]
          rw [show cs.toList[off + i]? = cs[off + i]? by simp, h7, List.getD_eq_getElem?_getD, List.getElem?_eq_getElem h8]; rfl
        · rw [List.getElem?_eq_none (by simp; omega), List.getElem?_eq_none (by simp; omega)]
      rw [hmid]
      have hid : ∀ l : List Value, l.map (C.den ∘ C.v) = l := fun l => by
        have : (C.den ∘ C.v) = id := by funext v; rfl
        rw [this, List.map_id]
      rw [hid, hid, ← List.drop_drop, List.take_append_drop, List.take_append_drop]
  | _ => exact h.elim

theorem trodAll_below (hl : laidOutB P = true) {W W' : World} (hb : Below W.heap.size W W') : ∀ {ts : List TypeId} {vs : List Value} {ds : List (DataW H)} {ps : List MemPlace}, (∀ t ∈ ts, P.readableRec t = true ∧ t < P.types.size) →
    DataW.TrodAll enc P W 0 (fun _ => true) true ts vs ds ps → (∀ x ∈ ps, x.block < W.heap.size) → DataW.TrodAll enc P W' 0 (fun b => decide (b < W.heap.size)) true ts vs ds ps
  | [], [], [], _, _, h, _ => h
  | t :: ts, v :: vs, d :: ds, ps, hT, ⟨p, q, h1, h2, e⟩, hs =>
    ⟨p, q, Below.trod hl (hT t (by simp)).1 (hT t (by simp)).2 h1 hb (fun x hx => hs x (by rw [e]; exact List.mem_append_left _ hx)),
      trodAll_below hl hb (fun u hu => hT u (by simp [hu])) h2 (fun x hx => hs x (by rw [e]; exact List.mem_append_right _ hx)), e⟩
end Go.EV
namespace Go.EV
open Go Go.RowKit Go.WideShapes Go.ChangeShapes
theorem law_done {P : Program} {f : FuncId} {fn : Func} {args : Array Value} {args' : List SV} {ro : List Blk} {w : World} (hf : P.funcs[f]? = some fn) (hb : fn.body.isNone = false) (hn : (fn.name == "runtime.NumGoroutine") = false)
    (C : Fn P f args' [] ro (fun v u nw => v = bb true ∧ u = [] ∧ nw = [])) (hro : HpL ro w) (ha : args = (args'.map SV.den).toArray) : Calls P f args w fun e w' => e = .returned (.bool true) ∧ Below w.heap.size w w' := by
  subst ha
  refine (calls_of_callF hf hb hn (C w trivial hro trivial)).mono fun e w' ⟨v, he, v', u, nw, ⟨h1, _, _⟩, h2, _, _, _, hfr⟩ => ?_
  subst h2 h1
  exact ⟨he, fr_below hfr⟩
end Go.EV

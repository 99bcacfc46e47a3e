/- Contracts of what the model stands in for; a call that takes blocks over. -/
import Derived.Test.YthgbffnahanfhaaEvD5
import Derived.Laws.Externs
import Derived.Lib.MakeNoZero
set_option linter.unusedVariables false
set_option linter.unusedSimpArgs false
namespace Go.EV
open Go
theorem fn_add64 {P : Program} {f : FuncId} {fn : Func} (hf : P.funcs[f]? = some fn) (hname : (fn.name == "runtime.NumGoroutine") = false) (hb : fn.body.isNone = true) (hn : Extern.findNext fn = none) (he : Extern.find fn = some add64Entry)
    {x y c : Int} (hg : 0 ≤ x ∧ 0 ≤ y ∧ 0 ≤ c ∧ c ≤ 1) : Fn P f [ib .u64 x, ib .u64 y, ib .u64 c] [] [] (fun v u nw => v = .t2 (ib .u64 ((x + y + c) % 18446744073709551616)) (ib .u64 ((x + y + c) / 18446744073709551616)) ∧ u = [] ∧ nw = []) := by
  intro w _ _ _
  unfold callF
  have : (([ib .u64 x, ib .u64 y, ib .u64 c] : List SV).map SV.den).toArray = #[.int .u64 x, .int .u64 y, .int .u64 c] := rfl
  rw [this, run_callFunc_extern hf hname hb hn he, run_add64 x y c hg.1 hg.2.1 hg.2.2.1 hg.2.2.2]
  exact ⟨_, [], [], ⟨rfl, rfl, rfl⟩, rfl, trivial, trivial, trivial, ⟨Nat.le_refl _, fun _ _ _ => rfl, rfl, rfl, rfl⟩⟩
def sub64E : Array Value → Sem Value := fun args => do
  let (x, y, b) ← Extern.MathBitsCarry.three "Sub64" args
  pure (Extern.MathBitsCarry.pair ((x + Extern.MathBitsCarry.m64 - y - b) % Extern.MathBitsCarry.m64) (if x < y + b then 1 else 0))
theorem run_sub64E {P : Program} (x y c : Int) (hx : 0 ≤ x) (hy : 0 ≤ y) (hy2 : y < 18446744073709551616) (hc0 : 0 ≤ c) (hc : c ≤ 1) (w : World) :
    (sub64E #[.int .u64 x, .int .u64 y, .int .u64 c]).run P w =
      .ok (.tuple #[.int .u64 ((x - y - c) % 18446744073709551616), .int .u64 (if x < y + c then 1 else 0)]) w := by
  have key : ∀ k : Nat, k ≤ 1 → (sub64E #[.int .u64 x, .int .u64 y, .int .u64 (k : Int)]).run P w =
      .ok (Extern.MathBitsCarry.pair ((x.toNat + Extern.MathBitsCarry.m64 - y.toNat - k) % Extern.MathBitsCarry.m64) (if x.toNat < y.toNat + k then 1 else 0)) w := by
    intro k hk
    have : k = 0 ∨ k = 1 := by omega
    rcases this with rfl | rfl <;> rfl
  obtain ⟨k, rfl⟩ := Int.eq_ofNat_of_zero_le hc0
  rw [key k (by omega)]
  obtain ⟨X, rfl⟩ := Int.eq_ofNat_of_zero_le hx
  obtain ⟨Y, rfl⟩ := Int.eq_ofNat_of_zero_le hy
  simp only [Extern.MathBitsCarry.pair, Extern.MathBitsCarry.m64, Int.toNat_natCast]
  have e1 : Int.ofNat ((X + 2 ^ 64 - Y - k) % 2 ^ 64) = ((X : Int) - Y - k) % 18446744073709551616 := by
    simp only [Int.ofNat_eq_natCast]; omega
  have e2 : Int.ofNat (if X < Y + k then 1 else 0) = if (X : Int) < Y + k then 1 else 0 := by
    by_cases h : X < Y + k
    · rw [if_pos h, if_pos (by omega)]; rfl
    · rw [if_neg h, if_neg (by omega)]; rfl
  rw [e1, e2]
theorem fn_sub64 {P : Program} {f : FuncId} {fn : Func} (hf : P.funcs[f]? = some fn) (hname : (fn.name == "runtime.NumGoroutine") = false) (hb : fn.body.isNone = true) (hn : Extern.findNext fn = none) (he : Extern.find fn = some sub64E)
    {x y c : Int} (hg : 0 ≤ x ∧ 0 ≤ y ∧ y < 18446744073709551616 ∧ 0 ≤ c ∧ c ≤ 1) : Fn P f [ib .u64 x, ib .u64 y, ib .u64 c] [] [] (fun v u nw => v = .t2 (ib .u64 ((x - y - c) % 18446744073709551616)) (ib .u64 (if x < y + c then 1 else 0)) ∧ u = [] ∧ nw = []) := by
  intro w _ _ _
  unfold callF
  have : (([ib .u64 x, ib .u64 y, ib .u64 c] : List SV).map SV.den).toArray = #[.int .u64 x, .int .u64 y, .int .u64 c] := rfl
  rw [this, run_callFunc_extern hf hname hb hn he, run_sub64E x y c hg.1 hg.2.1 hg.2.2.1 hg.2.2.2.1 hg.2.2.2.2]
  exact ⟨_, [], [], ⟨rfl, rfl, rfl⟩, rfl, trivial, trivial, trivial, ⟨Nat.le_refl _, fun _ _ _ => rfl, rfl, rfl, rfl⟩⟩

/-- whatever stands in memory that is not laid out: the answer must not hang on it -/
noncomputable def orc {β : Type} (n : Nat) (k : List Int → Option β) : Option β :=
  @ite _ (∀ l, l.length = n → k l = k (List.replicate n 0)) (Classical.propDecidable _) (k (List.replicate n 0)) none
theorem orc_e {β : Type} {n : Nat} {k : List Int → Option β} {r : β} (h : orc n k = some r) (l : List Int) (hl : l.length = n) : k l = some r := by
  unfold orc at h
  split at h
  · rename_i hk; rw [hk l hl]; exact h
  · cases h
theorem digits_ik : ∀ (n t : Nat) (acc : List Int), ∃ l : List Int, Extern.BytealgMakeNoZero.digits n t (acc.map fun x => Value.int .u8 x).toArray = (l.map fun x => Value.int .u8 x).toArray
  | 0, _, acc => ⟨acc, rfl⟩
  | n + 1, t, acc => by
    obtain ⟨l, h⟩ := digits_ik n (t / 256) (acc ++ [Int.ofNat (t % 256)])
    refine ⟨l, ?_⟩
    rw [← h, Extern.BytealgMakeNoZero.digits]
    congr 1
    simp
theorem run_noZero {P : Program} (w : World) (ps : Array TypeId) (t e : TypeId) (ht : P.underlying t = some (.slice e)) (n : Nat) (hn : n ≤ 281474976710656) :
    ∃ l : List Int, (Extern.BytealgMakeNoZero.makeNoZero ps #[t] #[.int .i64 n]).run P w = .ok (.slice (some ⟨w.heap.size, 0, none⟩) n l.length) (w.drew.drew.alloc (.cells (l.map fun x => Value.int .u8 x).toArray e)) ∧ n ≤ l.length := by
  have hdef : Extern.BytealgMakeNoZero.makeNoZero ps #[t] #[.int .i64 n] =
      (do
        let .slice elem ← underlying t | stuck "bytealg.MakeNoZero: slice type expected"
        if (n : Int) < 0 || (n : Int) > 2 ^ 48 then runtimePanic (.error "makeslice: len out of range")
        let cap ← choose (.appendCap (n : Int).toNat 0 elem)
        askRoom cap
        let bytes ← choose (.extern "internal/bytealg.MakeNoZero.bytes" 0)
        let a ← newRow elem (Extern.BytealgMakeNoZero.digits cap bytes #[])
        pure (.slice (some a) (n : Int).toNat cap)) := rfl
  obtain ⟨l, hl⟩ := digits_ik (grownCap w n 0 e) ((Question.extern "internal/bytealg.MakeNoZero.bytes" 0).cut (w.tape (w.drawn + 1) (.extern "internal/bytealg.MakeNoZero.bytes" 0))) []
  have hl' : Extern.BytealgMakeNoZero.digits (grownCap w n 0 e) ((Question.extern "internal/bytealg.MakeNoZero.bytes" 0).cut (w.tape (w.drawn + 1) (.extern "internal/bytealg.MakeNoZero.bytes" 0))) #[] = (l.map fun x => Value.int .u8 x).toArray := hl
  have hlen : l.length = grownCap w n 0 e := by
    have := congrArg Array.size hl'
    rw [Lib.size_digits] at this
    simpa using this.symm
  refine ⟨l, ?_, ?_⟩
  · rw [hdef, hlen, ← hl']
    have h1 : ¬ (n : Int) < 0 := by omega
    have h2 : ¬ (281474976710656 : Int) < (n : Int) := by omega
    simp [run_underlying ht, h1, h2, Question.forced, newRow, Lib.size_digits, grownCap]
  · rw [hlen]; simpa using grownCap_ge w n 0 e
theorem fn_noZero {P : Program} {f : FuncId} {fn : Func} {t : Nat} {ps : Array TypeId} (hf : P.funcs[f]? = some fn) (hname : (fn.name == "runtime.NumGoroutine") = false) (hb : fn.body.isNone = true) (hn : Extern.findNext fn = none)
    (he : Extern.find fn = some (Extern.BytealgMakeNoZero.makeNoZero ps #[t])) {e : Nat} (ht : P.underlying t = some (.slice e)) (n0 : Nat)
    {n : Int} (hg : 0 ≤ n ∧ n ≤ 281474976710656) : Fn P f [ib .i64 n] [] [] (fun v u nw => ∃ (b cp : Nat) (l : List Int) (post : List C), v = .c (.s n0 b 0 n.toNat cp) ∧ u = [] ∧ nw = [⟨n0, b, e, false, (0, 0), .v undef, flat [.r [], .i .u8 l, .r post]⟩] ∧ l.length = n.toNat ∧ cp ≤ n.toNat + post.length ∧ n.toNat ≤ cp) := by
  intro w _ _ _
  unfold callF
  obtain ⟨N, rfl⟩ := Int.eq_ofNat_of_zero_le hg.1
  have : (([ib .i64 (N : Int)] : List SV).map SV.den).toArray = #[.int .i64 N] := rfl
  obtain ⟨l, h1, h2⟩ := run_noZero (P := P) w ps t e ht N (by omega)
  rw [this, run_callFunc_extern hf hname hb hn he, h1]
  simp only [Result.andThen]
  have hfl : flat [SG.r [], .i .u8 (l.take N), .r (ik .u8 (l.drop N))] = ik .u8 l := by
    simp only [flat, SG.cells, List.nil_append, List.append_nil]
    rw [← ik_append, List.take_append_drop]
  refine ⟨.c (.s n0 w.heap.size 0 N l.length), [], [⟨n0, w.heap.size, e, false, (0, 0), .v undef, flat [.r [], .i .u8 (l.take N), .r (ik .u8 (l.drop N))]⟩], ⟨w.heap.size, l.length, l.take N, ik .u8 (l.drop N), ?_, rfl, rfl, ?_, ?_, ?_⟩, rfl, trivial, ⟨?_, trivial⟩, ⟨Nat.le_refl _, trivial, trivial⟩, ?_⟩
  · simp
  · simp; omega
  · simp [length_ik]; omega
  · simp; omega
  · show (w.drew.drew.alloc _).heap[w.heap.size]? = _
    rw [hfl, ik_den]
    show (w.heap.push _)[w.heap.size]? = _
    simp
  · refine ⟨?_, fun b hb _ => ?_, rfl, rfl, rfl⟩
    · show _ ≤ (w.heap.push _).size; simp
    · show (w.heap.push _)[b]? = _; rw [Array.getElem?_push, if_neg (Nat.ne_of_lt hb)]
 where
  ik_append {k : IntKind} {a b : List Int} : ik k (a ++ b) = ik k a ++ ik k b := by simp [ik]

/-! calls that take blocks over -/
def NewC (N : Nat) (cb : List Nat) : List Blk → Prop
  | [] => True
  | b :: r => (N ≤ b.blk ∨ b.blk ∈ cb) ∧ NotIn b.blk r ∧ NewC N cb r
def FnC (P : Program) (f : Nat) (args : List SV) (cw rw ro : List Blk) (R : SV → List (List C) → List Blk → Prop) : Prop :=
  ∀ w, HpL (cw ++ rw) w → HpL ro w → Apart (cw ++ rw) ro → callF P f (args.map SV.den).toArray w fun v' w' =>
    ∃ v ups nw, R v ups nw ∧ v' = v.den ∧ HpL (setCs rw ups) w' ∧ HpL nw w' ∧ NewC w.heap.size (cw.map (·.blk)) nw ∧ (∀ b ∈ nw, ∀ k ∈ rw, b.blk ≠ k.blk) ∧ Fr ((cw ++ rw).map (·.blk)) w w'
theorem FnC.cong {P : Program} {f : Nat} {args args' : List SV} {cw cw' rw rw' ro ro' : List Blk} {R : SV → List (List C) → List Blk → Prop} (h : FnC P f args cw rw ro R) (ha : args'.map SV.den = args.map SV.den) (h0 : BlkEq (cw ++ rw) (cw' ++ rw')) (hc : cw.length = cw'.length) (h2 : BlkEq ro ro') : FnC P f args' cw' rw' ro' R := by
  intro w g1 g2 g3
  have key : ∀ {a b c d : List Blk}, BlkEq (a ++ b) (c ++ d) → a.length = c.length → BlkEq a c ∧ BlkEq b d := by
    intro a
    induction a with
    | nil => intro b c d h hl; cases c with
      | nil => exact ⟨trivial, h⟩
      | cons => simp at hl
    | cons x a ih => intro b c d h hl; cases c with
      | nil => simp at hl
      | cons y c => obtain ⟨i1, i2⟩ := ih h.2 (by simpa using hl); exact ⟨⟨h.1, i1⟩, i2⟩
  obtain ⟨hcw, hrw⟩ := key h0 hc
  rw [ha]
  refine callF_mono (fun v' w' ⟨v, u, n, hR, hv, hu, hn, hN, hd, hF⟩ => ⟨v, u, n, hR, hv, ?_, hn, ?_, fun b hb k hk => ?_, ?_⟩) (h w (blkEq_HpL h0 g1) (blkEq_HpL h2 g2) (blkEq_Apart h0 h2 g3))
  · exact blkEq_HpL (blkEq_symm (blkEq_set u hrw)) hu
  · rw [← blkEq_blk hcw]; exact hN
  · have : k.blk ∈ rw'.map (·.blk) := List.mem_map.2 ⟨k, hk, rfl⟩
    rw [← blkEq_blk hrw] at this
    obtain ⟨k2, hk2, he⟩ := List.mem_map.1 this
    rw [← he]; exact hd b hb k2 hk2
  · rw [← blkEq_blk h0]; exact hF
theorem newC_of {F : Frm} {n : Nat} {st : St} {a : Act} {w : World} (hr : Rel F n st a w) {cw rw : List Blk} (hF : F.mods = (cw ++ rw).map (·.blk)) {ups : List (List C)} {iu : List Nat} (hu : leH2 st.hp iu ((setCs rw ups).map rwB)) :
    ∀ {ir : List Nat} {nw : List Blk}, leH2 st.hp ir (nw.map rwB) → (∀ i ∈ iu, i ∉ ir) → ir.Nodup → NewC F.w0.heap.size (cw.map (·.blk)) nw ∧ ∀ b ∈ nw, ∀ k ∈ rw, b.blk ≠ k.blk
  | [], [], _, _, _ => ⟨trivial, by simp⟩
  | i :: is, k :: l, h, hd, hn => by
    obtain ⟨hn1, hn2⟩ := List.nodup_cons.1 hn
    obtain ⟨kb, e1, e2, e3, e4, e5, e6⟩ := h.1
    have hk : kb.blk = k.blk := e2
    have hkro : kb.ro = false := e4
    have hrw : ∀ c ∈ rw, k.blk ≠ c.blk := by
      intro c hc
      have : c.blk ∈ rw.map (·.blk) := List.mem_map.2 ⟨c, hc, rfl⟩
      rw [← setCs_blk rw ups] at this
      obtain ⟨c2, hc2, he⟩ := List.mem_map.1 this
      obtain ⟨j, hj, kc, g1, g2, _⟩ := leH2_mem hu (rwB c2) (List.mem_map.2 ⟨c2, hc2, rfl⟩)
      have hij : i ≠ j := fun e => hd j hj (by rw [← e]; simp)
      have := blk_ne hr.dis e1 g1 hij hkro
      rw [← hk, ← he]; rw [g2] at this; exact this
    obtain ⟨i1, i2⟩ := newC_of (cw := cw) hr hF hu h.2 (fun j hj hm => hd j hj (List.mem_cons_of_mem _ hm)) hn2
    refine ⟨⟨?_, NotIn_of fun b hb => ?_, i1⟩, fun b hb => ?_⟩
    · rw [← hk]
      rcases hr.own kb (getB_mem e1) hkro with h' | h'
      · exact .inl h'
      · rw [hF, List.map_append, List.mem_append] at h'
        rcases h' with h' | h'
        · exact .inr h'
        · obtain ⟨c, hc, he⟩ := List.mem_map.1 h'
          exact absurd (hk.symm.trans he.symm) (hrw c hc)
    · obtain ⟨j, hj, kc, g1, g2, _⟩ := leH2_mem h.2 (rwB b) (List.mem_map.2 ⟨b, hb, rfl⟩)
      have hij : i ≠ j := fun e => hn1 (e ▸ hj)
      rw [← hk]
      have := blk_ne hr.dis e1 g1 hij hkro
      rw [g2] at this; exact this
    · rcases List.mem_cons.1 hb with rfl | hb
      · exact hrw
      · exact i2 b hb
  | [], _ :: _, h, _, _ => h.elim
  | _ :: _, [], h, _, _ => h.elim
theorem d_fnC {P : Program} {f : Nat} {fn : Func} {i : IFn} {args : List SV} {cw rw ro : List Blk} {R : SV → List (List C) → List Blk → Prop} {sl0 : List (Nat × SV)} {hp0 : List Blk}
    (hf : P.funcs[f]? = some fn) (hl : lowF P fn = some i.strip) (hm : P.follows .mixedOrders = true) (hargs : args.length = fn.params.size)
    (hs0 : initSl 0 args = sl0) (hh0 : (cw ++ rw).map rwB ++ ro.map roB = hp0)
    (h : ∀ (F : Frm) (z : Nat), wpC P F i.n i.code (Rt i.res rw R) ⟨sl0, hp0, 100, z⟩) :
    FnC P f args cw rw ro R := by
  subst hs0 hh0
  intro w h1 h2 h3
  unfold lowF at hl
  split at hl
  · cases hl
  · rename_i c hb
    split at hl <;> try (cases hl; done)
    rename_i ic r hc hr
    split at hl <;> simp only [Option.some.injEq, reduceCtorEq] at hl
    rename_i hsz
    obtain ⟨n, code, res⟩ := i
    simp only [IFn.strip, IFn.mk.injEq] at hl
    obtain ⟨rfl, rfl, rfl⟩ := hl
    have hcall : (callFunc f (args.map SV.den).toArray).run P w = .ok (.enter f (args.map SV.den).toArray) w := by
      unfold callFunc
      simp [program, Sem.run_bind, hf, hsz.2, hb, Sem.run, pure, Result.andThen]
    unfold callF
    rw [hcall]
    refine calls_of_wp hf hb ?_
    have hrel : Rel ⟨w, (cw ++ rw).map (·.blk)⟩ fn.ntmps (st0 args (cw ++ rw) ro w.heap.size) { tmps := (args.map SV.den).toArray ++ Array.replicate (fn.ntmps - (args.map SV.den).toArray.size) undef, defers := [] } w :=
      rel0 hargs hsz.1 h1 h2 h3
    have hwp := wpC_sound hm 1000 c _ _ _ _ _ hc hrel (h ⟨w, (cw ++ rw).map (·.blk)⟩ w.heap.size)
    refine wp_mono hwp fun e a' w' ⟨st, hq, hrel'⟩ => ?_
    have fin : Rt.go r rw R st → a'.defers = [] ∧ ∃ v, (results fn a'.tmps).run P w' = .ok v w' ∧
        ∃ v_1, Ending.returned v = .returned v_1 ∧ ∃ v ups nw, R v ups nw ∧ v_1 = v.den ∧ HpL (setCs rw ups) w' ∧ HpL nw w' ∧ NewC w.heap.size (cw.map (·.blk)) nw ∧ (∀ b ∈ nw, ∀ k ∈ rw, b.blk ≠ k.blk) ∧ Fr ((cw ++ rw).map (·.blk)) w w' := by
      intro hq
      simp only [Rt.go] at hq
      split at hq
      · rename_i v' pc hres
        obtain ⟨hp, v, ups, nw, iu, ir, hR, hv, h6, h7, h8⟩ := hq
        have hnd := List.nodup_append.1 (ndup_ok h8)
        obtain ⟨n1, n2⟩ := newC_of (cw := cw) (rw := rw) hrel' rfl h6 h7 (fun i hi hm => hnd.2.2 i hi i hm rfl) hnd.2.1
        exact ⟨hrel'.dfr, v'.den, results_sound (fn := fn) hrel' hr hres hp, _, rfl, v, ups, nw, hR, hv, HpL_rwB.1 (leH2_HpL hrel'.hp h6), HpL_rwB.1 (leH2_HpL hrel'.hp h7), n1, n2, ⟨hrel'.le, hrel'.keep, hrel'.os, hrel'.tape, hrel'.output⟩⟩
      · exact hq.elim
    cases e with
    | normal => exact fin hq
    | ret => exact fin hq
    | _ => exact hq.elim
end Go.EV

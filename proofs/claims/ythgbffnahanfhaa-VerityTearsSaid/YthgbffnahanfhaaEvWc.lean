/- Lemmas on what lowered instructions do, part EvWc. No condition but those that a theorem names. -/
import Derived.Test.YthgbffnahanfhaaEvWr
set_option linter.unusedVariables false
set_option linter.unusedSimpArgs false
namespace Go.EV
open Go
variable {P : Program} {a : Act} {w : World}

theorem run_copy_any {t ty e : TypeId} {ie : TypeInfo} {g o ln cap n' : Nat} {src : Value} {cur : Array Value} {bt : TypeId} {cs : List Value} (ts : Array TypeId) (ht : ts[0]? = some t)
    (hu : P.underlying t = some (.slice e)) (hie : P.info? e = some ie) (hsz : ie.size = 1)
    (hlen : (Builtin.lenOf src).run P w = .ok n' w) (hfirst : (Builtin.firstCells 1 (min n' ln) src).run P w = .ok cs.toArray w)
    (hg : w.heap[g]? = some (.cells cur bt (0, 0))) (hfit : o + cs.length ≤ cur.size) (h1 : ∀ v ∈ cs, v.oneCell' = true) :
    (Builtin.copy_ ts ty #[.slice (some ⟨g, o, none⟩) ln cap, src]).run P w =
      .ok (goInt (min n' ln)) (w.setRow g (cur.toList.take o ++ cs ++ cur.toList.drop (o + cs.length)).toArray) := by
  have hst := run_storeCells_at P g o bt cs 0 cur w hg (by simpa using hfit) h1
  have hm : n'.min ln = min n' ln := rfl
  unfold Builtin.copy_
  have hmi : ((min n' ln : Nat) : Int) = min (n' : Int) ln := by omega
  simp [ht, run_underlying hu, hlen, sizeOf, typeInfo, hie, hsz, hm, hfirst, hst, hmi]

theorem run_copy_zero {t ty e : TypeId} {ie : TypeInfo} {g o ln cap n' : Nat} {src : Value} (ts : Array TypeId) (ht : ts[0]? = some t)
    (hu : P.underlying t = some (.slice e)) (hie : P.info? e = some ie) (hsz : ie.size = 1)
    (hlen : (Builtin.lenOf src).run P w = .ok n' w) (hm0 : min n' ln = 0) (hfirst : (Builtin.firstCells 1 0 src).run P w = .ok #[] w) :
    (Builtin.copy_ ts ty #[.slice (some ⟨g, o, none⟩) ln cap, src]).run P w = .ok (goInt 0) w := by
  have hm : n'.min ln = 0 := hm0
  have hmi : min (n' : Int) ln = 0 := by omega
  unfold Builtin.copy_
  simp [ht, run_underlying hu, hlen, sizeOf, typeInfo, hie, hsz, hm, hfirst, storeCells, hmi]

theorem soundW_cpy {args : Array Operand} {ts : Array TypeId} {i : IW} (hl : lowW P (.call ⟨.builtin .copy, args, ts⟩) = some i) : SoundW P (.call ⟨.builtin .copy, args, ts⟩) i := by
  intro F n st st' a w v pc d type pos after g hr hv hp
  simp only [lowW] at hl
  split at hl
  · rename_i x y t hargs ht
    split at hl
    · rename_i e hu
      split at hl
      · rename_i ie hie
        split at hl
        · rename_i hsz
          simp only [Option.bind_eq_bind, Option.bind_eq_some_iff, Option.pure_def, Option.some.injEq] at hl
          obtain ⟨x', hx, y', hy, rfl⟩ := hl
          have hargs' : args.map a.eval = #[a.eval x, a.eval y] := by
            apply Array.ext'; simp [hargs]
          simp only [IW.run] at hv
          split at hv
          · rename_i id b o ln cap id' b' o' ln' cap' e1 e2
            split at hv <;> simp only [Option.some.injEq, Prod.mk.injEq, reduceCtorEq] at hv
            rename_i k k' hk hk'
            obtain ⟨rfl, rfl, rfl⟩ := hv
            obtain ⟨rfl, rfl, hoo, hro, hfr, hsc⟩ := hp
            simp only [Nat.mul_one] at hoo hsc
            by_cases hm0 : min ln' ln = 0
            · refine ⟨_, .inl ?_, by simp only [hm0, if_true]; exact hr, rfl⟩
              refine run_callBuiltin rfl ?_
              simp only [builtin]
              refine run_value' ?_
              simp only [hargs', ev_sound hr.slots hx e1, ev_sound hr.slots hy e2, SV.den, C.den]
              have hmi : min (ln' : Int) ln = 0 := by omega
              rw [run_copy_zero (n' := ln') ts ht hu hie hsz rfl hm0 ?_]
              · simp [ib, goInt, SV.den, C.den, hm0]
              · simp [Builtin.firstCells, loadCells, loadCellsFrom, pure, Sem.run]
            obtain ⟨ho, ho'⟩ := hoo hm0
            simp only [hm0, if_false, Nat.mul_one]
            have hkb := hr.hp k (getB_mem hk)
            have hkb' := hr.hp k' (getB_mem hk')
            rw [hfr] at hkb
            have hlen : (cut k'.cs o' (min ln' ln)).length = min ln' ln := by simp [cut]; omega
            refine ⟨_, .inl ?_, Rel.set hr hk hro, by first | rfl | trivial⟩
            refine run_callBuiltin rfl ?_
            simp only [builtin]
            refine run_value' ?_
            simp only [hargs', ev_sound hr.slots hx e1, ev_sound hr.slots hy e2, SV.den, C.den]
            rw [run_copy_any (n' := ln') (cs := (cut k'.cs o' (min ln' ln)).map C.den) ts ht hu hie hsz rfl ?_ hkb (by simp [hlen]; omega) ?_]
            · have hmi : ((min ln' ln : Nat) : Int) = min (ln' : Int) ln := by omega
              simp [ib, goInt, SV.den, C.den, map_splice, hmi]
            · have := loadCells_of (P := P) (o := o') (n := min ln' ln) hkb' (by omega)
              simpa [Builtin.firstCells] using this
            · intro u hu
              simp only [List.mem_map] at hu
              obtain ⟨c, hc, rfl⟩ := hu
              exact scal_one (List.all_eq_true.1 hsc c hc)
          · rename_i id b o ln cap s e1 e2
            split at hv <;> simp only [Option.some.injEq, Prod.mk.injEq, reduceCtorEq] at hv
            rename_i k hk
            obtain ⟨rfl, rfl, rfl⟩ := hv
            obtain ⟨rfl, -, hoo, hro, hfr⟩ := hp
            by_cases hm0 : min s.size ln = 0
            · refine ⟨_, .inl ?_, by simp only [hm0, if_true]; exact hr, rfl⟩
              refine run_callBuiltin rfl ?_
              simp only [builtin]
              refine run_value' ?_
              simp only [hargs', ev_sound hr.slots hx e1, ev_sound hr.slots hy e2, SV.den, C.den]
              have hmi : min (s.size : Int) ln = 0 := by omega
              rw [run_copy_zero (n' := s.size) ts ht hu hie hsz rfl hm0 ?_]
              · simp [ib, goInt, SV.den, C.den, hm0]
              · simp [Builtin.firstCells, pure, Sem.run]
            have ho := hoo hm0
            simp only [hm0, if_false]
            have hkb := hr.hp k (getB_mem hk)
            rw [hfr] at hkb
            refine ⟨_, .inl ?_, Rel.set hr hk hro, by first | rfl | trivial⟩
            refine run_callBuiltin rfl ?_
            simp only [builtin]
            refine run_value' ?_
            simp only [hargs', ev_sound hr.slots hx e1, ev_sound hr.slots hy e2, SV.den, C.den]
            have hsl : s.data.toList.length = s.size := rfl
            rw [run_copy_any (n' := s.size) (cs := ((s.data.toList.take (min s.size ln)).map fun x => C.v (.int .u8 x.toNat)).map C.den) ts ht hu hie hsz rfl ?_ hkb (by simp [hsl]; omega) ?_]
            · have hmi : ((min s.size ln : Nat) : Int) = min (s.size : Int) ln := by omega
              simp [ib, goInt, SV.den, C.den, map_splice, hmi]
            · simp only [Builtin.firstCells, pure, Sem.run]
              congr 1
              apply Array.ext'
              simp only [Array.toList_map, ByteArray.data_extract, Array.toList_extract, List.extract, Nat.sub_zero, List.drop_zero, List.map_map]
              rfl
            · intro u hu
              simp only [List.mem_map] at hu
              obtain ⟨c, ⟨y, _, rfl⟩, rfl⟩ := hu
              rfl
          · simp only [Option.some.injEq, Prod.mk.injEq] at hv
            rename_i id b o ln cap cp e1 e2
            obtain ⟨rfl, rfl, rfl⟩ := hv
            refine ⟨_, .inl ?_, hr, rfl⟩
            refine run_callBuiltin rfl ?_
            simp only [builtin]
            refine run_value' ?_
            simp only [hargs', ev_sound hr.slots hx e1, ev_sound hr.slots hy e2, SV.den, C.den]
            simp [Builtin.copy_, ht, run_underlying hu, Builtin.lenOf, Builtin.firstCells, sizeOf, typeInfo, hie, storeCells, ib, goInt, SV.den, C.den]
          · simp only [Option.some.injEq, Prod.mk.injEq] at hv
            obtain ⟨_, _, rfl⟩ := hv
            exact hp.elim
          · cases hv
        · cases hl
      · cases hl
    · cases hl
  · cases hl
end Go.EV

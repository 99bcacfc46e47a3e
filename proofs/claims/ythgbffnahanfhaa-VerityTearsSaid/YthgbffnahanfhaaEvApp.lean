/- Lemmas on what lowered instructions do, part EvApp. No condition but those that a theorem names. -/
import Derived.Test.YthgbffnahanfhaaEvWc
set_option linter.unusedVariables false
set_option linter.unusedSimpArgs false
namespace Go.EV
open Go
variable {P : Program} {a : Act} {w : World}

/-- what an append's table of types must be -/
structure AppT (P : Program) (elem bytes : Nat) (z : Value) (ts : Array TypeId) : Prop where
  ex : ∃ t u ie zv, ts = #[t, u] ∧ P.underlying t = some (.slice elem) ∧ ((∃ e, P.underlying u = some (.slice e)) ∨ P.underlying u = some .string) ∧
    P.info? elem = some ie ∧ ie.size = 1 ∧ ie.bytes = bytes ∧ ie.zero = some zv ∧ zv.cells = #[z]

theorem zeroCells_one (z : Value) (n : Nat) : Builtin.zeroCells #[z] n = ((List.replicate n (C.v z)).map C.den).toArray := by
  apply Array.ext'
  simp only [Builtin.zeroCells, List.size_toArray, List.length_singleton, Nat.mul_one, Nat.mod_one, List.map_replicate, C.den]
  rw [Array.toList_map, Array.toList_range]
  have : (fun _ : Nat => (#[z] : Array Value)[0]!) = fun _ => z := rfl
  rw [this, List.map_const', List.length_range]

section
variable {elem bytes n sLen sCap : Nat} {z : Value} {ts : Array TypeId} {type : TypeId} {src : Value} {new : List Value}

theorem run_app_room {g o : Nat} {cur : Array Value} {bt : TypeId} (T : AppT P elem bytes z ts) (hlen : (Builtin.lenOf src).run P w = .ok n w)
    (hfirst : (Builtin.firstCells 1 n src).run P w = .ok new.toArray w) (hroom : sLen + n ≤ sCap)
    (hg : w.heap[g]? = some (.cells cur bt (0, 0))) (hfit : o + sLen + new.length ≤ cur.size) (h1 : ∀ v ∈ new, v.oneCell' = true) :
    (Builtin.append_ ts type #[.slice (some ⟨g, o, none⟩) sLen sCap, src]).run P w =
      .ok (.slice (some ⟨g, o, none⟩) (sLen + n) sCap) (w.setRow g (cur.toList.take (o + sLen) ++ new ++ cur.toList.drop (o + sLen + new.length)).toArray) := by
  obtain ⟨t, u, ie, zv, rfl, ht, hud, hie, hsz, hby, hz, hzc⟩ := T.ex
  have hst := run_storeCells_at P g (o + sLen) bt new 0 cur w hg (by simpa using hfit) h1
  simp only [Nat.add_zero] at hst
  have hadd : (⟨g, o, none⟩ : Addr).add sLen = ⟨g, o + sLen, none⟩ := Addr_add
  rcases hud with ⟨e2, hud⟩ | hud <;>
  simp [Builtin.append_, run_underlying ht, run_underlying hud, sizeOf, typeInfo, hie, hsz, hlen, hroom, hfirst, hadd, hst]

theorem run_app_same (T : AppT P elem bytes z ts) (hlen : (Builtin.lenOf src).run P w = .ok 0 w) (hfirst : (Builtin.firstCells 1 0 src).run P w = .ok #[] w) :
    (Builtin.append_ ts type #[.slice none 0 sCap, src]).run P w = .ok (.slice none 0 sCap) w := by
  obtain ⟨t, u, ie, zv, rfl, ht, hud, hie, hsz, hby, hz, hzc⟩ := T.ex
  rcases hud with ⟨e2, hud⟩ | hud <;>
  simp [Builtin.append_, run_underlying ht, run_underlying hud, sizeOf, typeInfo, hie, hsz, hlen, hfirst]

theorem run_app_grow {base : Option Addr} {olds : List Value} (T : AppT P elem bytes z ts) (hlen : (Builtin.lenOf src).run P w = .ok n w)
    (hfirst : (Builtin.firstCells 1 n src).run P w.drew = .ok new.toArray w.drew) (hold : (Builtin.firstCells 1 sLen (.slice base sLen sCap)).run P w.drew = .ok olds.toArray w.drew)
    (hg : sCap < sLen + n) (hb : (sLen + n) * bytes ≤ 140737488355328) (h63 : sLen + n ≤ 9223372036854775807) :
    ∃ cap, sLen + n ≤ cap ∧ (Builtin.append_ ts type #[.slice base sLen sCap, src]).run P w =
      .ok (.slice (some ⟨w.heap.size, 0, none⟩) (sLen + n) cap)
        (w.drew.alloc (.cells (olds.toArray ++ new.toArray ++ ((List.replicate (cap - (sLen + n)) (C.v z)).map C.den).toArray) elem)) := by
  obtain ⟨t, u, ie, zv, rfl, ht, hud, hie, hsz, hby, hz, hzc⟩ := T.ex
  refine ⟨grownCap w (sLen + n) sCap elem, grownCap_ge w _ _ _, ?_⟩
  have hn : ¬ (sLen + n ≤ sCap) := by omega
  have h63' : ¬ (9223372036854775807 < ((sLen : Int) + (n : Int))) := by omega
  have h48 : Builtin.nextslicecap (sLen + n) sCap * ie.bytes ≤ 281474976710656 := growslice_fits (by omega) (by rw [hby]; exact hb)
  have h48' : ¬ (281474976710656 < Builtin.nextslicecap (sLen + n) sCap * ie.bytes) := by omega
  rcases hud with ⟨e2, hud⟩ | hud <;>
  (simp [Builtin.append_, run_underlying ht, run_underlying hud, sizeOf, typeInfo, zeroValue, hie, hsz, hz, hzc, hlen, hn, h63', h48', Question.forced, hfirst, hold, newRow, grownCap, zeroCells_one]
   first | done | (congr 2; apply Array.ext'; simp [List.append_assoc]))
end
end Go.EV

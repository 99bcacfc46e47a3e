/- That the functions of the program compute just this: part 1. No condition but those that a theorem names. -/
import Derived.Test.YthgbffnahanfhaaEvX2
import Derived.Test.YthgbffnahanfhaaF
import Derived.Test.YthgbffnahanfhaaProg
set_option linter.unusedVariables false
set_option linter.unusedSimpArgs false
namespace Go.Proofs.Ythgbffnahanfhaa
open Go Go.EV
set_option maxRecDepth 100000
set_option maxHeartbeats 0
set_option linter.unusedVariables false
theorem mo : Try.prog.follows .mixedOrders = true := by kernel_rfl
def ir_math_bits_Mul64 : IFn := ⟨51, (.seq (.reg [] (.cons ⟨none, (.s 4 (.mv (.k (.int .u64 0))))⟩ (.cons ⟨none, (.s 5 (.mv (.k (.int .u64 0))))⟩ .nil))) (.seq (.reg [] (.cons ⟨none, (.s 14 (.mv (.t 0)))⟩ (.cons ⟨none, (.s 15 (.bin .and (.t 14) (.k (.int .u64 4294967295))))⟩ (.cons ⟨none, (.s 6 (.mv (.t 15)))⟩ .nil)))) (.seq (.reg [] (.cons ⟨none, (.s 16 (.mv (.t 0)))⟩ (.cons ⟨none, (.s 17 (.bin .shr (.t 16) (.k (.int .u64 32))))⟩ (.cons ⟨none, (.s 7 (.mv (.t 17)))⟩ .nil)))) (.seq (.reg [] (.cons ⟨none, (.s 18 (.mv (.t 1)))⟩ (.cons ⟨none, (.s 19 (.bin .and (.t 18) (.k (.int .u64 4294967295))))⟩ (.cons ⟨none, (.s 8 (.mv (.t 19)))⟩ .nil)))) (.seq (.reg [] (.cons ⟨none, (.s 20 (.mv (.t 1)))⟩ (.cons ⟨none, (.s 21 (.bin .shr (.t 20) (.k (.int .u64 32))))⟩ (.cons ⟨none, (.s 9 (.mv (.t 21)))⟩ .nil)))) (.seq (.reg [] (.cons ⟨none, (.s 22 (.mv (.t 6)))⟩ (.cons ⟨none, (.s 23 (.mv (.t 8)))⟩ (.cons ⟨none, (.s 24 (.bin .mul (.t 22) (.t 23)))⟩ (.cons ⟨none, (.s 10 (.mv (.t 24)))⟩ .nil))))) (.seq (.reg [] (.cons ⟨none, (.s 25 (.mv (.t 7)))⟩ (.cons ⟨none, (.s 26 (.mv (.t 8)))⟩ (.cons ⟨none, (.s 27 (.bin .mul (.t 25) (.t 26)))⟩ (.cons ⟨none, (.s 28 (.mv (.t 10)))⟩ (.cons ⟨none, (.s 29 (.bin .shr (.t 28) (.k (.int .u64 32))))⟩ (.cons ⟨none, (.s 30 (.bin .add (.t 27) (.t 29)))⟩ (.cons ⟨none, (.s 11 (.mv (.t 30)))⟩ .nil)))))))) (.seq (.reg [] (.cons ⟨none, (.s 31 (.mv (.t 11)))⟩ (.cons ⟨none, (.s 32 (.bin .and (.t 31) (.k (.int .u64 4294967295))))⟩ (.cons ⟨none, (.s 12 (.mv (.t 32)))⟩ .nil)))) (.seq (.reg [] (.cons ⟨none, (.s 33 (.mv (.t 11)))⟩ (.cons ⟨none, (.s 34 (.bin .shr (.t 33) (.k (.int .u64 32))))⟩ (.cons ⟨none, (.s 13 (.mv (.t 34)))⟩ .nil)))) (.seq (.reg [] (.cons ⟨none, (.s 35 (.mv (.t 12)))⟩ (.cons ⟨none, (.s 36 (.mv (.t 6)))⟩ (.cons ⟨none, (.s 37 (.mv (.t 9)))⟩ (.cons ⟨none, (.s 38 (.bin .mul (.t 36) (.t 37)))⟩ (.cons ⟨none, (.s 39 (.bin .add (.t 35) (.t 38)))⟩ (.cons ⟨none, (.s 12 (.mv (.t 39)))⟩ .nil))))))) (.seq (.reg [] (.cons ⟨none, (.s 40 (.mv (.t 7)))⟩ (.cons ⟨none, (.s 41 (.mv (.t 9)))⟩ (.cons ⟨none, (.s 42 (.bin .mul (.t 40) (.t 41)))⟩ (.cons ⟨none, (.s 43 (.mv (.t 13)))⟩ (.cons ⟨none, (.s 44 (.bin .add (.t 42) (.t 43)))⟩ (.cons ⟨none, (.s 45 (.mv (.t 12)))⟩ (.cons ⟨none, (.s 46 (.bin .shr (.t 45) (.k (.int .u64 32))))⟩ (.cons ⟨none, (.s 47 (.bin .add (.t 44) (.t 46)))⟩ (.cons ⟨none, (.s 4 (.mv (.t 47)))⟩ .nil)))))))))) (.seq (.reg [] (.cons ⟨none, (.s 48 (.mv (.t 0)))⟩ (.cons ⟨none, (.s 49 (.mv (.t 1)))⟩ (.cons ⟨none, (.s 50 (.bin .mul (.t 48) (.t 49)))⟩ (.cons ⟨none, (.s 5 (.mv (.t 50)))⟩ .nil))))) .ret)))))))))))), [(.tmp 4), (.tmp 5)]⟩
theorem low_math_bits_Mul64 : lowF Try.prog Try.f43 = some ir_math_bits_Mul64.strip := by kernel_rfl
theorem ok_math_bits_Mul64 {fu : Nat} {x_ : Int} {y_ : Int} {r : Int × Int} (h : fn_math_bits_Mul64 fu x_ y_ = some r) :
  EV.Fn Try.prog 43 [ib .u64 x_, ib .u64 y_] [] [] (fun v u nw => match r with | (x9001, x9002) => (v = .t2 (ib .u64 x9001) (ib .u64 x9002) ∧ u = [] ∧ nw = [])) := by
 have key : EV.Fn Try.prog 43 [ib .u64 x_, ib .u64 y_] [] [] (fun v u nw => match r with | (x9001, x9002) => (v = .t2 (ib .u64 x9001) (ib .u64 x9002) ∧ u = [] ∧ nw = [])) := by
  unfold fn_math_bits_Mul64 at h
  refine d_fn (i := ir_math_bits_Mul64) (fn := Try.f43) (sl0 := [(0, ib .u64 x_), (1, ib .u64 y_)]) (hp0 := []) (by kernel_rfl) low_math_bits_Mul64 mo rfl rfl rfl fun F z0 => ?_
  dsimp only [ir_math_bits_Mul64]
  refine wpC_seq ?_
  refine d_reg rfl ?_
  refine wpI_s rfl trivial ?_
  refine wpI_s rfl trivial ?_
  refine wpI_nil ?_
  refine seqK_n ?_
  refine wpC_seq ?_
  refine d_reg rfl ?_
  refine wpI_s rfl trivial ?_
  refine d_n rfl trivial h fun x1 h => ?_
  refine wpI_s rfl trivial ?_
  refine wpI_nil ?_
  refine seqK_n ?_
  refine wpC_seq ?_
  refine d_reg rfl ?_
  refine wpI_s rfl trivial ?_
  refine d_n rfl (by decide) h fun x2 h => ?_
  refine wpI_s rfl trivial ?_
  refine wpI_nil ?_
  refine seqK_n ?_
  refine wpC_seq ?_
  refine d_reg rfl ?_
  refine wpI_s rfl trivial ?_
  refine d_n rfl trivial h fun x3 h => ?_
  refine wpI_s rfl trivial ?_
  refine wpI_nil ?_
  refine seqK_n ?_
  refine wpC_seq ?_
  refine d_reg rfl ?_
  refine wpI_s rfl trivial ?_
  refine d_n rfl (by decide) h fun x4 h => ?_
  refine wpI_s rfl trivial ?_
  refine wpI_nil ?_
  refine seqK_n ?_
  refine wpC_seq ?_
  refine d_reg rfl ?_
  refine wpI_s rfl trivial ?_
  refine wpI_s rfl trivial ?_
  refine d_n rfl trivial h fun x5 h => ?_
  refine wpI_s rfl trivial ?_
  refine wpI_nil ?_
  refine seqK_n ?_
  refine wpC_seq ?_
  refine d_reg rfl ?_
  refine wpI_s rfl trivial ?_
  refine wpI_s rfl trivial ?_
  refine d_n rfl trivial h fun x6 h => ?_
  refine wpI_s rfl trivial ?_
  refine d_n rfl (by decide) h fun x7 h => ?_
  refine d_n rfl trivial h fun x8 h => ?_
  refine wpI_s rfl trivial ?_
  refine wpI_nil ?_
  refine seqK_n ?_
  refine wpC_seq ?_
  refine d_reg rfl ?_
  refine wpI_s rfl trivial ?_
  refine d_n rfl trivial h fun x9 h => ?_
  refine wpI_s rfl trivial ?_
  refine wpI_nil ?_
  refine seqK_n ?_
  refine wpC_seq ?_
  refine d_reg rfl ?_
  refine wpI_s rfl trivial ?_
  refine d_n rfl (by decide) h fun x10 h => ?_
  refine wpI_s rfl trivial ?_
  refine wpI_nil ?_
  refine seqK_n ?_
  refine wpC_seq ?_
  refine d_reg rfl ?_
  refine wpI_s rfl trivial ?_
  refine wpI_s rfl trivial ?_
  refine wpI_s rfl trivial ?_
  refine d_n rfl trivial h fun x11 h => ?_
  refine d_n rfl trivial h fun x12 h => ?_
  refine wpI_s rfl trivial ?_
  refine wpI_nil ?_
  refine seqK_n ?_
  refine wpC_seq ?_
  refine d_reg rfl ?_
  refine wpI_s rfl trivial ?_
  refine wpI_s rfl trivial ?_
  refine d_n rfl trivial h fun x13 h => ?_
  refine wpI_s rfl trivial ?_
  refine d_n rfl trivial h fun x14 h => ?_
  refine wpI_s rfl trivial ?_
  refine d_n rfl (by decide) h fun x15 h => ?_
  refine d_n rfl trivial h fun x16 h => ?_
  refine wpI_s rfl trivial ?_
  refine wpI_nil ?_
  refine seqK_n ?_
  refine wpC_seq ?_
  refine d_reg rfl ?_
  refine wpI_s rfl trivial ?_
  refine wpI_s rfl trivial ?_
  refine d_n rfl trivial h fun x17 h => ?_
  refine wpI_s rfl trivial ?_
  refine wpI_nil ?_
  refine seqK_n ?_
  refine wpC_ret ?_
  obtain rfl := Option.some.inj h
  exact d_ret2 [] [] ⟨rfl, rfl, rfl⟩ ⟨(rIs_t rfl rfl), (rIs_t rfl rfl)⟩ leH2_n leH2_n rfl
 exact key.cong rfl blkEq_n blkEq_n

def ir_math_bits_Mul : IFn := ⟨30, (.seq (.reg [] (.cons ⟨none, (.s 4 (.mv (.k (.int .u64 0))))⟩ (.cons ⟨none, (.s 5 (.mv (.k (.int .u64 0))))⟩ .nil))) (.seq (.cond (.k (.bool false)) (.seq (.reg [] (.cons ⟨none, (.s 11 (.mv (.t 0)))⟩ (.cons ⟨none, (.s 12 (.cv .u32 (.t 11)))⟩ (.cons ⟨none, (.s 13 (.mv (.t 1)))⟩ (.cons ⟨none, (.s 14 (.cv .u32 (.t 13)))⟩ (.cons ⟨none, (.call (some 15) 42 [(.t 12), (.t 14)])⟩ (.cons ⟨none, (.s 10 (.mv (.t 15)))⟩ (.cons ⟨none, (.s 16 (.ext (.t 10) 0))⟩ (.cons ⟨none, (.s 17 (.ext (.t 10) 1))⟩ (.cons ⟨none, (.s 6 (.mv (.t 16)))⟩ (.cons ⟨none, (.s 7 (.mv (.t 17)))⟩ .nil))))))))))) (.seq (.reg [] (.cons ⟨none, (.s 18 (.mv (.t 6)))⟩ (.cons ⟨none, (.s 19 (.cv .u64 (.t 18)))⟩ (.cons ⟨none, (.s 20 (.mv (.t 7)))⟩ (.cons ⟨none, (.s 21 (.cv .u64 (.t 20)))⟩ (.cons ⟨none, (.s 4 (.mv (.t 19)))⟩ (.cons ⟨none, (.s 5 (.mv (.t 21)))⟩ .nil))))))) .ret)) .skip) (.seq (.reg [] (.cons ⟨none, (.s 23 (.mv (.t 0)))⟩ (.cons ⟨none, (.s 24 (.mv (.t 1)))⟩ (.cons ⟨none, (.call (some 25) 43 [(.t 23), (.t 24)])⟩ (.cons ⟨none, (.s 22 (.mv (.t 25)))⟩ (.cons ⟨none, (.s 26 (.ext (.t 22) 0))⟩ (.cons ⟨none, (.s 27 (.ext (.t 22) 1))⟩ (.cons ⟨none, (.s 8 (.mv (.t 26)))⟩ (.cons ⟨none, (.s 9 (.mv (.t 27)))⟩ .nil))))))))) (.seq (.reg [] (.cons ⟨none, (.s 28 (.mv (.t 8)))⟩ (.cons ⟨none, (.s 29 (.mv (.t 9)))⟩ (.cons ⟨none, (.s 4 (.mv (.t 28)))⟩ (.cons ⟨none, (.s 5 (.mv (.t 29)))⟩ .nil))))) .ret)))), [(.tmp 4), (.tmp 5)]⟩
theorem low_math_bits_Mul : lowF Try.prog Try.f29 = some ir_math_bits_Mul.strip := by kernel_rfl
theorem ok_math_bits_Mul {fu : Nat} {x_ : Int} {y_ : Int} {r : Int × Int} (h : fn_math_bits_Mul fu x_ y_ = some r) :
  EV.Fn Try.prog 29 [ib .u64 x_, ib .u64 y_] [] [] (fun v u nw => match r with | (x9001, x9002) => (v = .t2 (ib .u64 x9001) (ib .u64 x9002) ∧ u = [] ∧ nw = [])) := by
 have key : EV.Fn Try.prog 29 [ib .u64 x_, ib .u64 y_] [] [] (fun v u nw => match r with | (x9001, x9002) => (v = .t2 (ib .u64 x9001) (ib .u64 x9002) ∧ u = [] ∧ nw = [])) := by
  unfold fn_math_bits_Mul at h
  refine d_fn (i := ir_math_bits_Mul) (fn := Try.f29) (sl0 := [(0, ib .u64 x_), (1, ib .u64 y_)]) (hp0 := []) (by kernel_rfl) low_math_bits_Mul mo rfl rfl rfl fun F z0 => ?_
  dsimp only [ir_math_bits_Mul]
  refine wpC_seq ?_
  refine d_reg rfl ?_
  refine wpI_s rfl trivial ?_
  refine wpI_s rfl trivial ?_
  refine wpI_nil ?_
  refine seqK_n ?_
  refine wpC_seq ?_
  refine wpC_condF rfl ?_
  refine wpC_skip ?_
  refine seqK_n ?_
  refine wpC_seq ?_
  refine d_reg rfl ?_
  refine wpI_s rfl trivial ?_
  refine wpI_s rfl trivial ?_
  refine bind_e h fun o1 ho2 h => ?_
  obtain ⟨x3, x4⟩ := o1
  try dsimp only at h
  refine d_call (ok_math_bits_Mul64     (h := ho2)) rfl rfl haveRw_n haveRo_n (own_of rfl) ?_
  rintro _ _ _ kz5 ⟨rfl, rfl, rfl⟩
  refine ⟨_, rfl, trivial, ?_⟩
  refine wpI_s rfl trivial ?_
  refine wpI_s rfl trivial ?_
  refine wpI_s rfl trivial ?_
  refine wpI_s rfl trivial ?_
  refine wpI_s rfl trivial ?_
  refine wpI_nil ?_
  refine seqK_n ?_
  refine wpC_seq ?_
  refine d_reg rfl ?_
  refine wpI_s rfl trivial ?_
  refine wpI_s rfl trivial ?_
  refine wpI_s rfl trivial ?_
  refine wpI_s rfl trivial ?_
  refine wpI_nil ?_
  refine seqK_n ?_
  refine wpC_ret ?_
  obtain rfl := Option.some.inj h
  exact d_ret2 [] [] ⟨rfl, rfl, rfl⟩ ⟨(rIs_t rfl rfl), (rIs_t rfl rfl)⟩ leH2_n leH2_n rfl
 exact key.cong rfl blkEq_n blkEq_n

def ir_bytes_Repeat : IFn := ⟨77, (.seq (.reg [] (.cons ⟨none, (.s 4 (.mv (.k (.slice none 0 0))))⟩ .nil)) (.seq (.seq (.reg [] (.cons ⟨none, (.s 12 (.mv (.t 1)))⟩ (.cons ⟨none, (.s 13 (.bin .eql (.t 12) (.k (.int .i64 0))))⟩ .nil))) (.cond (.t 13) (.seq (.reg [] (.cons ⟨none, (.w (some 14) (.bsl 5 (.int .u8 0) [] 0 []))⟩ (.cons ⟨none, (.s 4 (.mv (.t 14)))⟩ .nil))) .ret) .skip)) (.seq (.seq (.reg [] (.cons ⟨none, (.s 15 (.mv (.t 1)))⟩ (.cons ⟨none, (.s 16 (.bin .lss (.t 15) (.k (.int .i64 0))))⟩ .nil))) (.cond (.t 16) (.reg [] (.cons ⟨none, (.w (some 17) .bad)⟩ (.cons ⟨none, (.w none .bad)⟩ .nil))) .skip)) (.seq (.reg [] (.cons ⟨none, (.s 19 (.mv (.t 0)))⟩ (.cons ⟨none, (.s 20 (.len (.t 19)))⟩ (.cons ⟨none, (.s 21 (.cv .u64 (.t 20)))⟩ (.cons ⟨none, (.s 22 (.mv (.t 1)))⟩ (.cons ⟨none, (.s 23 (.cv .u64 (.t 22)))⟩ (.cons ⟨none, (.call (some 24) 29 [(.t 21), (.t 23)])⟩ (.cons ⟨none, (.s 18 (.mv (.t 24)))⟩ (.cons ⟨none, (.s 25 (.ext (.t 18) 0))⟩ (.cons ⟨none, (.s 26 (.ext (.t 18) 1))⟩ (.cons ⟨none, (.s 5 (.mv (.t 25)))⟩ (.cons ⟨none, (.s 6 (.mv (.t 26)))⟩ .nil)))))))))))) (.seq (.seqJ (.reg [] (.cons ⟨none, (.s 27 (.mv (.t 5)))⟩ (.cons ⟨none, (.s 28 (.bin .gtr (.t 27) (.k (.int .u64 0))))⟩ (.cons ⟨none, (.s 29 (.mv (.t 28)))⟩ (.cons ⟨(some (29, false)), (.s 30 (.mv (.t 6)))⟩ (.cons ⟨(some (29, false)), (.s 31 (.bin .gtr (.t 30) (.k (.int .u64 9223372036854775807))))⟩ (.cons ⟨none, (.s 32 (.pick (.t 29) (.k (.bool true)) (.t 31)))⟩ .nil))))))) (.cond (.t 32) (.reg [] (.cons ⟨none, (.w (some 33) .bad)⟩ (.cons ⟨none, (.w none .bad)⟩ .nil))) .skip)) (.seq (.reg [] (.cons ⟨none, (.s 34 (.mv (.t 6)))⟩ (.cons ⟨none, (.s 35 (.cv .i64 (.t 34)))⟩ (.cons ⟨none, (.s 7 (.mv (.t 35)))⟩ .nil)))) (.seq (.seq (.reg [] (.cons ⟨none, (.s 36 (.mv (.t 0)))⟩ (.cons ⟨none, (.s 37 (.len (.t 36)))⟩ (.cons ⟨none, (.s 38 (.bin .eql (.t 37) (.k (.int .i64 0))))⟩ .nil)))) (.cond (.t 38) (.seq (.reg [] (.cons ⟨none, (.w (some 39) (.bsl 5 (.int .u8 0) [] 0 []))⟩ (.cons ⟨none, (.s 4 (.mv (.t 39)))⟩ .nil))) .ret) .skip)) (.seq (.reg [] (.cons ⟨none, (.s 40 (.mv (.t 7)))⟩ (.cons ⟨none, (.s 8 (.mv (.t 40)))⟩ .nil))) (.seqJ (.seq (.reg [] (.cons ⟨none, (.s 41 (.mv (.t 8)))⟩ (.cons ⟨none, (.s 42 (.bin .gtr (.t 41) (.k (.int .i64 8192))))⟩ .nil))) (.cond (.t 42) (.seq (.reg [] (.cons ⟨none, (.s 43 (.mv (.t 0)))⟩ (.cons ⟨none, (.s 44 (.len (.t 43)))⟩ (.cons ⟨none, (.s 45 (.bin .quo (.k (.int .i64 8192)) (.t 44)))⟩ (.cons ⟨none, (.s 46 (.mv (.t 0)))⟩ (.cons ⟨none, (.s 47 (.len (.t 46)))⟩ (.cons ⟨none, (.s 48 (.bin .mul (.t 45) (.t 47)))⟩ (.cons ⟨none, (.s 8 (.mv (.t 48)))⟩ .nil)))))))) (.seq (.reg [] (.cons ⟨none, (.s 49 (.mv (.t 8)))⟩ (.cons ⟨none, (.s 50 (.bin .eql (.t 49) (.k (.int .i64 0))))⟩ .nil))) (.cond (.t 50) (.reg [] (.cons ⟨none, (.s 51 (.mv (.t 0)))⟩ (.cons ⟨none, (.s 52 (.len (.t 51)))⟩ (.cons ⟨none, (.s 8 (.mv (.t 52)))⟩ .nil)))) .skip))) .skip)) (.seq (.reg [] (.cons ⟨none, (.s 53 (.mv (.t 7)))⟩ (.cons ⟨none, (.call (some 54) 30 [(.t 53)])⟩ (.cons ⟨none, (.s 55 (.mv (.t 7)))⟩ (.cons ⟨none, (.s 56 (.mv (.t 7)))⟩ (.cons ⟨none, (.s 57 (.sls 1 (.t 54) none (some (.t 55)) (some (.t 56))))⟩ (.cons ⟨none, (.s 9 (.mv (.t 57)))⟩ .nil))))))) (.seq (.reg [] (.cons ⟨none, (.s 58 (.mv (.t 9)))⟩ (.cons ⟨none, (.s 59 (.mv (.t 0)))⟩ (.cons ⟨none, (.w (some 60) (.cpy 1 (.t 58) (.t 59)))⟩ (.cons ⟨none, (.s 10 (.mv (.t 60)))⟩ .nil))))) (.seq (.block 0 (.loop (.seq (.seq (.reg [] (.cons ⟨none, (.s 61 (.mv (.t 10)))⟩ (.cons ⟨none, (.s 62 (.mv (.t 7)))⟩ (.cons ⟨none, (.s 63 (.bin .lss (.t 61) (.t 62)))⟩ .nil)))) (.cond (.t 63) .skip (.exit 0))) (.block 1 (.seq (.reg [] (.cons ⟨none, (.s 64 (.mv (.t 10)))⟩ (.cons ⟨none, (.s 65 (.mv (.t 8)))⟩ (.cons ⟨none, (.s 66 (.mnmx false (.t 64) (.t 65)))⟩ (.cons ⟨none, (.s 11 (.mv (.t 66)))⟩ .nil))))) (.reg [] (.cons ⟨none, (.s 67 (.mv (.t 10)))⟩ (.cons ⟨none, (.s 68 (.mv (.t 9)))⟩ (.cons ⟨none, (.s 69 (.mv (.t 10)))⟩ (.cons ⟨none, (.s 70 (.sls 1 (.t 68) (some (.t 69)) none none))⟩ (.cons ⟨none, (.s 71 (.mv (.t 9)))⟩ (.cons ⟨none, (.s 72 (.mv (.t 11)))⟩ (.cons ⟨none, (.s 73 (.sls 1 (.t 71) none (some (.t 72)) none))⟩ (.cons ⟨none, (.w (some 74) (.cpy 1 (.t 70) (.t 73)))⟩ (.cons ⟨none, (.s 75 (.bin .add (.t 67) (.t 74)))⟩ (.cons ⟨none, (.s 10 (.mv (.t 75)))⟩ .nil)))))))))))))))) (.seq (.reg [] (.cons ⟨none, (.s 76 (.mv (.t 9)))⟩ (.cons ⟨none, (.s 4 (.mv (.t 76)))⟩ .nil))) .ret))))))))))))), [(.tmp 4)]⟩
theorem low_bytes_Repeat : lowF Try.prog Try.f18 = some ir_bytes_Repeat.strip := by kernel_rfl
theorem ok_bytes_Repeat {fu : Nat} (i0 : Nat) (n0 : Nat) {X0b : Nat} {X0ty : Nat} {X0pr : List C} {X0ps : List C} {X0o : Nat} {X0c : Nat} {X0n : Nat} {X0fr : Nat × Nat} {b_ : List Int} {count_ : Int} (X0l : X0n = b_.length) (X0S : 0 < X0n → X0pr.length = X0o) (X0C : X0n ≤ X0c) {r : (Unit) ⊕ (List Int)} (h : fn_bytes_Repeat fu b_ count_ = some r) :
  EV.Fn Try.prog 18 [.c (.s 0 X0b X0o X0n X0c), ib .i64 count_] [] [⟨i0, X0b, X0ty, true, X0fr, (.v undef), flat [.r X0pr, .i .u8 b_, .r X0ps]⟩] (fun v u nw => match r with | .inl _ => (∃ (kn9001 : Nat), v = .c (.s n0 kn9001 0 ((([] : List Int)).length) 0) ∧ u = [] ∧ nw = [⟨n0, kn9001, 5, false, (0, 0), .v undef, flat [.r [], .i .u8 ([] : List Int), .r []]⟩]) | .inr (l9004) => (∃ (kn9003 : Nat) (kw9005 : List C) (kn9006 : Nat) (kn9007 : Nat), v = .c (.s n0 kn9003 kn9006 l9004.length kn9007) ∧ u = [] ∧ nw = [⟨n0, kn9003, 5, false, (0, 0), .v undef, flat [.r [], .i .u8 l9004, .r kw9005]⟩] ∧ (0 < l9004.length → 0 = kn9006) ∧ (l9004.length ≤ kn9007))) := by
 subst X0l
 have key : EV.Fn Try.prog 18 [.c (.s 0 X0b X0o b_.length X0c), ib .i64 count_] [] [⟨0, X0b, X0ty, true, X0fr, (.v undef), flat [.r X0pr, .i .u8 b_, .r X0ps]⟩] (fun v u nw => match r with | .inl _ => (∃ (kn9001 : Nat), v = .c (.s n0 kn9001 0 ((([] : List Int)).length) 0) ∧ u = [] ∧ nw = [⟨n0, kn9001, 5, false, (0, 0), .v undef, flat [.r [], .i .u8 ([] : List Int), .r []]⟩]) | .inr (l9004) => (∃ (kn9003 : Nat) (kw9005 : List C) (kn9006 : Nat) (kn9007 : Nat), v = .c (.s n0 kn9003 kn9006 l9004.length kn9007) ∧ u = [] ∧ nw = [⟨n0, kn9003, 5, false, (0, 0), .v undef, flat [.r [], .i .u8 l9004, .r kw9005]⟩] ∧ (0 < l9004.length → 0 = kn9006) ∧ (l9004.length ≤ kn9007))) := by
  unfold fn_bytes_Repeat at h
  refine d_fn (i := ir_bytes_Repeat) (fn := Try.f18) (sl0 := [(0, .c (.s 0 X0b X0o b_.length X0c)), (1, ib .i64 count_)]) (hp0 := [⟨0, X0b, X0ty, true, X0fr, (.v undef), flat [.r X0pr, .i .u8 b_, .r X0ps]⟩]) (by kernel_rfl) low_bytes_Repeat mo rfl rfl rfl fun F z0 => ?_
  dsimp only [ir_bytes_Repeat]
  refine wpC_seq ?_
  refine d_reg rfl ?_
  refine wpI_s rfl trivial ?_
  refine wpI_nil ?_
  refine seqK_n ?_
  refine wpC_seq ?_
  refine wpC_seq ?_
  refine d_reg rfl ?_
  refine wpI_s rfl trivial ?_
  refine d_b rfl trivial h fun t1 h => ?_
  refine wpI_nil ?_
  refine seqK_n ?_
  refine d_cond rfl h (fun h => ?_) (fun h => ?_)
  ·refine wpC_seq ?_
   refine d_reg rfl ?_
   refine d_bsl (g := [.r [], .i .u8 ([] : List Int), .r []]) (by rfl) (fun _ => trivial) fun kb2 kz3 => ?_
   refine wpI_s rfl trivial ?_
   refine wpI_nil ?_
   refine seqK_n ?_
   refine wpC_ret ?_
   refine seqK_r ?_
   obtain rfl := Option.some.inj h
   exact d_ret2 [] [100] ⟨kb2, rfl, rfl, rfl⟩ (rIs_t rfl (den_s (rfl).symm)) leH2_n (leH2_c rfl rfl rfl rfl rfl rfl leH2_n) rfl
  ·refine wpC_skip ?_
   refine seqK_n ?_
   refine wpC_seq ?_
   refine wpC_seq ?_
   refine d_reg rfl ?_
   refine wpI_s rfl trivial ?_
   refine d_b rfl trivial h fun t4 h => ?_
   refine wpI_nil ?_
   refine seqK_n ?_
   refine d_cond rfl h (fun h => ?_) (fun h => ?_)
   ·refine d_reg rfl ?_
    cases h
   ·refine wpC_skip ?_
    refine seqK_n ?_
    refine wpC_seq ?_
    refine d_reg rfl ?_
    refine wpI_s rfl trivial ?_
    refine wpI_s rfl trivial ?_
    refine d_n rfl trivial h fun x5 h => ?_
    refine wpI_s rfl trivial ?_
    refine d_n rfl trivial h fun x6 h => ?_
    refine bind_e h fun o7 ho8 h => ?_
    obtain ⟨x9, x10⟩ := o7
    try dsimp only at h
    refine d_call (ok_math_bits_Mul     (h := ho8)) rfl rfl haveRw_n haveRo_n (own_of rfl) ?_
    rintro _ _ _ kz11 ⟨rfl, rfl, rfl⟩
    refine ⟨_, rfl, trivial, ?_⟩
    refine wpI_s rfl trivial ?_
    refine wpI_s rfl trivial ?_
    refine wpI_s rfl trivial ?_
    refine wpI_s rfl trivial ?_
    refine wpI_s rfl trivial ?_
    refine wpI_nil ?_
    refine seqK_n ?_
    refine wpC_seq ?_
    refine bind_e h fun o14 h hko14 => ?_
    refine d_join (fun (z : Bool × Nat) => (match z with | (t12, kz13) => ⟨[(0, .c (.s 0 X0b X0o b_.length X0c)), (6, ib .u64 x10), (32, bb t12)], [⟨0, X0b, X0ty, true, X0fr, (.v undef), flat [.r X0pr, .i .u8 b_, .r X0ps]⟩], 100, kz13⟩ : St)) (fun (z : Bool × Nat) => match z with | (t12, kz13) => (True) ∧ t12 = o14) ?_ ?_
    ·refine d_reg rfl ?_
     refine wpI_s rfl trivial ?_
     refine d_b rfl trivial h fun t15 h => ?_
     refine wpI_s rfl trivial ?_
     refine d_guard rfl h (fun h => ?_) (fun h => ?_)
     ·refine wpI_s rfl trivial ?_
      refine d_guardT rfl ?_
      refine d_b rfl trivial h fun t16 h => ?_
      refine d_pickF rfl rfl rfl ?_
      refine wpI_nil ?_
      refine jnK_n (t16, kz11) [0] ⟨trivial, Option.some.inj h⟩ (leS2_c rfl rfl (leS2_c rfl rfl (leS2_c rfl rfl leS2_n))) (leH2_c rfl rfl rfl rfl rfl rfl leH2_n) rfl rfl
     ·refine d_guardF rfl rfl ?_
      refine d_pickT rfl rfl rfl ?_
      refine wpI_nil ?_
      refine jnK_n (true, kz11) [0] ⟨trivial, Option.some.inj h⟩ (leS2_c rfl rfl (leS2_c rfl rfl (leS2_c rfl rfl leS2_n))) (leH2_c rfl rfl rfl rfl rfl rfl leH2_n) rfl rfl
    ·rintro ⟨t12, kz13⟩ ⟨_, rfl⟩
     show wpC _ _ _ _ _ (St.mk _ _ _ _)
     have h := hko14; clear hko14; try dsimp only at h
     refine d_cond rfl h (fun h => ?_) (fun h => ?_)
     ·refine d_reg rfl ?_
      cases h
     ·refine wpC_skip ?_
      refine seqK_n ?_
      refine wpC_seq ?_
      refine d_reg rfl ?_
      refine wpI_s rfl trivial ?_
      refine d_n rfl trivial h fun x17 h => ?_
      refine wpI_s rfl trivial ?_
      refine wpI_nil ?_
      refine seqK_n ?_
      refine wpC_seq ?_
      refine wpC_seq ?_
      refine d_reg rfl ?_
      refine wpI_s rfl trivial ?_
      refine wpI_s rfl trivial ?_
      refine d_b rfl trivial h fun t18 h => ?_
      refine wpI_nil ?_
      refine seqK_n ?_
      refine d_cond rfl h (fun h => ?_) (fun h => ?_)
      ·refine wpC_seq ?_
       refine d_reg rfl ?_
       refine d_bsl (g := [.r [], .i .u8 ([] : List Int), .r []]) (by rfl) (fun _ => trivial) fun kb19 kz20 => ?_
       refine wpI_s rfl trivial ?_
       refine wpI_nil ?_
       refine seqK_n ?_
       refine wpC_ret ?_
       refine seqK_r ?_
       obtain rfl := Option.some.inj h
       exact d_ret2 [] [100] ⟨kb19, rfl, rfl, rfl⟩ (rIs_t rfl (den_s (rfl).symm)) leH2_n (leH2_c rfl rfl rfl rfl rfl rfl leH2_n) rfl
      ·refine wpC_skip ?_
       refine seqK_n ?_
       refine wpC_seq ?_
       refine d_reg rfl ?_
       refine wpI_s rfl trivial ?_
       refine wpI_s rfl trivial ?_
       refine wpI_nil ?_
       refine seqK_n ?_
       refine bind_e h fun o23 h hko23 => ?_
       refine d_join (fun (z : Int × Nat) => (match z with | (x21, kz22) => ⟨[(0, .c (.s 0 X0b X0o b_.length X0c)), (7, ib .i64 x17), (8, ib .i64 x21)], [⟨0, X0b, X0ty, true, X0fr, (.v undef), flat [.r X0pr, .i .u8 b_, .r X0ps]⟩], 100, kz22⟩ : St)) (fun (z : Int × Nat) => match z with | (x21, kz22) => (True) ∧ x21 = o23) ?_ ?_
       ·refine wpC_seq ?_
        refine d_reg rfl ?_
        refine wpI_s rfl trivial ?_
        refine d_b rfl trivial h fun t24 h => ?_
        refine wpI_nil ?_
        refine seqK_n ?_
        refine d_cond rfl h (fun h => ?_) (fun h => ?_)
        ·refine wpC_seq ?_
         refine d_reg rfl ?_
         refine wpI_s rfl trivial ?_
         refine wpI_s rfl trivial ?_
         refine gd_e h fun g25 h => ?_
         refine d_n rfl g25 h fun x26 h => ?_
         refine wpI_s rfl trivial ?_
         refine wpI_s rfl trivial ?_
         refine d_n rfl trivial h fun x27 h => ?_
         refine wpI_s rfl trivial ?_
         refine wpI_nil ?_
         refine seqK_n ?_
         refine wpC_seq ?_
         refine d_reg rfl ?_
         refine wpI_s rfl trivial ?_
         refine d_b rfl trivial h fun t28 h => ?_
         refine wpI_nil ?_
         refine seqK_n ?_
         refine d_cond rfl h (fun h => ?_) (fun h => ?_)
         ·refine d_reg rfl ?_
          refine wpI_s rfl trivial ?_
          refine wpI_s rfl trivial ?_
          refine wpI_s rfl trivial ?_
          refine wpI_nil ?_
          refine jnK_n (((b_.length : Nat) : Int), kz13) [0] ⟨trivial, Option.some.inj h⟩ (leS2_c rfl rfl (leS2_c rfl rfl (leS2_c rfl rfl leS2_n))) (leH2_c rfl rfl rfl rfl rfl rfl leH2_n) rfl rfl
         ·refine wpC_skip ?_
          refine jnK_n (x27, kz13) [0] ⟨trivial, Option.some.inj h⟩ (leS2_c rfl rfl (leS2_c rfl rfl (leS2_c rfl rfl leS2_n))) (leH2_c rfl rfl rfl rfl rfl rfl leH2_n) rfl rfl
        ·refine wpC_skip ?_
         refine jnK_n (x17, kz13) [0] ⟨trivial, Option.some.inj h⟩ (leS2_c rfl rfl (leS2_c rfl rfl (leS2_c rfl rfl leS2_n))) (leH2_c rfl rfl rfl rfl rfl rfl leH2_n) rfl rfl
       ·rintro ⟨x21, kz22⟩ ⟨_, rfl⟩
        show wpC _ _ _ _ _ (St.mk _ _ _ _)
        have h := hko23; clear hko23; try dsimp only at h
        refine wpC_seq ?_
        refine d_reg rfl ?_
        refine wpI_s rfl trivial ?_
        refine gd_e h fun g29 h => ?_
        refine d_call (fn_noZero (ps := Try.f30.params) (t := 24) (e := 5) (hf := (by kernel_rfl : Try.prog.funcs[30]? = some Try.f30)) (by kernel_rfl) (by kernel_rfl) (by kernel_rfl) (by kernel_rfl) (by kernel_rfl) 1001 g29) rfl rfl haveRw_n haveRo_n (own_of rfl) ?_
        rintro _ _ _ kz37 ⟨kb31, kc32, l30, kp33, rfl, rfl, rfl, h34, h35, h36⟩
        refine ⟨_, rfl, trivial, ?_⟩
        replace h := orc_e h l30 h34
        refine wpI_s rfl trivial ?_
        refine wpI_s rfl trivial ?_
        refine gd_e h fun g38 h => ?_
        have hC_ko39 : x17.toNat ≤ (x17.toNat - 0) := by have := g38; omega
        refine d_slsm (q0 := 0) (p := 0) rfl rfl rfl rfl ⟨g38.1, g38.2.1, g38.2.2.1⟩ g38.2.2.2 h36 (hs_zero (fun _ => rfl)) fun ko39 h41 => ?_
        replace h41 : 0 < x17.toNat → 0 = ko39 := by intro h0; have := h41 (by omega); omega
        have h43 : x17.toNat ≤ x17.toNat := by have := g38; omega
        refine wpI_s rfl trivial ?_
        refine wpI_nil ?_
        refine seqK_n ?_
        refine wpC_seq ?_
        refine d_reg rfl ?_
        refine wpI_s rfl trivial ?_
        refine wpI_s rfl trivial ?_
        refine d_cpy (j2 := 1) 1 (p := 0) (p2 := X0pr.length) (q0 := 0) (q2 := 0) rfl rfl rfl rfl rfl rfl h rfl rfl (hs_zero h41) (hs_zero X0S) (by rw [Nat.zero_add]; exact (Nat.le_refl _)) (fun _ => rfl) (fun _ => rfl) (fun _ => trivial) fun l44 h45 h => ?_
        refine wpI_s rfl trivial ?_
        refine wpI_nil ?_
        refine seqK_n ?_
        refine wpC_seq ?_
        refine wpC_block ?_
        refine bind_e h fun o53 h hko53 => ?_
        refine d_loop (fun (z : List Int × Int × Nat) => match z with | (l46, x48, kz49) => (l46, x48)) (fun (z : List Int × Int × Nat) => (match z with | (l46, x48, kz49) => ⟨[(7, ib .i64 x17), (8, ib .i64 x21), (9, .c (.s 1001 kb31 ko39 x17.toNat (x17.toNat - 0))), (10, ib .i64 x48)], [⟨1001, kb31, 5, false, (0, 0), (.v undef), flat [.r [], .i .u8 l46, .r kp33]⟩], 100, kz49⟩ : St)) (fun (z : List Int × Int × Nat) => match z with | (l46, x48, kz49) => (l46.length = x17.toNat)) (l44, ((min b_.length x17.toNat : Nat) : Int), kz37) [1001] h (h45.trans h34) (leS2_c rfl rfl (leS2_c rfl rfl (leS2_c rfl rfl (leS2_c rfl rfl leS2_n)))) (leH2_c rfl rfl rfl rfl rfl rfl leH2_n) rfl rfl ?_
        rintro rec ⟨l46, x48, kz49⟩ h47 h
        show wpC _ _ _ _ _ (St.mk _ _ _ _)
        unfold fn_bytes_Repeat_l1 at h; try dsimp only at h
        refine wpC_seq ?_
        refine wpC_seq ?_
        refine d_reg rfl ?_
        refine wpI_s rfl trivial ?_
        refine wpI_s rfl trivial ?_
        refine d_b rfl trivial h fun t54 h => ?_
        refine wpI_nil ?_
        refine seqK_n ?_
        refine d_cond rfl h (fun h => ?_) (fun h => ?_)
        ·refine wpC_skip ?_
         refine seqK_n ?_
         refine wpC_block ?_
         refine wpC_seq ?_
         refine d_reg rfl ?_
         refine wpI_s rfl trivial ?_
         refine wpI_s rfl trivial ?_
         refine d_n rfl trivial h fun x55 h => ?_
         refine wpI_s rfl trivial ?_
         refine wpI_nil ?_
         refine seqK_n ?_
         refine d_reg rfl ?_
         refine wpI_s rfl trivial ?_
         refine wpI_s rfl trivial ?_
         refine wpI_s rfl trivial ?_
         refine gd_e h fun g56 h => ?_
         refine d_sls (q0 := 0) (p := 0) rfl rfl rfl g56 hC_ko39 (hs_zero h41) fun ko57 kc58 h59 h60 => ?_
         replace h59 : 0 < (x17.toNat - x48.toNat) → 0 + x48.toNat = ko57 := by intro h0; have := h59 (by omega); omega
         replace h60 : (x17.toNat - x48.toNat) ≤ kc58 := by omega
         have h61 : x48.toNat + (x17.toNat - x48.toNat) ≤ x17.toNat := by have := g56; have := h43; omega
         refine wpI_s rfl trivial ?_
         refine wpI_s rfl trivial ?_
         refine gd_e h fun g62 h => ?_
         refine d_sls (q0 := 0) (p := 0) rfl rfl rfl g62 hC_ko39 (hs_zero h41) fun ko63 kc64 h65 h66 => ?_
         replace h65 : 0 < x55.toNat → 0 = ko63 := by intro h0; have := h65 (by omega); omega
         replace h66 : x55.toNat ≤ kc64 := by omega
         have h67 : x55.toNat ≤ x17.toNat := by have := g62; have := h43; omega
         refine d_cpy (j2 := 1) 1 (p := 0) (p2 := 0) (q0 := x48.toNat) (q2 := 0) rfl rfl rfl rfl rfl rfl h rfl rfl h59 (hs_zero h65) (by rw [h47]; first | exact h67 | (rw [Nat.zero_add]; exact h67)) (fun _ => rfl) (fun _ => rfl) (fun _ => trivial) fun l68 h69 h => ?_
         refine d_n rfl trivial h fun x70 h => ?_
         refine wpI_s rfl trivial ?_
         refine wpI_nil ?_
         refine blockK_n ?_
         refine lpK_n (l68, x70, kz49) [1001] (h69.trans h47) h (leS2_c rfl rfl (leS2_c rfl rfl (leS2_c rfl rfl (leS2_c rfl rfl leS2_n)))) (leH2_c rfl rfl rfl rfl rfl rfl leH2_n) rfl rfl
        ·refine wpC_exit ?_
         refine seqK_x ?_
         obtain rfl := Option.some.inj h
         have h := hko53; clear hko53; try dsimp only at h
         refine lpK_x ?_
         refine blockK_x ?_
         refine seqK_n ?_
         refine wpC_seq ?_
         refine d_reg rfl ?_
         refine wpI_s rfl trivial ?_
         refine wpI_s rfl trivial ?_
         refine wpI_nil ?_
         refine seqK_n ?_
         refine wpC_ret ?_
         obtain rfl := Option.some.inj h
         exact d_ret2 [] [1001] ⟨kb31, kp33, ko39, (x17.toNat - 0), rfl, rfl, rfl, (len_s h47 h41), (le_lenl h47 hC_ko39)⟩ (rIs_t rfl (den_s (h47).symm)) leH2_n (leH2_c rfl rfl rfl rfl rfl rfl leH2_n) rfl
 exact key.cong rfl blkEq_n (blkEq_c rfl rfl rfl rfl blkEq_n)

def ir_flash_New : IFn := ⟨14, (.seq (.reg [] (.cons ⟨none, (.s 2 (.mv (.k (.pointer none))))⟩ .nil)) (.seq (.reg [] (.cons ⟨none, (.s 4 (.mv (.t 0)))⟩ (.cons ⟨none, (.s 5 (.mnmx true (.k (.int .i64 0)) (.t 4)))⟩ (.cons ⟨none, (.s 6 (.mnmx false (.t 5) (.k (.int .i64 1024))))⟩ (.cons ⟨none, (.s 3 (.mv (.t 6)))⟩ .nil))))) (.seq (.reg [] (.cons ⟨none, (.w (some 7) (.bsl 5 (.int .u8 0) [(.int .u8 0)] 1 [(0, (1, (.k (.int .u8 255))))]))⟩ (.cons ⟨none, (.s 8 (.mv (.t 3)))⟩ (.cons ⟨none, (.s 9 (.bin .mul (.t 8) (.k (.int .i64 256))))⟩ (.cons ⟨none, (.call (some 10) 18 [(.t 7), (.t 9)])⟩ (.cons ⟨none, (.s 11 (.bld [(.int .i64 0), (.int .i64 0)] [(0, (1, (.k (.int .i64 (-1)))))]))⟩ (.cons ⟨none, (.s 12 (.bld [(.slice none 0 0), (.int .i64 0), (.int .i64 0), (.bool false), (.int .i64 0), (.int .i64 0)] [(0, (1, (.t 10))), (1, (2, (.t 11)))]))⟩ (.cons ⟨none, (.w (some 13) (.box 51 6 (.slice none 0 0) (.t 12)))⟩ (.cons ⟨none, (.s 2 (.mv (.t 13)))⟩ .nil))))))))) .ret))), [(.tmp 2)]⟩
theorem low_flash_New : lowF Try.prog Try.f6 = some ir_flash_New.strip := by kernel_rfl
theorem ok_flash_New {fu : Nat} (n0 : Nat) (n1 : Nat) {sectors_ : Int} {r : (Unit) ⊕ (List Int)} (h : fn_flash_New fu sectors_ = some r) :
  EV.Fn Try.prog 6 [ib .i64 sectors_] [] [] (fun v u nw => match r with | .inl _ => (∃ (kn9001 : Nat) (kn9002 : Nat), v = .c (.p n0 kn9001 0) ∧ u = [] ∧ nw = [⟨n0, kn9001, 51, false, (0, 0), .v undef, flat [.c (.s n1 kn9002 0 ((([] : List Int)).length) 0), .c (.v (.int .i64 (-1))), .c (.v (.int .i64 0)), .c (.v (.bool false)), .c (.v (.int .i64 0)), .c (.v (.int .i64 0))]⟩, ⟨n1, kn9002, 5, false, (0, 0), .v undef, flat [.r [], .i .u8 ([] : List Int), .r []]⟩]) | .inr (l9006) => (∃ (kn9004 : Nat) (kn9005 : Nat) (kw9007 : List C) (kn9008 : Nat) (kn9009 : Nat), v = .c (.p n0 kn9004 0) ∧ u = [] ∧ nw = [⟨n0, kn9004, 51, false, (0, 0), .v undef, flat [.c (.s n1 kn9005 kn9008 l9006.length kn9009), .c (.v (.int .i64 (-1))), .c (.v (.int .i64 0)), .c (.v (.bool false)), .c (.v (.int .i64 0)), .c (.v (.int .i64 0))]⟩, ⟨n1, kn9005, 5, false, (0, 0), .v undef, flat [.r [], .i .u8 l9006, .r kw9007]⟩] ∧ (0 < l9006.length → 0 = kn9008) ∧ (l9006.length ≤ kn9009))) := by
 have key : EV.Fn Try.prog 6 [ib .i64 sectors_] [] [] (fun v u nw => match r with | .inl _ => (∃ (kn9001 : Nat) (kn9002 : Nat), v = .c (.p n0 kn9001 0) ∧ u = [] ∧ nw = [⟨n0, kn9001, 51, false, (0, 0), .v undef, flat [.c (.s n1 kn9002 0 ((([] : List Int)).length) 0), .c (.v (.int .i64 (-1))), .c (.v (.int .i64 0)), .c (.v (.bool false)), .c (.v (.int .i64 0)), .c (.v (.int .i64 0))]⟩, ⟨n1, kn9002, 5, false, (0, 0), .v undef, flat [.r [], .i .u8 ([] : List Int), .r []]⟩]) | .inr (l9006) => (∃ (kn9004 : Nat) (kn9005 : Nat) (kw9007 : List C) (kn9008 : Nat) (kn9009 : Nat), v = .c (.p n0 kn9004 0) ∧ u = [] ∧ nw = [⟨n0, kn9004, 51, false, (0, 0), .v undef, flat [.c (.s n1 kn9005 kn9008 l9006.length kn9009), .c (.v (.int .i64 (-1))), .c (.v (.int .i64 0)), .c (.v (.bool false)), .c (.v (.int .i64 0)), .c (.v (.int .i64 0))]⟩, ⟨n1, kn9005, 5, false, (0, 0), .v undef, flat [.r [], .i .u8 l9006, .r kw9007]⟩] ∧ (0 < l9006.length → 0 = kn9008) ∧ (l9006.length ≤ kn9009))) := by
  unfold fn_flash_New at h
  refine d_fn (i := ir_flash_New) (fn := Try.f6) (sl0 := [(0, ib .i64 sectors_)]) (hp0 := []) (by kernel_rfl) low_flash_New mo rfl rfl rfl fun F z0 => ?_
  dsimp only [ir_flash_New]
  refine wpC_seq ?_
  refine d_reg rfl ?_
  refine wpI_s rfl trivial ?_
  refine wpI_nil ?_
  refine seqK_n ?_
  refine wpC_seq ?_
  refine d_reg rfl ?_
  refine wpI_s rfl trivial ?_
  refine d_n rfl trivial h fun x1 h => ?_
  refine d_n rfl trivial h fun x2 h => ?_
  refine wpI_s rfl trivial ?_
  refine wpI_nil ?_
  refine seqK_n ?_
  refine wpC_seq ?_
  refine d_reg rfl ?_
  refine d_bsl (g := [.r [], .i .u8 [255], .r []]) (by rfl) (fun _ => trivial) fun kb3 kz4 => ?_
  refine wpI_s rfl trivial ?_
  refine d_n rfl trivial h fun x5 h => ?_
  refine bind_e h fun o6 ho7 h => ?_
  rcases o6 with _ | l12
  ·try dsimp only at h
   refine d_call (ok_bytes_Repeat (i0 := 100) (n0 := 1001) (X0b := kb3) (X0ty := 5) (X0pr := []) (X0ps := []) (X0o := 0) (X0c := 1) (X0n := 1) (X0l := (rfl).symm) (X0S := (fun _ => rfl)) (X0C := (Nat.le_refl _)) (h := ho7)) rfl rfl haveRw_n (haveRo_c rfl rfl haveRo_n) (own_of rfl) ?_
   rintro _ _ _ kz9 ⟨k8, rfl, rfl, rfl⟩
   refine ⟨_, rfl, trivial, ?_⟩
   refine d_bldg (g := [.c (.v (.int .i64 (-1))), .c (.v (.int .i64 0))]) (g0 := [.c (.v (.int .i64 0)), .c (.v (.int .i64 0))]) (by rfl) (fill_c 0 rfl rfl rfl rfl rfl rfl) ?_
   refine d_bldg (g := [.c (.s 1001 k8 0 ((([] : List Int)).length) 0), .c (.v (.int .i64 (-1))), .c (.v (.int .i64 0)), .c (.v (.bool false)), .c (.v (.int .i64 0)), .c (.v (.int .i64 0))]) (g0 := [.c (.v (.slice none 0 0)), .c (.v (.int .i64 0)), .c (.v (.int .i64 0)), .c (.v (.bool false)), .c (.v (.int .i64 0)), .c (.v (.int .i64 0))]) (by rfl) (fill_c 0 rfl rfl rfl rfl rfl (fill_g 1 rfl rfl rfl rfl rfl rfl)) ?_
   refine d_box rfl (fun _ => trivial) rfl fun kb10 kz11 => ?_
   refine wpI_s rfl trivial ?_
   refine wpI_nil ?_
   refine seqK_n ?_
   refine wpC_ret ?_
   obtain rfl := Option.some.inj h
   exact d_ret2 [] [101, 1001] ⟨kb10, k8, rfl, rfl, rfl⟩ (rIs_t rfl rfl) leH2_n (leH2_c rfl rfl rfl rfl rfl rfl (leH2_c rfl rfl rfl rfl rfl rfl leH2_n)) rfl
  ·try dsimp only at h
   refine d_call (ok_bytes_Repeat (i0 := 100) (n0 := 1001) (X0b := kb3) (X0ty := 5) (X0pr := []) (X0ps := []) (X0o := 0) (X0c := 1) (X0n := 1) (X0l := (rfl).symm) (X0S := (fun _ => rfl)) (X0C := (Nat.le_refl _)) (h := ho7)) rfl rfl haveRw_n (haveRo_c rfl rfl haveRo_n) (own_of rfl) ?_
   rintro _ _ _ kz19 ⟨k13, k14, k15, k16, rfl, rfl, rfl, h17, h18⟩
   refine ⟨_, rfl, trivial, ?_⟩
   refine d_bldg (g := [.c (.v (.int .i64 (-1))), .c (.v (.int .i64 0))]) (g0 := [.c (.v (.int .i64 0)), .c (.v (.int .i64 0))]) (by rfl) (fill_c 0 rfl rfl rfl rfl rfl rfl) ?_
   refine d_bldg (g := [.c (.s 1001 k13 k15 l12.length k16), .c (.v (.int .i64 (-1))), .c (.v (.int .i64 0)), .c (.v (.bool false)), .c (.v (.int .i64 0)), .c (.v (.int .i64 0))]) (g0 := [.c (.v (.slice none 0 0)), .c (.v (.int .i64 0)), .c (.v (.int .i64 0)), .c (.v (.bool false)), .c (.v (.int .i64 0)), .c (.v (.int .i64 0))]) (by rfl) (fill_c 0 rfl rfl rfl rfl rfl (fill_g 1 rfl rfl rfl rfl rfl rfl)) ?_
   refine d_box rfl (fun _ => trivial) rfl fun kb20 kz21 => ?_
   refine wpI_s rfl trivial ?_
   refine wpI_nil ?_
   refine seqK_n ?_
   refine wpC_ret ?_
   obtain rfl := Option.some.inj h
   exact d_ret2 [] [101, 1001] ⟨kb20, k13, k14, k15, k16, rfl, rfl, rfl, h17, h18⟩ (rIs_t rfl rfl) leH2_n (leH2_c rfl rfl rfl rfl rfl rfl (leH2_c rfl rfl rfl rfl rfl rfl leH2_n)) rfl
 exact key.cong rfl blkEq_n blkEq_n

def ir_flash_Flash_Size : IFn := ⟨9, (.seq (.reg [] (.cons ⟨none, (.s 2 (.mv (.k (.int .i64 0))))⟩ .nil)) (.seq (.reg [] (.cons ⟨none, (.s 3 (.mv (.t 0)))⟩ (.cons ⟨none, (.s 4 (.nil (.t 3)))⟩ (.cons ⟨none, (.s 5 (.fa 0 (.t 4)))⟩ (.cons ⟨none, (.r 6 (.ld (.bool false) (.t 5)))⟩ (.cons ⟨none, (.s 7 (.len (.t 6)))⟩ (.cons ⟨none, (.s 8 (.bin .quo (.t 7) (.k (.int .i64 256))))⟩ (.cons ⟨none, (.s 2 (.mv (.t 8)))⟩ .nil)))))))) .ret)), [(.tmp 2)]⟩
theorem low_flash_Flash_Size : lowF Try.prog Try.f19 = some ir_flash_Flash_Size.strip := by kernel_rfl
theorem ok_flash_Flash_Size {fu : Nat} (i0 : Nat) (i1 : Nat) {X0b : Nat} {X0ty : Nat} {X1b : Nat} {X1ty : Nat} {X1pr : List C} {X1ps : List C} {X1o : Nat} {X1c : Nat} {X1n : Nat} {X0fr : Nat × Nat} {X1fr : Nat × Nat} {f_0 : List Int} {f_1 : Int} {f_2 : Int} {f_3 : Bool} {f_4 : Int} {f_5 : Int} (X1l : X1n = f_0.length) (X1S : 0 < X1n → X1pr.length = X1o) (X1C : X1n ≤ X1c) {x9001 : Int} (h : fn_flash_Flash_Size fu f_0 f_1 f_2 f_3 f_4 f_5 = some x9001) :
  EV.Fn Try.prog 19 [.c (.p 0 X0b 0)] [] [⟨i0, X0b, X0ty, true, X0fr, (.v undef), flat [.c (.s i1 X1b X1o X1n X1c), .c (.v (.int .i64 f_1)), .c (.v (.int .i64 f_2)), .c (.v (.bool f_3)), .c (.v (.int .i64 f_4)), .c (.v (.int .i64 f_5))]⟩, ⟨i1, X1b, X1ty, true, X1fr, (.v undef), flat [.r X1pr, .i .u8 f_0, .r X1ps]⟩] (fun v u nw => v = ib .i64 x9001 ∧ u = [] ∧ nw = []) := by
 subst X1l
 have key : EV.Fn Try.prog 19 [.c (.p 0 X0b 0)] [] [⟨0, X0b, X0ty, true, X0fr, (.v undef), flat [.c (.s 1 X1b X1o f_0.length X1c), .c (.v (.int .i64 f_1)), .c (.v (.int .i64 f_2)), .c (.v (.bool f_3)), .c (.v (.int .i64 f_4)), .c (.v (.int .i64 f_5))]⟩, ⟨1, X1b, X1ty, true, X1fr, (.v undef), flat [.r X1pr, .i .u8 f_0, .r X1ps]⟩] (fun v u nw => v = ib .i64 x9001 ∧ u = [] ∧ nw = []) := by
  unfold fn_flash_Flash_Size at h
  refine d_fn (i := ir_flash_Flash_Size) (fn := Try.f19) (sl0 := [(0, .c (.p 0 X0b 0))]) (hp0 := [⟨0, X0b, X0ty, true, X0fr, (.v undef), flat [.c (.s 1 X1b X1o f_0.length X1c), .c (.v (.int .i64 f_1)), .c (.v (.int .i64 f_2)), .c (.v (.bool f_3)), .c (.v (.int .i64 f_4)), .c (.v (.int .i64 f_5))]⟩, ⟨1, X1b, X1ty, true, X1fr, (.v undef), flat [.r X1pr, .i .u8 f_0, .r X1ps]⟩]) (by kernel_rfl) low_flash_Flash_Size mo rfl rfl rfl fun F z0 => ?_
  dsimp only [ir_flash_Flash_Size]
  refine wpC_seq ?_
  refine d_reg rfl ?_
  refine wpI_s rfl trivial ?_
  refine wpI_nil ?_
  refine seqK_n ?_
  refine wpC_seq ?_
  refine d_reg rfl ?_
  refine wpI_s rfl trivial ?_
  refine wpI_s rfl trivial ?_
  refine wpI_s rfl trivial ?_
  refine d_ldc 0 rfl rfl rfl rfl trivial ?_
  refine wpI_s rfl trivial ?_
  refine d_n rfl (by decide) h fun x1 h => ?_
  refine wpI_s rfl trivial ?_
  refine wpI_nil ?_
  refine seqK_n ?_
  refine wpC_ret ?_
  obtain rfl := Option.some.inj h
  exact d_ret2 [] [] ⟨rfl, rfl, rfl⟩ (rIs_t rfl rfl) leH2_n leH2_n rfl
 exact key.cong rfl blkEq_n (blkEq_c rfl rfl rfl rfl (blkEq_c rfl rfl rfl rfl blkEq_n))

def ir_verity_New : IFn := ⟨27, (.seq (.reg [] (.cons ⟨none, (.s 4 (.mv (.k (.pointer none))))⟩ (.cons ⟨none, (.s 5 (.mv (.k (.int .i64 0))))⟩ .nil))) (.seq (.seqJ (.reg [] (.cons ⟨none, (.s 6 (.mv (.t 0)))⟩ (.cons ⟨none, (.s 7 (.eqn false (.t 6)))⟩ (.cons ⟨none, (.s 8 (.mv (.t 7)))⟩ (.cons ⟨(some (8, false)), (.s 9 (.mv (.t 0)))⟩ (.cons ⟨(some (8, false)), (.call (some 10) 19 [(.t 9)])⟩ (.cons ⟨(some (8, false)), (.s 11 (.bin .lss (.t 10) (.k (.int .i64 128))))⟩ (.cons ⟨none, (.s 12 (.pick (.t 8) (.k (.bool true)) (.t 11)))⟩ (.cons ⟨none, (.s 13 (.mv (.t 12)))⟩ (.cons ⟨(some (13, false)), (.s 14 (.mv (.t 1)))⟩ (.cons ⟨(some (13, false)), (.s 15 (.bin .lss (.t 14) (.k (.int .i64 0))))⟩ (.cons ⟨none, (.s 16 (.pick (.t 13) (.k (.bool true)) (.t 15)))⟩ (.cons ⟨none, (.s 17 (.mv (.t 16)))⟩ (.cons ⟨(some (17, false)), (.s 18 (.mv (.t 1)))⟩ (.cons ⟨(some (17, false)), (.s 19 (.bin .gtr (.t 18) (.k (.int .i64 1))))⟩ (.cons ⟨none, (.s 20 (.pick (.t 17) (.k (.bool true)) (.t 19)))⟩ .nil)))))))))))))))) (.cond (.t 20) (.seq (.reg [] (.cons ⟨none, (.s 4 (.mv (.k (.pointer none))))⟩ (.cons ⟨none, (.s 5 (.mv (.k (.int .i64 1))))⟩ .nil))) .ret) .skip)) (.seq (.reg [] (.cons ⟨none, (.s 21 (.mv (.t 0)))⟩ (.cons ⟨none, (.s 22 (.mv (.t 1)))⟩ (.cons ⟨none, (.s 23 (.bin .mul (.t 22) (.k (.int .i64 32))))⟩ (.cons ⟨none, (.s 24 (.bin .add (.k (.int .i64 64)) (.t 23)))⟩ (.cons ⟨none, (.s 25 (.bld [(.pointer none), (.int .i64 0)] [(0, (1, (.t 21))), (1, (1, (.t 24)))]))⟩ (.cons ⟨none, (.w (some 26) (.box 54 2 (.pointer none) (.t 25)))⟩ (.cons ⟨none, (.s 4 (.mv (.t 26)))⟩ (.cons ⟨none, (.s 5 (.mv (.k (.int .i64 0))))⟩ .nil))))))))) .ret))), [(.tmp 4), (.tmp 5)]⟩
theorem low_verity_New : lowF Try.prog Try.f7 = some ir_verity_New.strip := by kernel_rfl
theorem ok_verity_New {fu : Nat} (i0 : Nat) (i1 : Nat) (n0 : Nat) {X0b : Nat} {X0ty : Nat} {X1b : Nat} {X1ty : Nat} {X1pr : List C} {X1ps : List C} {X1o : Nat} {X1c : Nat} {X1n : Nat} {X0fr : Nat × Nat} {X1fr : Nat × Nat} {f_0 : List Int} {f_1 : Int} {f_2 : Int} {f_3 : Bool} {f_4 : Int} {f_5 : Int} {slot_ : Int} (X1l : X1n = f_0.length) (X1S : 0 < X1n → X1pr.length = X1o) (X1C : X1n ≤ X1c) {r : (Unit) ⊕ (Int)} (h : fn_verity_New fu f_0 f_1 f_2 f_3 f_4 f_5 slot_ = some r) :
  EV.Fn Try.prog 7 [.c (.p 0 X0b 0), ib .i64 slot_] [] [⟨i0, X0b, X0ty, true, X0fr, (.v undef), flat [.c (.s i1 X1b X1o X1n X1c), .c (.v (.int .i64 f_1)), .c (.v (.int .i64 f_2)), .c (.v (.bool f_3)), .c (.v (.int .i64 f_4)), .c (.v (.int .i64 f_5))]⟩, ⟨i1, X1b, X1ty, true, X1fr, (.v undef), flat [.r X1pr, .i .u8 f_0, .r X1ps]⟩] (fun v u nw => match r with | .inl _ => (v = .t2 (.c (.v (.pointer none))) (ib .i64 1) ∧ u = [] ∧ nw = []) | .inr (x9003) => (∃ (kn9002 : Nat), v = .t2 (.c (.p n0 kn9002 0)) (ib .i64 0) ∧ u = [] ∧ nw = [⟨n0, kn9002, 54, false, (0, 0), .v undef, flat [.c (.p i0 X0b 0), .c (.v (.int .i64 x9003))]⟩])) := by
 subst X1l
 have key : EV.Fn Try.prog 7 [.c (.p 0 X0b 0), ib .i64 slot_] [] [⟨0, X0b, X0ty, true, X0fr, (.v undef), flat [.c (.s 1 X1b X1o f_0.length X1c), .c (.v (.int .i64 f_1)), .c (.v (.int .i64 f_2)), .c (.v (.bool f_3)), .c (.v (.int .i64 f_4)), .c (.v (.int .i64 f_5))]⟩, ⟨1, X1b, X1ty, true, X1fr, (.v undef), flat [.r X1pr, .i .u8 f_0, .r X1ps]⟩] (fun v u nw => match r with | .inl _ => (v = .t2 (.c (.v (.pointer none))) (ib .i64 1) ∧ u = [] ∧ nw = []) | .inr (x9003) => (∃ (kn9002 : Nat), v = .t2 (.c (.p n0 kn9002 0)) (ib .i64 0) ∧ u = [] ∧ nw = [⟨n0, kn9002, 54, false, (0, 0), .v undef, flat [.c (.p i0 X0b 0), .c (.v (.int .i64 x9003))]⟩])) := by
  unfold fn_verity_New at h
  refine d_fn (i := ir_verity_New) (fn := Try.f7) (sl0 := [(0, .c (.p 0 X0b 0)), (1, ib .i64 slot_)]) (hp0 := [⟨0, X0b, X0ty, true, X0fr, (.v undef), flat [.c (.s 1 X1b X1o f_0.length X1c), .c (.v (.int .i64 f_1)), .c (.v (.int .i64 f_2)), .c (.v (.bool f_3)), .c (.v (.int .i64 f_4)), .c (.v (.int .i64 f_5))]⟩, ⟨1, X1b, X1ty, true, X1fr, (.v undef), flat [.r X1pr, .i .u8 f_0, .r X1ps]⟩]) (by kernel_rfl) low_verity_New mo rfl rfl rfl fun F z0 => ?_
  dsimp only [ir_verity_New]
  refine wpC_seq ?_
  refine d_reg rfl ?_
  refine wpI_s rfl trivial ?_
  refine wpI_s rfl trivial ?_
  refine wpI_nil ?_
  refine seqK_n ?_
  refine wpC_seq ?_
  refine bind_e h fun o3 h hko3 => ?_
  refine d_join (fun (z : Bool × Nat) => (match z with | (t1, kz2) => ⟨[(0, .c (.p 0 X0b 0)), (1, ib .i64 slot_), (20, bb t1)], [⟨0, X0b, X0ty, true, X0fr, (.v undef), flat [.c (.s 1 X1b X1o f_0.length X1c), .c (.v (.int .i64 f_1)), .c (.v (.int .i64 f_2)), .c (.v (.bool f_3)), .c (.v (.int .i64 f_4)), .c (.v (.int .i64 f_5))]⟩, ⟨1, X1b, X1ty, true, X1fr, (.v undef), flat [.r X1pr, .i .u8 f_0, .r X1ps]⟩], 100, kz2⟩ : St)) (fun (z : Bool × Nat) => match z with | (t1, kz2) => (True) ∧ t1 = o3) ?_ ?_
  ·refine d_reg rfl ?_
   refine wpI_s rfl trivial ?_
   refine wpI_s rfl trivial ?_
   refine wpI_s rfl trivial ?_
   refine d_guardT rfl ?_
   refine wpI_s rfl trivial ?_
   refine d_guardT rfl ?_
   refine bind_e h fun x6 ho5 h => ?_
   refine d_call (ok_flash_Flash_Size (i0 := 0) (i1 := 1)  (X0b := X0b) (X0ty := X0ty) (X1b := X1b) (X1ty := X1ty) (X1pr := X1pr) (X1ps := X1ps) (X1o := X1o) (X1c := X1c) (X1n := f_0.length) (X1l := rfl) (X1S := X1S) (X1C := X1C) (h := ho5)) rfl rfl haveRw_n (haveRo_c rfl rfl (haveRo_c rfl rfl haveRo_n)) (own_of rfl) ?_
   rintro _ _ _ kz7 ⟨rfl, rfl, rfl⟩
   refine ⟨_, rfl, trivial, ?_⟩
   refine d_guardT rfl ?_
   refine d_b rfl trivial h fun t8 h => ?_
   refine d_pickF rfl rfl rfl ?_
   refine wpI_s rfl trivial ?_
   refine d_guard rfl h (fun h => ?_) (fun h => ?_)
   ·refine wpI_s rfl trivial ?_
    refine d_guardT rfl ?_
    refine d_b rfl trivial h fun t9 h => ?_
    refine d_pickF rfl rfl rfl ?_
    refine wpI_s rfl trivial ?_
    refine d_guard rfl h (fun h => ?_) (fun h => ?_)
    ·refine wpI_s rfl trivial ?_
     refine d_guardT rfl ?_
     refine d_b rfl trivial h fun t10 h => ?_
     refine d_pickF rfl rfl rfl ?_
     refine wpI_nil ?_
     refine jnK_n (t10, kz7) [0, 1] ⟨trivial, Option.some.inj h⟩ (leS2_c rfl rfl (leS2_c rfl rfl (leS2_c rfl rfl leS2_n))) (leH2_c rfl rfl rfl rfl rfl rfl (leH2_c rfl rfl rfl rfl rfl rfl leH2_n)) rfl rfl
    ·refine d_guardF rfl rfl ?_
     refine d_pickT rfl rfl rfl ?_
     refine wpI_nil ?_
     refine jnK_n (true, kz7) [0, 1] ⟨trivial, Option.some.inj h⟩ (leS2_c rfl rfl (leS2_c rfl rfl (leS2_c rfl rfl leS2_n))) (leH2_c rfl rfl rfl rfl rfl rfl (leH2_c rfl rfl rfl rfl rfl rfl leH2_n)) rfl rfl
   ·refine d_guardF rfl rfl ?_
    refine d_pickT rfl rfl rfl ?_
    refine wpI_s rfl trivial ?_
    refine d_guardF rfl rfl ?_
    refine d_guardF rfl rfl ?_
    refine d_pickT rfl rfl rfl ?_
    refine wpI_nil ?_
    refine jnK_n (true, kz7) [0, 1] ⟨trivial, Option.some.inj h⟩ (leS2_c rfl rfl (leS2_c rfl rfl (leS2_c rfl rfl leS2_n))) (leH2_c rfl rfl rfl rfl rfl rfl (leH2_c rfl rfl rfl rfl rfl rfl leH2_n)) rfl rfl
  ·rintro ⟨t1, kz2⟩ ⟨_, rfl⟩
   show wpC _ _ _ _ _ (St.mk _ _ _ _)
   have h := hko3; clear hko3; try dsimp only at h
   refine d_cond rfl h (fun h => ?_) (fun h => ?_)
   ·refine wpC_seq ?_
    refine d_reg rfl ?_
    refine wpI_s rfl trivial ?_
    refine wpI_s rfl trivial ?_
    refine wpI_nil ?_
    refine seqK_n ?_
    refine wpC_ret ?_
    refine seqK_r ?_
    obtain rfl := Option.some.inj h
    exact d_ret2 [] [] ⟨rfl, rfl, rfl⟩ ⟨(rIs_t rfl rfl), (rIs_t rfl rfl)⟩ leH2_n leH2_n rfl
   ·refine wpC_skip ?_
    refine seqK_n ?_
    refine wpC_seq ?_
    refine d_reg rfl ?_
    refine wpI_s rfl trivial ?_
    refine wpI_s rfl trivial ?_
    refine d_n rfl trivial h fun x11 h => ?_
    refine d_n rfl trivial h fun x12 h => ?_
    refine d_bldg (g := [.c (.p 0 X0b 0), .c (.v (.int .i64 x12))]) (g0 := [.c (.v (.pointer none)), .c (.v (.int .i64 0))]) (by rfl) (fill_c 0 rfl rfl rfl rfl rfl (fill_c 1 rfl rfl rfl rfl rfl rfl)) ?_
    refine d_box rfl (fun _ => trivial) rfl fun kb13 kz14 => ?_
    refine wpI_s rfl trivial ?_
    refine wpI_s rfl trivial ?_
    refine wpI_nil ?_
    refine seqK_n ?_
    refine wpC_ret ?_
    obtain rfl := Option.some.inj h
    exact d_ret2 [] [100] ⟨kb13, rfl, rfl, rfl⟩ ⟨(rIs_t rfl rfl), (rIs_t rfl rfl)⟩ leH2_n (leH2_c rfl rfl rfl rfl rfl rfl leH2_n) rfl
 exact key.cong rfl blkEq_n (blkEq_c rfl rfl rfl rfl (blkEq_c rfl rfl rfl rfl blkEq_n))

def ir_portcullislaw25_num : IFn := ⟨4, (.seq (.reg [] (.cons ⟨none, (.s 2 (.mv (.k (.int .i64 0))))⟩ .nil)) (.seq (.reg [] (.cons ⟨none, (.s 3 (.mv (.t 0)))⟩ (.cons ⟨none, (.s 2 (.mv (.t 3)))⟩ .nil))) .ret)), [(.tmp 2)]⟩
theorem low_portcullislaw25_num : lowF Try.prog Try.f8 = some ir_portcullislaw25_num.strip := by kernel_rfl
theorem ok_portcullislaw25_num {fu : Nat} {r : Unit} (h : fn_portcullislaw25_num fu = some r) :
  EV.Fn Try.prog 8 [ib .i64 0] [] [] (fun v u nw => v = ib .i64 0 ∧ u = [] ∧ nw = []) := by
 have key : EV.Fn Try.prog 8 [ib .i64 0] [] [] (fun v u nw => v = ib .i64 0 ∧ u = [] ∧ nw = []) := by
  unfold fn_portcullislaw25_num at h
  refine d_fn (i := ir_portcullislaw25_num) (fn := Try.f8) (sl0 := [(0, ib .i64 0)]) (hp0 := []) (by kernel_rfl) low_portcullislaw25_num mo rfl rfl rfl fun F z0 => ?_
  dsimp only [ir_portcullislaw25_num]
  refine wpC_seq ?_
  refine d_reg rfl ?_
  refine wpI_s rfl trivial ?_
  refine wpI_nil ?_
  refine seqK_n ?_
  refine wpC_seq ?_
  refine d_reg rfl ?_
  refine wpI_s rfl trivial ?_
  refine wpI_s rfl trivial ?_
  refine wpI_nil ?_
  refine seqK_n ?_
  refine wpC_ret ?_
  clear h
  exact d_ret2 [] [] ⟨rfl, rfl, rfl⟩ (rIs_t rfl rfl) leH2_n leH2_n rfl
 exact key.cong rfl blkEq_n blkEq_n

def ir_verity_is : IFn := ⟨9, (.seq (.reg [] (.cons ⟨none, (.s 2 (.mv (.k (.bool false))))⟩ .nil)) (.seqJ (.reg [] (.cons ⟨none, (.s 3 (.mv (.t 0)))⟩ (.cons ⟨none, (.s 4 (.bin .geq (.t 3) (.k (.int .i64 0))))⟩ (.cons ⟨none, (.s 5 (.mv (.t 4)))⟩ (.cons ⟨(some (5, true)), (.s 6 (.mv (.t 0)))⟩ (.cons ⟨(some (5, true)), (.s 7 (.bin .lss (.t 6) (.k (.int .i64 32))))⟩ (.cons ⟨none, (.s 8 (.pick (.t 5) (.t 7) (.k (.bool false))))⟩ (.cons ⟨none, (.s 2 (.mv (.t 8)))⟩ .nil)))))))) .ret)), [(.tmp 2)]⟩
theorem low_verity_is : lowF Try.prog Try.f20 = some ir_verity_is.strip := by kernel_rfl
theorem ok_verity_is {fu : Nat} {i_ : Int} {t9001 : Bool} (h : fn_verity_is fu i_ = some t9001) :
  EV.Fn Try.prog 20 [ib .i64 i_] [] [] (fun v u nw => v = bb t9001 ∧ u = [] ∧ nw = []) := by
 have key : EV.Fn Try.prog 20 [ib .i64 i_] [] [] (fun v u nw => v = bb t9001 ∧ u = [] ∧ nw = []) := by
  unfold fn_verity_is at h
  refine d_fn (i := ir_verity_is) (fn := Try.f20) (sl0 := [(0, ib .i64 i_)]) (hp0 := []) (by kernel_rfl) low_verity_is mo rfl rfl rfl fun F z0 => ?_
  dsimp only [ir_verity_is]
  refine wpC_seq ?_
  refine d_reg rfl ?_
  refine wpI_s rfl trivial ?_
  refine wpI_nil ?_
  refine seqK_n ?_
  refine bind_e h fun o3 h hko3 => ?_
  refine d_join (fun (z : Bool × Nat) => (match z with | (t1, kz2) => ⟨[(2, bb t1)], [], 100, kz2⟩ : St)) (fun (z : Bool × Nat) => match z with | (t1, kz2) => (True) ∧ t1 = o3) ?_ ?_
  ·refine d_reg rfl ?_
   refine wpI_s rfl trivial ?_
   refine d_b rfl trivial h fun t4 h => ?_
   refine wpI_s rfl trivial ?_
   refine d_guard rfl h (fun h => ?_) (fun h => ?_)
   ·refine wpI_s rfl trivial ?_
    refine d_guardT rfl ?_
    refine d_b rfl trivial h fun t5 h => ?_
    refine d_pickT rfl rfl rfl ?_
    refine wpI_s rfl trivial ?_
    refine wpI_nil ?_
    refine jnK_n (t5, z0) [] ⟨trivial, Option.some.inj h⟩ (leS2_c rfl rfl leS2_n) leH2_n rfl rfl
   ·refine d_guardF rfl rfl ?_
    refine d_pickF rfl rfl rfl ?_
    refine wpI_s rfl trivial ?_
    refine wpI_nil ?_
    refine jnK_n (false, z0) [] ⟨trivial, Option.some.inj h⟩ (leS2_c rfl rfl leS2_n) leH2_n rfl rfl
  ·rintro ⟨t1, kz2⟩ ⟨_, rfl⟩
   show wpC _ _ _ _ _ (St.mk _ _ _ _)
   have h := hko3; clear hko3; try dsimp only at h
   refine wpC_ret ?_
   obtain rfl := Option.some.inj h
   exact d_ret2 [] [] ⟨rfl, rfl, rfl⟩ (rIs_t rfl rfl) leH2_n leH2_n rfl
 exact key.cong rfl blkEq_n blkEq_n

def ir_flash_Flash_is : IFn := ⟨33, (.seq (.reg [] (.cons ⟨none, (.s 6 (.mv (.k (.bool false))))⟩ .nil)) (.seqJ (.reg [] (.cons ⟨none, (.s 7 (.mv (.t 1)))⟩ (.cons ⟨none, (.s 8 (.bin .geq (.t 7) (.k (.int .i64 0))))⟩ (.cons ⟨none, (.s 9 (.mv (.t 8)))⟩ (.cons ⟨(some (9, true)), (.s 10 (.mv (.t 2)))⟩ (.cons ⟨(some (9, true)), (.s 11 (.bin .geq (.t 10) (.k (.int .i64 0))))⟩ (.cons ⟨none, (.s 12 (.pick (.t 9) (.t 11) (.k (.bool false))))⟩ (.cons ⟨none, (.s 13 (.mv (.t 12)))⟩ (.cons ⟨(some (13, true)), (.s 14 (.mv (.t 1)))⟩ (.cons ⟨(some (13, true)), (.s 15 (.mv (.t 0)))⟩ (.cons ⟨(some (13, true)), (.s 16 (.nil (.t 15)))⟩ (.cons ⟨(some (13, true)), (.s 17 (.fa 0 (.t 16)))⟩ (.cons ⟨(some (13, true)), (.r 18 (.ld (.bool false) (.t 17)))⟩ (.cons ⟨(some (13, true)), (.s 19 (.len (.t 18)))⟩ (.cons ⟨(some (13, true)), (.s 20 (.bin .leq (.t 14) (.t 19)))⟩ (.cons ⟨none, (.s 21 (.pick (.t 13) (.t 20) (.k (.bool false))))⟩ (.cons ⟨none, (.s 22 (.mv (.t 21)))⟩ (.cons ⟨(some (22, true)), (.s 23 (.mv (.t 2)))⟩ (.cons ⟨(some (22, true)), (.s 24 (.mv (.t 0)))⟩ (.cons ⟨(some (22, true)), (.s 25 (.nil (.t 24)))⟩ (.cons ⟨(some (22, true)), (.s 26 (.fa 0 (.t 25)))⟩ (.cons ⟨(some (22, true)), (.r 27 (.ld (.bool false) (.t 26)))⟩ (.cons ⟨(some (22, true)), (.s 28 (.len (.t 27)))⟩ (.cons ⟨(some (22, true)), (.s 29 (.mv (.t 1)))⟩ (.cons ⟨(some (22, true)), (.s 30 (.bin .sub (.t 28) (.t 29)))⟩ (.cons ⟨(some (22, true)), (.s 31 (.bin .leq (.t 23) (.t 30)))⟩ (.cons ⟨none, (.s 32 (.pick (.t 22) (.t 31) (.k (.bool false))))⟩ (.cons ⟨none, (.s 6 (.mv (.t 32)))⟩ .nil)))))))))))))))))))))))))))) .ret)), [(.tmp 6)]⟩
theorem low_flash_Flash_is : lowF Try.prog Try.f32 = some ir_flash_Flash_is.strip := by kernel_rfl
theorem ok_flash_Flash_is {fu : Nat} (i0 : Nat) (i1 : Nat) {X0b : Nat} {X0ty : Nat} {X1b : Nat} {X1ty : Nat} {X1pr : List C} {X1ps : List C} {X1o : Nat} {X1c : Nat} {X1n : Nat} {X0fr : Nat × Nat} {X1fr : Nat × Nat} {f_0 : List Int} {f_1 : Int} {f_2 : Int} {f_3 : Bool} {f_4 : Int} {f_5 : Int} {at_ : Int} {n_ : Int} (X1l : X1n = f_0.length) (X1S : 0 < X1n → X1pr.length = X1o) (X1C : X1n ≤ X1c) {t9001 : Bool} (h : fn_flash_Flash_is fu f_0 f_1 f_2 f_3 f_4 f_5 at_ n_ = some t9001) :
  EV.Fn Try.prog 32 [.c (.p 0 X0b 0), ib .i64 at_, ib .i64 n_] [] [⟨i0, X0b, X0ty, true, X0fr, (.v undef), flat [.c (.s i1 X1b X1o X1n X1c), .c (.v (.int .i64 f_1)), .c (.v (.int .i64 f_2)), .c (.v (.bool f_3)), .c (.v (.int .i64 f_4)), .c (.v (.int .i64 f_5))]⟩, ⟨i1, X1b, X1ty, true, X1fr, (.v undef), flat [.r X1pr, .i .u8 f_0, .r X1ps]⟩] (fun v u nw => v = bb t9001 ∧ u = [] ∧ nw = []) := by
 subst X1l
 have key : EV.Fn Try.prog 32 [.c (.p 0 X0b 0), ib .i64 at_, ib .i64 n_] [] [⟨0, X0b, X0ty, true, X0fr, (.v undef), flat [.c (.s 1 X1b X1o f_0.length X1c), .c (.v (.int .i64 f_1)), .c (.v (.int .i64 f_2)), .c (.v (.bool f_3)), .c (.v (.int .i64 f_4)), .c (.v (.int .i64 f_5))]⟩, ⟨1, X1b, X1ty, true, X1fr, (.v undef), flat [.r X1pr, .i .u8 f_0, .r X1ps]⟩] (fun v u nw => v = bb t9001 ∧ u = [] ∧ nw = []) := by
  unfold fn_flash_Flash_is at h
  refine d_fn (i := ir_flash_Flash_is) (fn := Try.f32) (sl0 := [(0, .c (.p 0 X0b 0)), (1, ib .i64 at_), (2, ib .i64 n_)]) (hp0 := [⟨0, X0b, X0ty, true, X0fr, (.v undef), flat [.c (.s 1 X1b X1o f_0.length X1c), .c (.v (.int .i64 f_1)), .c (.v (.int .i64 f_2)), .c (.v (.bool f_3)), .c (.v (.int .i64 f_4)), .c (.v (.int .i64 f_5))]⟩, ⟨1, X1b, X1ty, true, X1fr, (.v undef), flat [.r X1pr, .i .u8 f_0, .r X1ps]⟩]) (by kernel_rfl) low_flash_Flash_is mo rfl rfl rfl fun F z0 => ?_
  dsimp only [ir_flash_Flash_is]
  refine wpC_seq ?_
  refine d_reg rfl ?_
  refine wpI_s rfl trivial ?_
  refine wpI_nil ?_
  refine seqK_n ?_
  refine bind_e h fun o3 h hko3 => ?_
  refine d_join (fun (z : Bool × Nat) => (match z with | (t1, kz2) => ⟨[(6, bb t1)], [], 100, kz2⟩ : St)) (fun (z : Bool × Nat) => match z with | (t1, kz2) => (True) ∧ t1 = o3) ?_ ?_
  ·refine d_reg rfl ?_
   refine wpI_s rfl trivial ?_
   refine d_b rfl trivial h fun t4 h => ?_
   refine wpI_s rfl trivial ?_
   refine d_guard rfl h (fun h => ?_) (fun h => ?_)
   ·refine wpI_s rfl trivial ?_
    refine d_guardT rfl ?_
    refine d_b rfl trivial h fun t5 h => ?_
    refine d_pickT rfl rfl rfl ?_
    refine wpI_s rfl trivial ?_
    refine d_guard rfl h (fun h => ?_) (fun h => ?_)
    ·refine wpI_s rfl trivial ?_
     refine d_guardT rfl ?_
     refine wpI_s rfl trivial ?_
     refine d_guardT rfl ?_
     refine wpI_s rfl trivial ?_
     refine d_guardT rfl ?_
     refine wpI_s rfl trivial ?_
     refine d_guardT rfl ?_
     refine d_ldc 0 rfl rfl rfl rfl trivial ?_
     refine d_guardT rfl ?_
     refine wpI_s rfl trivial ?_
     refine d_guardT rfl ?_
     refine d_b rfl trivial h fun t6 h => ?_
     refine d_pickT rfl rfl rfl ?_
     refine wpI_s rfl trivial ?_
     refine d_guard rfl h (fun h => ?_) (fun h => ?_)
     ·refine wpI_s rfl trivial ?_
      refine d_guardT rfl ?_
      refine wpI_s rfl trivial ?_
      refine d_guardT rfl ?_
      refine wpI_s rfl trivial ?_
      refine d_guardT rfl ?_
      refine wpI_s rfl trivial ?_
      refine d_guardT rfl ?_
      refine d_ldc 0 rfl rfl rfl rfl trivial ?_
      refine d_guardT rfl ?_
      refine wpI_s rfl trivial ?_
      refine d_guardT rfl ?_
      refine wpI_s rfl trivial ?_
      refine d_guardT rfl ?_
      refine d_n rfl trivial h fun x7 h => ?_
      refine d_guardT rfl ?_
      refine d_b rfl trivial h fun t8 h => ?_
      refine d_pickT rfl rfl rfl ?_
      refine wpI_s rfl trivial ?_
      refine wpI_nil ?_
      refine jnK_n (t8, z0) [] ⟨trivial, Option.some.inj h⟩ (leS2_c rfl rfl leS2_n) leH2_n rfl rfl
     ·refine d_guardF rfl rfl ?_
      refine d_guardF rfl rfl ?_
      refine d_guardF rfl rfl ?_
      refine d_guardF rfl rfl ?_
      refine d_guardF rfl rfl ?_
      refine d_guardF rfl rfl ?_
      refine d_guardF rfl rfl ?_
      refine d_guardF rfl rfl ?_
      refine d_pickF rfl rfl rfl ?_
      refine wpI_s rfl trivial ?_
      refine wpI_nil ?_
      refine jnK_n (false, z0) [] ⟨trivial, Option.some.inj h⟩ (leS2_c rfl rfl leS2_n) leH2_n rfl rfl
    ·refine d_guardF rfl rfl ?_
     refine d_guardF rfl rfl ?_
     refine d_guardF rfl rfl ?_
     refine d_guardF rfl rfl ?_
     refine d_guardF rfl rfl ?_
     refine d_guardF rfl rfl ?_
     refine d_pickF rfl rfl rfl ?_
     refine wpI_s rfl trivial ?_
     refine d_guardF rfl rfl ?_
     refine d_guardF rfl rfl ?_
     refine d_guardF rfl rfl ?_
     refine d_guardF rfl rfl ?_
     refine d_guardF rfl rfl ?_
     refine d_guardF rfl rfl ?_
     refine d_guardF rfl rfl ?_
     refine d_guardF rfl rfl ?_
     refine d_guardF rfl rfl ?_
     refine d_pickF rfl rfl rfl ?_
     refine wpI_s rfl trivial ?_
     refine wpI_nil ?_
     refine jnK_n (false, z0) [] ⟨trivial, Option.some.inj h⟩ (leS2_c rfl rfl leS2_n) leH2_n rfl rfl
   ·refine d_guardF rfl rfl ?_
    refine d_pickF rfl rfl rfl ?_
    refine wpI_s rfl trivial ?_
    refine d_guardF rfl rfl ?_
    refine d_guardF rfl rfl ?_
    refine d_guardF rfl rfl ?_
    refine d_guardF rfl rfl ?_
    refine d_guardF rfl rfl ?_
    refine d_guardF rfl rfl ?_
    refine d_guardF rfl rfl ?_
    refine d_pickF rfl rfl rfl ?_
    refine wpI_s rfl trivial ?_
    refine d_guardF rfl rfl ?_
    refine d_guardF rfl rfl ?_
    refine d_guardF rfl rfl ?_
    refine d_guardF rfl rfl ?_
    refine d_guardF rfl rfl ?_
    refine d_guardF rfl rfl ?_
    refine d_guardF rfl rfl ?_
    refine d_guardF rfl rfl ?_
    refine d_guardF rfl rfl ?_
    refine d_pickF rfl rfl rfl ?_
    refine wpI_s rfl trivial ?_
    refine wpI_nil ?_
    refine jnK_n (false, z0) [] ⟨trivial, Option.some.inj h⟩ (leS2_c rfl rfl leS2_n) leH2_n rfl rfl
  ·rintro ⟨t1, kz2⟩ ⟨_, rfl⟩
   show wpC _ _ _ _ _ (St.mk _ _ _ _)
   have h := hko3; clear hko3; try dsimp only at h
   refine wpC_ret ?_
   obtain rfl := Option.some.inj h
   exact d_ret2 [] [] ⟨rfl, rfl, rfl⟩ (rIs_t rfl rfl) leH2_n leH2_n rfl
 exact key.cong rfl blkEq_n (blkEq_c rfl rfl rfl rfl (blkEq_c rfl rfl rfl rfl blkEq_n))

def ir_bytes_Clone : IFn := ⟨8, (.seq (.reg [] (.cons ⟨none, (.s 2 (.mv (.k (.slice none 0 0))))⟩ .nil)) (.seq (.seq (.reg [] (.cons ⟨none, (.s 3 (.mv (.t 0)))⟩ (.cons ⟨none, (.s 4 (.eqz false (.t 3)))⟩ .nil))) (.cond (.t 4) (.seq (.reg [] (.cons ⟨none, (.s 2 (.mv (.k (.slice none 0 0))))⟩ .nil)) .ret) .skip)) (.seq (.reg [] (.cons ⟨none, (.w (some 5) (.bsl 5 (.int .u8 0) [] 0 []))⟩ (.cons ⟨none, (.s 6 (.mv (.t 0)))⟩ (.cons ⟨none, (.app (some 7) 5 1 (.int .u8 0) (.t 5) (.t 6))⟩ (.cons ⟨none, (.s 2 (.mv (.t 7)))⟩ .nil))))) .ret))), [(.tmp 2)]⟩
theorem low_bytes_Clone : lowF Try.prog Try.f33 = some ir_bytes_Clone.strip := by kernel_rfl
theorem ok_bytes_Clone {fu : Nat} (i0 : Nat) (n0 : Nat) {X0b : Nat} {X0ty : Nat} {X0pr : List C} {X0ps : List C} {X0o : Nat} {X0c : Nat} {X0n : Nat} {X0fr : Nat × Nat} {b_ : List Int} (X0l : X0n = b_.length) (X0S : 0 < X0n → X0pr.length = X0o) (X0C : X0n ≤ X0c) {l9004 : List Int} (h : fn_bytes_Clone fu b_ = some l9004) :
  EV.Fn Try.prog 33 [.c (.s 0 X0b X0o X0n X0c)] [] [⟨i0, X0b, X0ty, true, X0fr, (.v undef), flat [.r X0pr, .i .u8 b_, .r X0ps]⟩] (fun v u nw => ∃ (kn9001 : Nat) (kn9002 : Nat) (kw9003 : List C) (kw9005 : List C) (kn9006 : Nat) (kn9007 : Nat), v = .c (.s n0 kn9001 kn9006 l9004.length kn9007) ∧ u = [] ∧ nw = [⟨n0, kn9001, kn9002, false, (0, 0), .v undef, flat [.r kw9003, .i .u8 l9004, .r kw9005]⟩] ∧ (kw9003.length = kn9006) ∧ (kn9007 ≤ l9004.length + kw9005.length) ∧ (l9004.length ≤ kn9007)) := by
 subst X0l
 have key : EV.Fn Try.prog 33 [.c (.s 0 X0b X0o b_.length X0c)] [] [⟨0, X0b, X0ty, true, X0fr, (.v undef), flat [.r X0pr, .i .u8 b_, .r X0ps]⟩] (fun v u nw => ∃ (kn9001 : Nat) (kn9002 : Nat) (kw9003 : List C) (kw9005 : List C) (kn9006 : Nat) (kn9007 : Nat), v = .c (.s n0 kn9001 kn9006 l9004.length kn9007) ∧ u = [] ∧ nw = [⟨n0, kn9001, kn9002, false, (0, 0), .v undef, flat [.r kw9003, .i .u8 l9004, .r kw9005]⟩] ∧ (kw9003.length = kn9006) ∧ (kn9007 ≤ l9004.length + kw9005.length) ∧ (l9004.length ≤ kn9007)) := by
  unfold fn_bytes_Clone at h
  refine d_fn (i := ir_bytes_Clone) (fn := Try.f33) (sl0 := [(0, .c (.s 0 X0b X0o b_.length X0c))]) (hp0 := [⟨0, X0b, X0ty, true, X0fr, (.v undef), flat [.r X0pr, .i .u8 b_, .r X0ps]⟩]) (by kernel_rfl) low_bytes_Clone mo rfl rfl rfl fun F z0 => ?_
  dsimp only [ir_bytes_Clone]
  refine wpC_seq ?_
  refine d_reg rfl ?_
  refine wpI_s rfl trivial ?_
  refine wpI_nil ?_
  refine seqK_n ?_
  refine wpC_seq ?_
  refine wpC_seq ?_
  refine d_reg rfl ?_
  refine wpI_s rfl trivial ?_
  refine wpI_s rfl trivial ?_
  refine wpI_nil ?_
  refine seqK_n ?_
  refine wpC_condF rfl ?_
  refine wpC_skip ?_
  refine seqK_n ?_
  refine wpC_seq ?_
  refine d_reg rfl ?_
  refine d_bsl (g := [.r [], .i .u8 ([] : List Int), .r []]) (by rfl) (fun _ => trivial) fun kb1 kz2 => ?_
  refine wpI_s rfl trivial ?_
  refine gd_e h fun g3 h => ?_
  refine d_appo rfl rfl rfl rfl rfl (le_lenp rfl (Nat.le_refl _)) h (fun w hw => Src.of_eq (src_slice (j2 := 1) (p2 := X0pr.length) (q2 := 0) hw rfl rfl rfl (hs_zero X0S) (by rw [Nat.zero_add]; exact (Nat.le_refl _))) (sub_full rfl)) g3 rfl rfl fun l4 kb5 ko6 kc7 kt8 kp9 kq10 kz11 h12 h13 h14 h => ?_
  refine wpI_s rfl trivial ?_
  refine wpI_nil ?_
  refine seqK_n ?_
  refine wpC_ret ?_
  obtain rfl := Option.some.inj h
  exact d_ret2 [] [101] ⟨kb5, kt8, kp9, kq10, ko6, kc7, rfl, rfl, rfl, h12, h13, h14⟩ (rIs_t rfl rfl) leH2_n (leH2_c rfl rfl rfl rfl rfl rfl leH2_n) rfl
 exact key.cong rfl blkEq_n (blkEq_c rfl rfl rfl rfl blkEq_n)

def ir_flash_Flash_Read : IFn := ⟨29, (.seq (.reg [] (.cons ⟨none, (.s 6 (.mv (.k (.slice none 0 0))))⟩ (.cons ⟨none, (.s 7 (.mv (.k (.bool false))))⟩ .nil))) (.seq (.seqJ (.reg [] (.cons ⟨none, (.s 8 (.mv (.t 0)))⟩ (.cons ⟨none, (.s 9 (.nil (.t 8)))⟩ (.cons ⟨none, (.s 10 (.fa 3 (.t 9)))⟩ (.cons ⟨none, (.r 11 (.ld (.bool false) (.t 10)))⟩ (.cons ⟨none, (.s 12 (.mv (.t 11)))⟩ (.cons ⟨(some (12, false)), (.s 13 (.mv (.t 0)))⟩ (.cons ⟨(some (12, false)), (.s 14 (.mv (.t 1)))⟩ (.cons ⟨(some (12, false)), (.s 15 (.mv (.t 2)))⟩ (.cons ⟨(some (12, false)), (.call (some 16) 32 [(.t 13), (.t 14), (.t 15)])⟩ (.cons ⟨(some (12, false)), (.s 17 (.un .not (.t 16)))⟩ (.cons ⟨none, (.s 18 (.pick (.t 12) (.k (.bool true)) (.t 17)))⟩ .nil)))))))))))) (.cond (.t 18) (.seq (.reg [] (.cons ⟨none, (.s 6 (.mv (.k (.slice none 0 0))))⟩ (.cons ⟨none, (.s 7 (.mv (.k (.bool false))))⟩ .nil))) .ret) .skip)) (.seq (.reg [] (.cons ⟨none, (.s 19 (.mv (.t 0)))⟩ (.cons ⟨none, (.s 20 (.nil (.t 19)))⟩ (.cons ⟨none, (.s 21 (.fa 0 (.t 20)))⟩ (.cons ⟨none, (.r 22 (.ld (.bool false) (.t 21)))⟩ (.cons ⟨none, (.s 23 (.mv (.t 1)))⟩ (.cons ⟨none, (.s 24 (.mv (.t 1)))⟩ (.cons ⟨none, (.s 25 (.mv (.t 2)))⟩ (.cons ⟨none, (.s 26 (.bin .add (.t 24) (.t 25)))⟩ (.cons ⟨none, (.s 27 (.sls 1 (.t 22) (some (.t 23)) (some (.t 26)) none))⟩ (.cons ⟨none, (.call (some 28) 33 [(.t 27)])⟩ (.cons ⟨none, (.s 6 (.mv (.t 28)))⟩ (.cons ⟨none, (.s 7 (.mv (.k (.bool true))))⟩ .nil))))))))))))) .ret))), [(.tmp 6), (.tmp 7)]⟩
theorem low_flash_Flash_Read : lowF Try.prog Try.f24 = some ir_flash_Flash_Read.strip := by kernel_rfl
theorem ok_flash_Flash_Read {fu : Nat} (i0 : Nat) (i1 : Nat) (n0 : Nat) {X0b : Nat} {X0ty : Nat} {X1b : Nat} {X1ty : Nat} {X1pr : List C} {X1ps : List C} {X1o : Nat} {X1c : Nat} {X1n : Nat} {X0fr : Nat × Nat} {X1fr : Nat × Nat} {f_0 : List Int} {f_1 : Int} {f_2 : Int} {f_3 : Bool} {f_4 : Int} {f_5 : Int} {at_ : Int} {n_ : Int} (X1l : X1n = f_0.length) (X1S : 0 < X1n → X1pr.length = X1o) (X1C : X1n ≤ X1c) {r : (Unit) ⊕ (List Int)} (h : fn_flash_Flash_Read fu f_0 f_1 f_2 f_3 f_4 f_5 at_ n_ = some r) :
  EV.Fn Try.prog 24 [.c (.p 0 X0b 0), ib .i64 at_, ib .i64 n_] [] [⟨i0, X0b, X0ty, true, X0fr, (.v undef), flat [.c (.s i1 X1b X1o X1n X1c), .c (.v (.int .i64 f_1)), .c (.v (.int .i64 f_2)), .c (.v (.bool f_3)), .c (.v (.int .i64 f_4)), .c (.v (.int .i64 f_5))]⟩, ⟨i1, X1b, X1ty, true, X1fr, (.v undef), flat [.r X1pr, .i .u8 f_0, .r X1ps]⟩] (fun v u nw => match r with | .inl _ => (v = .t2 (.c (.v (.slice none 0 0))) (bb false) ∧ u = [] ∧ nw = []) | .inr (l9005) => (∃ (kn9002 : Nat) (kn9003 : Nat) (kw9004 : List C) (kw9006 : List C) (kn9007 : Nat) (kn9008 : Nat), v = .t2 (.c (.s n0 kn9002 kn9007 l9005.length kn9008)) (bb true) ∧ u = [] ∧ nw = [⟨n0, kn9002, kn9003, false, (0, 0), .v undef, flat [.r kw9004, .i .u8 l9005, .r kw9006]⟩] ∧ (kw9004.length = kn9007) ∧ (kn9008 ≤ l9005.length + kw9006.length) ∧ (l9005.length ≤ kn9008))) := by
 subst X1l
 have key : EV.Fn Try.prog 24 [.c (.p 0 X0b 0), ib .i64 at_, ib .i64 n_] [] [⟨0, X0b, X0ty, true, X0fr, (.v undef), flat [.c (.s 1 X1b X1o f_0.length X1c), .c (.v (.int .i64 f_1)), .c (.v (.int .i64 f_2)), .c (.v (.bool f_3)), .c (.v (.int .i64 f_4)), .c (.v (.int .i64 f_5))]⟩, ⟨1, X1b, X1ty, true, X1fr, (.v undef), flat [.r X1pr, .i .u8 f_0, .r X1ps]⟩] (fun v u nw => match r with | .inl _ => (v = .t2 (.c (.v (.slice none 0 0))) (bb false) ∧ u = [] ∧ nw = []) | .inr (l9005) => (∃ (kn9002 : Nat) (kn9003 : Nat) (kw9004 : List C) (kw9006 : List C) (kn9007 : Nat) (kn9008 : Nat), v = .t2 (.c (.s n0 kn9002 kn9007 l9005.length kn9008)) (bb true) ∧ u = [] ∧ nw = [⟨n0, kn9002, kn9003, false, (0, 0), .v undef, flat [.r kw9004, .i .u8 l9005, .r kw9006]⟩] ∧ (kw9004.length = kn9007) ∧ (kn9008 ≤ l9005.length + kw9006.length) ∧ (l9005.length ≤ kn9008))) := by
  unfold fn_flash_Flash_Read at h
  refine d_fn (i := ir_flash_Flash_Read) (fn := Try.f24) (sl0 := [(0, .c (.p 0 X0b 0)), (1, ib .i64 at_), (2, ib .i64 n_)]) (hp0 := [⟨0, X0b, X0ty, true, X0fr, (.v undef), flat [.c (.s 1 X1b X1o f_0.length X1c), .c (.v (.int .i64 f_1)), .c (.v (.int .i64 f_2)), .c (.v (.bool f_3)), .c (.v (.int .i64 f_4)), .c (.v (.int .i64 f_5))]⟩, ⟨1, X1b, X1ty, true, X1fr, (.v undef), flat [.r X1pr, .i .u8 f_0, .r X1ps]⟩]) (by kernel_rfl) low_flash_Flash_Read mo rfl rfl rfl fun F z0 => ?_
  dsimp only [ir_flash_Flash_Read]
  refine wpC_seq ?_
  refine d_reg rfl ?_
  refine wpI_s rfl trivial ?_
  refine wpI_s rfl trivial ?_
  refine wpI_nil ?_
  refine seqK_n ?_
  refine wpC_seq ?_
  refine bind_e h fun o3 h hko3 => ?_
  refine d_join (fun (z : Bool × Nat) => (match z with | (t1, kz2) => ⟨[(0, .c (.p 0 X0b 0)), (1, ib .i64 at_), (2, ib .i64 n_), (18, bb t1)], [⟨0, X0b, X0ty, true, X0fr, (.v undef), flat [.c (.s 1 X1b X1o f_0.length X1c), .c (.v (.int .i64 f_1)), .c (.v (.int .i64 f_2)), .c (.v (.bool f_3)), .c (.v (.int .i64 f_4)), .c (.v (.int .i64 f_5))]⟩, ⟨1, X1b, X1ty, true, X1fr, (.v undef), flat [.r X1pr, .i .u8 f_0, .r X1ps]⟩], 100, kz2⟩ : St)) (fun (z : Bool × Nat) => match z with | (t1, kz2) => (True) ∧ t1 = o3) ?_ ?_
  ·refine d_reg rfl ?_
   refine wpI_s rfl trivial ?_
   refine wpI_s rfl trivial ?_
   refine wpI_s rfl trivial ?_
   refine d_ldc 3 rfl rfl rfl rfl trivial ?_
   refine wpI_s rfl trivial ?_
   refine d_guard rfl h (fun h => ?_) (fun h => ?_)
   ·refine wpI_s rfl trivial ?_
    refine d_guardT rfl ?_
    refine wpI_s rfl trivial ?_
    refine d_guardT rfl ?_
    refine wpI_s rfl trivial ?_
    refine d_guardT rfl ?_
    refine bind_e h fun t6 ho5 h => ?_
    refine d_call (ok_flash_Flash_is (i0 := 0) (i1 := 1)  (X0b := X0b) (X0ty := X0ty) (X1b := X1b) (X1ty := X1ty) (X1pr := X1pr) (X1ps := X1ps) (X1o := X1o) (X1c := X1c) (X1n := f_0.length) (X1l := rfl) (X1S := X1S) (X1C := X1C) (h := ho5)) rfl rfl haveRw_n (haveRo_c rfl rfl (haveRo_c rfl rfl haveRo_n)) (own_of rfl) ?_
    rintro _ _ _ kz7 ⟨rfl, rfl, rfl⟩
    refine ⟨_, rfl, trivial, ?_⟩
    refine d_guardT rfl ?_
    refine d_b rfl trivial h fun t8 h => ?_
    refine d_pickF rfl rfl rfl ?_
    refine wpI_nil ?_
    refine jnK_n (t8, kz7) [0, 1] ⟨trivial, Option.some.inj h⟩ (leS2_c rfl rfl (leS2_c rfl rfl (leS2_c rfl rfl (leS2_c rfl rfl leS2_n)))) (leH2_c rfl rfl rfl rfl rfl rfl (leH2_c rfl rfl rfl rfl rfl rfl leH2_n)) rfl rfl
   ·refine d_guardF rfl rfl ?_
    refine d_guardF rfl rfl ?_
    refine d_guardF rfl rfl ?_
    refine d_guardF rfl rfl ?_
    refine d_pickT rfl rfl rfl ?_
    refine wpI_nil ?_
    refine jnK_n (true, z0) [0, 1] ⟨trivial, Option.some.inj h⟩ (leS2_c rfl rfl (leS2_c rfl rfl (leS2_c rfl rfl (leS2_c rfl rfl leS2_n)))) (leH2_c rfl rfl rfl rfl rfl rfl (leH2_c rfl rfl rfl rfl rfl rfl leH2_n)) rfl rfl
  ·rintro ⟨t1, kz2⟩ ⟨_, rfl⟩
   show wpC _ _ _ _ _ (St.mk _ _ _ _)
   have h := hko3; clear hko3; try dsimp only at h
   refine d_cond rfl h (fun h => ?_) (fun h => ?_)
   ·refine wpC_seq ?_
    refine d_reg rfl ?_
    refine wpI_s rfl trivial ?_
    refine wpI_s rfl trivial ?_
    refine wpI_nil ?_
    refine seqK_n ?_
    refine wpC_ret ?_
    refine seqK_r ?_
    obtain rfl := Option.some.inj h
    exact d_ret2 [] [] ⟨rfl, rfl, rfl⟩ ⟨(rIs_t rfl rfl), (rIs_t rfl rfl)⟩ leH2_n leH2_n rfl
   ·refine wpC_skip ?_
    refine seqK_n ?_
    refine wpC_seq ?_
    refine d_reg rfl ?_
    refine wpI_s rfl trivial ?_
    refine wpI_s rfl trivial ?_
    refine wpI_s rfl trivial ?_
    refine d_ldc 0 rfl rfl rfl rfl trivial ?_
    refine wpI_s rfl trivial ?_
    refine wpI_s rfl trivial ?_
    refine wpI_s rfl trivial ?_
    refine d_n rfl trivial h fun x9 h => ?_
    refine gd_e h fun g10 h => ?_
    refine d_sls (q0 := 0) (p := X1pr.length) rfl rfl rfl g10 X1C (hs_zero X1S) fun ko11 kc12 h13 h14 => ?_
    replace h13 : 0 < (x9.toNat - at_.toNat) → X1pr.length + at_.toNat = ko11 := by intro h0; have := h13 (by omega); omega
    replace h14 : (x9.toNat - at_.toNat) ≤ kc12 := by omega
    have h15 : at_.toNat + (x9.toNat - at_.toNat) ≤ f_0.length := by have := g10; omega
    refine bind_e h fun l22 ho21 h => ?_
    obtain ⟨kp16, kq17, hw18, hp19⟩ := win_eq (g := [.r X1pr, .i .u8 f_0, .r X1ps]) (j := 1) (kd := .u8) (l := f_0) (q := at_.toNat) (n := (x9.toNat - at_.toNat)) (p := X1pr.length) rfl h15 rfl
    refine d_call (ok_bytes_Clone (i0 := 1) (n0 := 1001) (X0b := X1b) (X0ty := X1ty) (X0pr := kp16) (X0ps := kq17) (X0o := ko11) (X0c := kc12) (X0n := (x9.toNat - at_.toNat)) (X0l := (sub_len h15).symm) (X0S := (fun h0 => hp19.trans (h13 h0))) (X0C := h14) (h := ho21)) rfl rfl haveRw_n (haveRo_c rfl hw18 haveRo_n) (own_of rfl) ?_
    rintro _ _ _ kz32 ⟨k23, k24, k25, k26, k27, k28, rfl, rfl, rfl, h29, h30, h31⟩
    refine ⟨_, rfl, trivial, ?_⟩
    refine wpI_s rfl trivial ?_
    refine wpI_s rfl trivial ?_
    refine wpI_nil ?_
    refine seqK_n ?_
    refine wpC_ret ?_
    obtain rfl := Option.some.inj h
    exact d_ret2 [] [1001] ⟨k23, k24, k25, k26, k27, k28, rfl, rfl, rfl, h29, h30, h31⟩ ⟨(rIs_t rfl rfl), (rIs_t rfl rfl)⟩ leH2_n (leH2_c rfl rfl rfl rfl rfl rfl leH2_n) rfl
 exact key.cong rfl blkEq_n (blkEq_c rfl rfl rfl rfl (blkEq_c rfl rfl rfl rfl blkEq_n))

def ir_verity_Area_Raw : IFn := ⟨23, (.seq (.reg [] (.cons ⟨none, (.s 4 (.mv (.k (.slice none 0 0))))⟩ (.cons ⟨none, (.s 5 (.mv (.k (.bool false))))⟩ .nil))) (.seq (.seq (.reg [] (.cons ⟨none, (.s 6 (.mv (.t 1)))⟩ (.cons ⟨none, (.call (some 7) 20 [(.t 6)])⟩ (.cons ⟨none, (.s 8 (.un .not (.t 7)))⟩ .nil)))) (.cond (.t 8) (.seq (.reg [] (.cons ⟨none, (.s 4 (.mv (.k (.slice none 0 0))))⟩ (.cons ⟨none, (.s 5 (.mv (.k (.bool false))))⟩ .nil))) .ret) .skip)) (.seq (.reg [] (.cons ⟨none, (.s 9 (.mv (.t 0)))⟩ (.cons ⟨none, (.s 10 (.nil (.t 9)))⟩ (.cons ⟨none, (.s 11 (.fa 0 (.t 10)))⟩ (.cons ⟨none, (.r 12 (.ld (.bool false) (.t 11)))⟩ (.cons ⟨none, (.s 13 (.mv (.t 0)))⟩ (.cons ⟨none, (.s 14 (.nil (.t 13)))⟩ (.cons ⟨none, (.s 15 (.fa 1 (.t 14)))⟩ (.cons ⟨none, (.r 16 (.ld (.int .i64 0) (.t 15)))⟩ (.cons ⟨none, (.s 17 (.mv (.t 1)))⟩ (.cons ⟨none, (.s 18 (.bin .add (.t 16) (.t 17)))⟩ (.cons ⟨none, (.s 19 (.bin .mul (.t 18) (.k (.int .i64 256))))⟩ (.cons ⟨none, (.call (some 20) 24 [(.t 12), (.t 19), (.k (.int .i64 80))])⟩ (.cons ⟨none, (.s 21 (.ext (.t 20) 0))⟩ (.cons ⟨none, (.s 22 (.ext (.t 20) 1))⟩ (.cons ⟨none, (.s 4 (.mv (.t 21)))⟩ (.cons ⟨none, (.s 5 (.mv (.t 22)))⟩ .nil))))))))))))))))) .ret))), [(.tmp 4), (.tmp 5)]⟩
theorem low_verity_Area_Raw : lowF Try.prog Try.f12 = some ir_verity_Area_Raw.strip := by kernel_rfl
theorem ok_verity_Area_Raw {fu : Nat} (i0 : Nat) (i1 : Nat) (i2 : Nat) (n0 : Nat) {X0b : Nat} {X0ty : Nat} {X1b : Nat} {X1ty : Nat} {X2b : Nat} {X2ty : Nat} {X2pr : List C} {X2ps : List C} {X2o : Nat} {X2c : Nat} {X2n : Nat} {X0fr : Nat × Nat} {X1fr : Nat × Nat} {X2fr : Nat × Nat} {a_00 : List Int} {a_01 : Int} {a_02 : Int} {a_03 : Bool} {a_04 : Int} {a_05 : Int} {a_1 : Int} {i_ : Int} (X2l : X2n = a_00.length) (X2S : 0 < X2n → X2pr.length = X2o) (X2C : X2n ≤ X2c) {r : (Unit) ⊕ (List Int)} (h : fn_verity_Area_Raw fu a_00 a_01 a_02 a_03 a_04 a_05 a_1 i_ = some r) :
  EV.Fn Try.prog 12 [.c (.p 0 X0b 0), ib .i64 i_] [] [⟨i0, X0b, X0ty, true, X0fr, (.v undef), flat [.c (.p i1 X1b 0), .c (.v (.int .i64 a_1))]⟩, ⟨i1, X1b, X1ty, true, X1fr, (.v undef), flat [.c (.s i2 X2b X2o X2n X2c), .c (.v (.int .i64 a_01)), .c (.v (.int .i64 a_02)), .c (.v (.bool a_03)), .c (.v (.int .i64 a_04)), .c (.v (.int .i64 a_05))]⟩, ⟨i2, X2b, X2ty, true, X2fr, (.v undef), flat [.r X2pr, .i .u8 a_00, .r X2ps]⟩] (fun v u nw => match r with | .inl _ => (v = .t2 (.c (.v (.slice none 0 0))) (bb false) ∧ u = [] ∧ nw = []) | .inr (l9005) => (∃ (kn9002 : Nat) (kn9003 : Nat) (kw9004 : List C) (kw9006 : List C) (kn9007 : Nat) (kn9008 : Nat), v = .t2 (.c (.s n0 kn9002 kn9007 l9005.length kn9008)) (bb true) ∧ u = [] ∧ nw = [⟨n0, kn9002, kn9003, false, (0, 0), .v undef, flat [.r kw9004, .i .u8 l9005, .r kw9006]⟩] ∧ (kw9004.length = kn9007) ∧ (kn9008 ≤ l9005.length + kw9006.length) ∧ (l9005.length ≤ kn9008))) := by
 subst X2l
 have key : EV.Fn Try.prog 12 [.c (.p 0 X0b 0), ib .i64 i_] [] [⟨0, X0b, X0ty, true, X0fr, (.v undef), flat [.c (.p 1 X1b 0), .c (.v (.int .i64 a_1))]⟩, ⟨1, X1b, X1ty, true, X1fr, (.v undef), flat [.c (.s 2 X2b X2o a_00.length X2c), .c (.v (.int .i64 a_01)), .c (.v (.int .i64 a_02)), .c (.v (.bool a_03)), .c (.v (.int .i64 a_04)), .c (.v (.int .i64 a_05))]⟩, ⟨2, X2b, X2ty, true, X2fr, (.v undef), flat [.r X2pr, .i .u8 a_00, .r X2ps]⟩] (fun v u nw => match r with | .inl _ => (v = .t2 (.c (.v (.slice none 0 0))) (bb false) ∧ u = [] ∧ nw = []) | .inr (l9005) => (∃ (kn9002 : Nat) (kn9003 : Nat) (kw9004 : List C) (kw9006 : List C) (kn9007 : Nat) (kn9008 : Nat), v = .t2 (.c (.s n0 kn9002 kn9007 l9005.length kn9008)) (bb true) ∧ u = [] ∧ nw = [⟨n0, kn9002, kn9003, false, (0, 0), .v undef, flat [.r kw9004, .i .u8 l9005, .r kw9006]⟩] ∧ (kw9004.length = kn9007) ∧ (kn9008 ≤ l9005.length + kw9006.length) ∧ (l9005.length ≤ kn9008))) := by
  unfold fn_verity_Area_Raw at h
  refine d_fn (i := ir_verity_Area_Raw) (fn := Try.f12) (sl0 := [(0, .c (.p 0 X0b 0)), (1, ib .i64 i_)]) (hp0 := [⟨0, X0b, X0ty, true, X0fr, (.v undef), flat [.c (.p 1 X1b 0), .c (.v (.int .i64 a_1))]⟩, ⟨1, X1b, X1ty, true, X1fr, (.v undef), flat [.c (.s 2 X2b X2o a_00.length X2c), .c (.v (.int .i64 a_01)), .c (.v (.int .i64 a_02)), .c (.v (.bool a_03)), .c (.v (.int .i64 a_04)), .c (.v (.int .i64 a_05))]⟩, ⟨2, X2b, X2ty, true, X2fr, (.v undef), flat [.r X2pr, .i .u8 a_00, .r X2ps]⟩]) (by kernel_rfl) low_verity_Area_Raw mo rfl rfl rfl fun F z0 => ?_
  dsimp only [ir_verity_Area_Raw]
  refine wpC_seq ?_
  refine d_reg rfl ?_
  refine wpI_s rfl trivial ?_
  refine wpI_s rfl trivial ?_
  refine wpI_nil ?_
  refine seqK_n ?_
  refine wpC_seq ?_
  refine wpC_seq ?_
  refine d_reg rfl ?_
  refine wpI_s rfl trivial ?_
  refine bind_e h fun t3 ho2 h => ?_
  refine d_call (ok_verity_is     (h := ho2)) rfl rfl haveRw_n haveRo_n (own_of rfl) ?_
  rintro _ _ _ kz4 ⟨rfl, rfl, rfl⟩
  refine ⟨_, rfl, trivial, ?_⟩
  refine d_b rfl trivial h fun t5 h => ?_
  refine wpI_nil ?_
  refine seqK_n ?_
  refine d_cond rfl h (fun h => ?_) (fun h => ?_)
  ·refine wpC_seq ?_
   refine d_reg rfl ?_
   refine wpI_s rfl trivial ?_
   refine wpI_s rfl trivial ?_
   refine wpI_nil ?_
   refine seqK_n ?_
   refine wpC_ret ?_
   refine seqK_r ?_
   obtain rfl := Option.some.inj h
   exact d_ret2 [] [] ⟨rfl, rfl, rfl⟩ ⟨(rIs_t rfl rfl), (rIs_t rfl rfl)⟩ leH2_n leH2_n rfl
  ·refine wpC_skip ?_
   refine seqK_n ?_
   refine wpC_seq ?_
   refine d_reg rfl ?_
   refine wpI_s rfl trivial ?_
   refine wpI_s rfl trivial ?_
   refine wpI_s rfl trivial ?_
   refine d_ldc 0 rfl rfl rfl rfl trivial ?_
   refine wpI_s rfl trivial ?_
   refine wpI_s rfl trivial ?_
   refine wpI_s rfl trivial ?_
   refine d_ldc 1 rfl rfl rfl rfl rfl ?_
   refine wpI_s rfl trivial ?_
   refine d_n rfl trivial h fun x6 h => ?_
   refine d_n rfl trivial h fun x7 h => ?_
   refine bind_e h fun o8 ho9 h => ?_
   rcases o8 with _ | l11
   ·try dsimp only at h
    refine d_call (ok_flash_Flash_Read (i0 := 1) (i1 := 2) (n0 := 1001) (X0b := X1b) (X0ty := X1ty) (X1b := X2b) (X1ty := X2ty) (X1pr := X2pr) (X1ps := X2ps) (X1o := X2o) (X1c := X2c) (X1n := a_00.length) (X1l := rfl) (X1S := X2S) (X1C := X2C) (h := ho9)) rfl rfl haveRw_n (haveRo_c rfl rfl (haveRo_c rfl rfl haveRo_n)) (own_of rfl) ?_
    rintro _ _ _ kz10 ⟨rfl, rfl, rfl⟩
    refine ⟨_, rfl, trivial, ?_⟩
    refine wpI_s rfl trivial ?_
    refine wpI_s rfl trivial ?_
    refine wpI_s rfl trivial ?_
    refine wpI_s rfl trivial ?_
    refine wpI_nil ?_
    refine seqK_n ?_
    refine wpC_ret ?_
    obtain rfl := Option.some.inj h
    exact d_ret2 [] [] ⟨rfl, rfl, rfl⟩ ⟨(rIs_t rfl rfl), (rIs_t rfl rfl)⟩ leH2_n leH2_n rfl
   ·try dsimp only at h
    refine d_call (ok_flash_Flash_Read (i0 := 1) (i1 := 2) (n0 := 1001) (X0b := X1b) (X0ty := X1ty) (X1b := X2b) (X1ty := X2ty) (X1pr := X2pr) (X1ps := X2ps) (X1o := X2o) (X1c := X2c) (X1n := a_00.length) (X1l := rfl) (X1S := X2S) (X1C := X2C) (h := ho9)) rfl rfl haveRw_n (haveRo_c rfl rfl (haveRo_c rfl rfl haveRo_n)) (own_of rfl) ?_
    rintro _ _ _ kz21 ⟨k12, k13, k14, k15, k16, k17, rfl, rfl, rfl, h18, h19, h20⟩
    refine ⟨_, rfl, trivial, ?_⟩
    refine wpI_s rfl trivial ?_
    refine wpI_s rfl trivial ?_
    refine wpI_s rfl trivial ?_
    refine wpI_s rfl trivial ?_
    refine wpI_nil ?_
    refine seqK_n ?_
    refine wpC_ret ?_
    obtain rfl := Option.some.inj h
    exact d_ret2 [] [1001] ⟨k12, k13, k14, k15, k16, k17, rfl, rfl, rfl, h18, h19, h20⟩ ⟨(rIs_t rfl rfl), (rIs_t rfl rfl)⟩ leH2_n (leH2_c rfl rfl rfl rfl rfl rfl leH2_n) rfl
 exact key.cong rfl blkEq_n (blkEq_c rfl rfl rfl rfl (blkEq_c rfl rfl rfl rfl (blkEq_c rfl rfl rfl rfl blkEq_n)))

def ir_flash_Flash_Dead : IFn := ⟨7, (.seq (.reg [] (.cons ⟨none, (.s 2 (.mv (.k (.bool false))))⟩ .nil)) (.seq (.reg [] (.cons ⟨none, (.s 3 (.mv (.t 0)))⟩ (.cons ⟨none, (.s 4 (.nil (.t 3)))⟩ (.cons ⟨none, (.s 5 (.fa 3 (.t 4)))⟩ (.cons ⟨none, (.r 6 (.ld (.bool false) (.t 5)))⟩ (.cons ⟨none, (.s 2 (.mv (.t 6)))⟩ .nil)))))) .ret)), [(.tmp 2)]⟩
theorem low_flash_Flash_Dead : lowF Try.prog Try.f21 = some ir_flash_Flash_Dead.strip := by kernel_rfl
theorem ok_flash_Flash_Dead {fu : Nat} (i0 : Nat) (i1 : Nat) {X0b : Nat} {X0ty : Nat} {X1b : Nat} {X1ty : Nat} {X1pr : List C} {X1ps : List C} {X1o : Nat} {X1c : Nat} {X1n : Nat} {X0fr : Nat × Nat} {X1fr : Nat × Nat} {f_0 : List Int} {f_1 : Int} {f_2 : Int} {f_3 : Bool} {f_4 : Int} {f_5 : Int} (X1l : X1n = f_0.length) (X1S : 0 < X1n → X1pr.length = X1o) (X1C : X1n ≤ X1c) {r : Unit} (h : fn_flash_Flash_Dead fu f_0 f_1 f_2 f_3 f_4 f_5 = some r) :
  EV.Fn Try.prog 21 [.c (.p 0 X0b 0)] [] [⟨i0, X0b, X0ty, true, X0fr, (.v undef), flat [.c (.s i1 X1b X1o X1n X1c), .c (.v (.int .i64 f_1)), .c (.v (.int .i64 f_2)), .c (.v (.bool f_3)), .c (.v (.int .i64 f_4)), .c (.v (.int .i64 f_5))]⟩, ⟨i1, X1b, X1ty, true, X1fr, (.v undef), flat [.r X1pr, .i .u8 f_0, .r X1ps]⟩] (fun v u nw => v = bb f_3 ∧ u = [] ∧ nw = []) := by
 subst X1l
 have key : EV.Fn Try.prog 21 [.c (.p 0 X0b 0)] [] [⟨0, X0b, X0ty, true, X0fr, (.v undef), flat [.c (.s 1 X1b X1o f_0.length X1c), .c (.v (.int .i64 f_1)), .c (.v (.int .i64 f_2)), .c (.v (.bool f_3)), .c (.v (.int .i64 f_4)), .c (.v (.int .i64 f_5))]⟩, ⟨1, X1b, X1ty, true, X1fr, (.v undef), flat [.r X1pr, .i .u8 f_0, .r X1ps]⟩] (fun v u nw => v = bb f_3 ∧ u = [] ∧ nw = []) := by
  unfold fn_flash_Flash_Dead at h
  refine d_fn (i := ir_flash_Flash_Dead) (fn := Try.f21) (sl0 := [(0, .c (.p 0 X0b 0))]) (hp0 := [⟨0, X0b, X0ty, true, X0fr, (.v undef), flat [.c (.s 1 X1b X1o f_0.length X1c), .c (.v (.int .i64 f_1)), .c (.v (.int .i64 f_2)), .c (.v (.bool f_3)), .c (.v (.int .i64 f_4)), .c (.v (.int .i64 f_5))]⟩, ⟨1, X1b, X1ty, true, X1fr, (.v undef), flat [.r X1pr, .i .u8 f_0, .r X1ps]⟩]) (by kernel_rfl) low_flash_Flash_Dead mo rfl rfl rfl fun F z0 => ?_
  dsimp only [ir_flash_Flash_Dead]
  refine wpC_seq ?_
  refine d_reg rfl ?_
  refine wpI_s rfl trivial ?_
  refine wpI_nil ?_
  refine seqK_n ?_
  refine wpC_seq ?_
  refine d_reg rfl ?_
  refine wpI_s rfl trivial ?_
  refine wpI_s rfl trivial ?_
  refine wpI_s rfl trivial ?_
  refine d_ldc 3 rfl rfl rfl rfl trivial ?_
  refine wpI_s rfl trivial ?_
  refine wpI_nil ?_
  refine seqK_n ?_
  refine wpC_ret ?_
  clear h
  exact d_ret2 [] [] ⟨rfl, rfl, rfl⟩ (rIs_t rfl rfl) leH2_n leH2_n rfl
 exact key.cong rfl blkEq_n (blkEq_c rfl rfl rfl rfl (blkEq_c rfl rfl rfl rfl blkEq_n))

def ir_flash_Flash_operation : IFn := ⟨41, (.seq (.reg [] (.cons ⟨none, (.s 4 (.mv (.k (.int .i64 0))))⟩ (.cons ⟨none, (.s 5 (.mv (.k (.bool false))))⟩ .nil))) (.seq (.seq (.reg [] (.cons ⟨none, (.s 7 (.mv (.t 0)))⟩ (.cons ⟨none, (.s 8 (.nil (.t 7)))⟩ (.cons ⟨none, (.s 9 (.fa 1 (.t 8)))⟩ (.cons ⟨none, (.s 10 (.fa 0 (.t 9)))⟩ (.cons ⟨none, (.r 11 (.ld (.int .i64 0) (.t 10)))⟩ (.cons ⟨none, (.s 12 (.bin .neq (.t 11) (.k (.int .i64 0))))⟩ .nil))))))) (.cond (.t 12) (.seq (.reg [] (.cons ⟨none, (.s 13 (.mv (.t 0)))⟩ (.cons ⟨none, (.s 14 (.mv (.t 0)))⟩ (.cons ⟨none, (.s 15 (.nil (.t 14)))⟩ (.cons ⟨none, (.s 16 (.fa 1 (.t 15)))⟩ (.cons ⟨none, (.s 17 (.fa 0 (.t 16)))⟩ (.cons ⟨none, (.r 18 (.ld (.int .i64 0) (.t 17)))⟩ (.cons ⟨none, (.s 19 (.bin .sub (.t 18) (.k (.int .i64 1))))⟩ (.cons ⟨none, (.s 20 (.mnmx true (.k (.int .i64 (-1))) (.t 19)))⟩ (.cons ⟨none, (.s 21 (.nil (.t 13)))⟩ (.cons ⟨none, (.s 22 (.fa 1 (.t 21)))⟩ (.cons ⟨none, (.s 23 (.fa 0 (.t 22)))⟩ (.cons ⟨none, (.w none (.st (.t 23) (.t 20)))⟩ .nil))))))))))))) (.seq (.reg [] (.cons ⟨none, (.s 24 (.mv (.t 1)))⟩ (.cons ⟨none, (.s 4 (.mv (.t 24)))⟩ (.cons ⟨none, (.s 5 (.mv (.k (.bool true))))⟩ .nil)))) .ret)) .skip)) (.seq (.reg [] (.cons ⟨none, (.s 25 (.mv (.t 0)))⟩ (.cons ⟨none, (.s 26 (.nil (.t 25)))⟩ (.cons ⟨none, (.s 27 (.fa 1 (.t 26)))⟩ (.cons ⟨none, (.s 28 (.fa 1 (.t 27)))⟩ (.cons ⟨none, (.r 29 (.ld (.int .i64 0) (.t 28)))⟩ (.cons ⟨none, (.s 30 (.mnmx true (.k (.int .i64 0)) (.t 29)))⟩ (.cons ⟨none, (.s 31 (.mv (.t 1)))⟩ (.cons ⟨none, (.s 32 (.mnmx false (.t 30) (.t 31)))⟩ (.cons ⟨none, (.s 6 (.mv (.t 32)))⟩ .nil)))))))))) (.seq (.reg [] (.cons ⟨none, (.s 33 (.mv (.t 0)))⟩ (.cons ⟨none, (.s 34 (.bld [(.int .i64 0), (.int .i64 0)] [(0, (1, (.k (.int .i64 (-1)))))]))⟩ (.cons ⟨none, (.s 35 (.nil (.t 33)))⟩ (.cons ⟨none, (.s 36 (.fa 1 (.t 35)))⟩ (.cons ⟨none, (.w none (.sta 2 (.t 36) (.t 34)))⟩ .nil)))))) (.seq (.reg [] (.cons ⟨none, (.s 37 (.mv (.t 0)))⟩ (.cons ⟨none, (.s 38 (.nil (.t 37)))⟩ (.cons ⟨none, (.s 39 (.fa 3 (.t 38)))⟩ (.cons ⟨none, (.w none (.st (.t 39) (.k (.bool true))))⟩ .nil))))) (.seq (.reg [] (.cons ⟨none, (.s 40 (.mv (.t 6)))⟩ (.cons ⟨none, (.s 4 (.mv (.t 40)))⟩ (.cons ⟨none, (.s 5 (.mv (.k (.bool false))))⟩ .nil)))) .ret)))))), [(.tmp 4), (.tmp 5)]⟩
theorem low_flash_Flash_operation : lowF Try.prog Try.f31 = some ir_flash_Flash_operation.strip := by kernel_rfl
theorem ok_flash_Flash_operation {fu : Nat} (i0 : Nat) (i1 : Nat) {X0b : Nat} {X0ty : Nat} {X1b : Nat} {X1ty : Nat} {X1pr : List C} {X1ps : List C} {X1o : Nat} {X1c : Nat} {X1n : Nat} {X1fr : Nat × Nat} {f_0 : List Int} {f_1 : Int} {f_2 : Int} {f_3 : Bool} {f_4 : Int} {f_5 : Int} {n_ : Int} (X1l : X1n = f_0.length) (X1S : 0 < X1n → X1pr.length = X1o) (X1C : X1n ≤ X1c) {r : Int × Int × Bool × Int × Bool} (h : fn_flash_Flash_operation fu f_0 f_1 f_2 f_3 f_4 f_5 n_ = some r) :
  EV.Fn Try.prog 31 [.c (.p 0 X0b 0), ib .i64 n_] [⟨i0, X0b, X0ty, false, (0, 0), (.v undef), flat [.c (.s i1 X1b X1o X1n X1c), .c (.v (.int .i64 f_1)), .c (.v (.int .i64 f_2)), .c (.v (.bool f_3)), .c (.v (.int .i64 f_4)), .c (.v (.int .i64 f_5))]⟩] [⟨i1, X1b, X1ty, true, X1fr, (.v undef), flat [.r X1pr, .i .u8 f_0, .r X1ps]⟩] (fun v u nw => match r with | (x9001, x9002, t9003, x9004, t9005) => (v = .t2 (ib .i64 x9004) (bb t9005) ∧ u = [flat [.c (.s i1 X1b X1o X1n X1c), .c (.v (.int .i64 x9001)), .c (.v (.int .i64 x9002)), .c (.v (.bool t9003)), .c (.v (.int .i64 f_4)), .c (.v (.int .i64 f_5))]] ∧ nw = [])) := by
 subst X1l
 have key : EV.Fn Try.prog 31 [.c (.p 0 X0b 0), ib .i64 n_] [⟨0, X0b, X0ty, false, (0, 0), (.v undef), flat [.c (.s 1 X1b X1o f_0.length X1c), .c (.v (.int .i64 f_1)), .c (.v (.int .i64 f_2)), .c (.v (.bool f_3)), .c (.v (.int .i64 f_4)), .c (.v (.int .i64 f_5))]⟩] [⟨1, X1b, X1ty, true, X1fr, (.v undef), flat [.r X1pr, .i .u8 f_0, .r X1ps]⟩] (fun v u nw => match r with | (x9001, x9002, t9003, x9004, t9005) => (v = .t2 (ib .i64 x9004) (bb t9005) ∧ u = [flat [.c (.s i1 X1b X1o f_0.length X1c), .c (.v (.int .i64 x9001)), .c (.v (.int .i64 x9002)), .c (.v (.bool t9003)), .c (.v (.int .i64 f_4)), .c (.v (.int .i64 f_5))]] ∧ nw = [])) := by
  unfold fn_flash_Flash_operation at h
  refine d_fn (i := ir_flash_Flash_operation) (fn := Try.f31) (sl0 := [(0, .c (.p 0 X0b 0)), (1, ib .i64 n_)]) (hp0 := [⟨0, X0b, X0ty, false, (0, 0), (.v undef), flat [.c (.s 1 X1b X1o f_0.length X1c), .c (.v (.int .i64 f_1)), .c (.v (.int .i64 f_2)), .c (.v (.bool f_3)), .c (.v (.int .i64 f_4)), .c (.v (.int .i64 f_5))]⟩, ⟨1, X1b, X1ty, true, X1fr, (.v undef), flat [.r X1pr, .i .u8 f_0, .r X1ps]⟩]) (by kernel_rfl) low_flash_Flash_operation mo rfl rfl rfl fun F z0 => ?_
  dsimp only [ir_flash_Flash_operation]
  refine wpC_seq ?_
  refine d_reg rfl ?_
  refine wpI_s rfl trivial ?_
  refine wpI_s rfl trivial ?_
  refine wpI_nil ?_
  refine seqK_n ?_
  refine wpC_seq ?_
  refine wpC_seq ?_
  refine d_reg rfl ?_
  refine wpI_s rfl trivial ?_
  refine wpI_s rfl trivial ?_
  refine wpI_s rfl trivial ?_
  refine wpI_s rfl trivial ?_
  refine d_ldc 1 rfl rfl rfl rfl rfl ?_
  refine d_b rfl trivial h fun t1 h => ?_
  refine wpI_nil ?_
  refine seqK_n ?_
  refine d_cond rfl h (fun h => ?_) (fun h => ?_)
  ·refine wpC_seq ?_
   refine d_reg rfl ?_
   refine wpI_s rfl trivial ?_
   refine wpI_s rfl trivial ?_
   refine wpI_s rfl trivial ?_
   refine wpI_s rfl trivial ?_
   refine wpI_s rfl trivial ?_
   refine d_ldc 1 rfl rfl rfl rfl rfl ?_
   refine d_n rfl trivial h fun x2 h => ?_
   refine d_n rfl trivial h fun x3 h => ?_
   refine wpI_s rfl trivial ?_
   refine wpI_s rfl trivial ?_
   refine wpI_s rfl trivial ?_
   refine d_stc 1 rfl rfl rfl rfl rfl rfl rfl rfl trivial ?_
   refine wpI_nil ?_
   refine seqK_n ?_
   refine wpC_seq ?_
   refine d_reg rfl ?_
   refine wpI_s rfl trivial ?_
   refine wpI_s rfl trivial ?_
   refine wpI_s rfl trivial ?_
   refine wpI_nil ?_
   refine seqK_n ?_
   refine wpC_ret ?_
   refine seqK_r ?_
   obtain rfl := Option.some.inj h
   exact d_ret2 [0] [] ⟨rfl, rfl, rfl⟩ ⟨(rIs_t rfl rfl), (rIs_t rfl rfl)⟩ (leH2_c rfl rfl rfl rfl rfl rfl leH2_n) leH2_n rfl
  ·refine wpC_skip ?_
   refine seqK_n ?_
   refine wpC_seq ?_
   refine d_reg rfl ?_
   refine wpI_s rfl trivial ?_
   refine wpI_s rfl trivial ?_
   refine wpI_s rfl trivial ?_
   refine wpI_s rfl trivial ?_
   refine d_ldc 2 rfl rfl rfl rfl rfl ?_
   refine d_n rfl trivial h fun x4 h => ?_
   refine wpI_s rfl trivial ?_
   refine d_n rfl trivial h fun x5 h => ?_
   refine wpI_s rfl trivial ?_
   refine wpI_nil ?_
   refine seqK_n ?_
   refine wpC_seq ?_
   refine d_reg rfl ?_
   refine wpI_s rfl trivial ?_
   refine d_bldg (g := [.c (.v (.int .i64 (-1))), .c (.v (.int .i64 0))]) (g0 := [.c (.v (.int .i64 0)), .c (.v (.int .i64 0))]) (by rfl) (fill_c 0 rfl rfl rfl rfl rfl rfl) ?_
   refine wpI_s rfl trivial ?_
   refine wpI_s rfl trivial ?_
   refine d_sta 1 rfl rfl rfl rfl rfl rfl rfl rfl rfl trivial ?_
   refine wpI_nil ?_
   refine seqK_n ?_
   refine wpC_seq ?_
   refine d_reg rfl ?_
   refine wpI_s rfl trivial ?_
   refine wpI_s rfl trivial ?_
   refine wpI_s rfl trivial ?_
   refine d_stc 3 rfl rfl rfl rfl rfl rfl rfl rfl trivial ?_
   refine wpI_nil ?_
   refine seqK_n ?_
   refine wpC_seq ?_
   refine d_reg rfl ?_
   refine wpI_s rfl trivial ?_
   refine wpI_s rfl trivial ?_
   refine wpI_s rfl trivial ?_
   refine wpI_nil ?_
   refine seqK_n ?_
   refine wpC_ret ?_
   obtain rfl := Option.some.inj h
   exact d_ret2 [0] [] ⟨rfl, rfl, rfl⟩ ⟨(rIs_t rfl rfl), (rIs_t rfl rfl)⟩ (leH2_c rfl rfl rfl rfl rfl rfl leH2_n) leH2_n rfl
 exact key.cong rfl (blkEq_c rfl rfl rfl rfl blkEq_n) (blkEq_c rfl rfl rfl rfl blkEq_n)

def ir_flash_Flash_Erase : IFn := ⟨54, (.seq (.reg [] (.cons ⟨none, (.s 4 (.mv (.k (.bool false))))⟩ .nil)) (.seq (.seqJ (.reg [] (.cons ⟨none, (.s 9 (.mv (.t 0)))⟩ (.cons ⟨none, (.s 10 (.nil (.t 9)))⟩ (.cons ⟨none, (.s 11 (.fa 3 (.t 10)))⟩ (.cons ⟨none, (.r 12 (.ld (.bool false) (.t 11)))⟩ (.cons ⟨none, (.s 13 (.mv (.t 12)))⟩ (.cons ⟨(some (13, false)), (.s 14 (.mv (.t 1)))⟩ (.cons ⟨(some (13, false)), (.s 15 (.bin .lss (.t 14) (.k (.int .i64 0))))⟩ (.cons ⟨none, (.s 16 (.pick (.t 13) (.k (.bool true)) (.t 15)))⟩ (.cons ⟨none, (.s 17 (.mv (.t 16)))⟩ (.cons ⟨(some (17, false)), (.s 18 (.mv (.t 1)))⟩ (.cons ⟨(some (17, false)), (.s 19 (.mv (.t 0)))⟩ (.cons ⟨(some (17, false)), (.call (some 20) 19 [(.t 19)])⟩ (.cons ⟨(some (17, false)), (.s 21 (.bin .geq (.t 18) (.t 20)))⟩ (.cons ⟨none, (.s 22 (.pick (.t 17) (.k (.bool true)) (.t 21)))⟩ .nil))))))))))))))) (.cond (.t 22) (.seq (.reg [] (.cons ⟨none, (.s 4 (.mv (.k (.bool false))))⟩ .nil)) .ret) .skip)) (.seq (.reg [] (.cons ⟨none, (.s 24 (.mv (.t 0)))⟩ (.cons ⟨none, (.call (some 25) 31 [(.t 24), (.k (.int .i64 256))])⟩ (.cons ⟨none, (.s 23 (.mv (.t 25)))⟩ (.cons ⟨none, (.s 26 (.ext (.t 23) 0))⟩ (.cons ⟨none, (.s 27 (.ext (.t 23) 1))⟩ (.cons ⟨none, (.s 5 (.mv (.t 26)))⟩ (.cons ⟨none, (.s 6 (.mv (.t 27)))⟩ .nil)))))))) (.seq (.reg [] (.cons ⟨none, (.s 28 (.mv (.t 1)))⟩ (.cons ⟨none, (.s 29 (.bin .mul (.t 28) (.k (.int .i64 256))))⟩ (.cons ⟨none, (.s 7 (.mv (.t 29)))⟩ .nil)))) (.seq (.seq (.reg [] (.cons ⟨none, (.s 30 (.mv (.t 5)))⟩ (.cons ⟨none, (.s 31 (.mv (.k (.int .i64 0))))⟩ .nil))) (.block 0 (.loop (.seq (.reg [] (.cons ⟨none, (.s 32 (.bin .lss (.t 31) (.t 30)))⟩ .nil)) (.seq (.cond (.t 32) .skip (.exit 0)) (.seq (.block 1 (.seq (.reg [] (.cons ⟨none, (.s 33 (.mv (.t 31)))⟩ (.cons ⟨none, (.s 8 (.mv (.t 33)))⟩ .nil))) (.reg [] (.cons ⟨none, (.s 34 (.mv (.t 0)))⟩ (.cons ⟨none, (.s 35 (.nil (.t 34)))⟩ (.cons ⟨none, (.s 36 (.fa 0 (.t 35)))⟩ (.cons ⟨none, (.r 37 (.ld (.bool false) (.t 36)))⟩ (.cons ⟨none, (.s 38 (.mv (.t 7)))⟩ (.cons ⟨none, (.s 39 (.mv (.t 8)))⟩ (.cons ⟨none, (.s 40 (.bin .add (.t 38) (.t 39)))⟩ (.cons ⟨none, (.s 41 (.is 1 (.t 37) (.t 40)))⟩ (.cons ⟨none, (.w none (.st (.t 41) (.k (.int .u8 255))))⟩ .nil)))))))))))) (.reg [] (.cons ⟨none, (.s 42 (.bin .add (.t 31) (.k (.int .i64 1))))⟩ (.cons ⟨none, (.s 31 (.mv (.t 42)))⟩ .nil))))))))) (.seqJ (.seq (.reg [] (.cons ⟨none, (.s 43 (.mv (.t 6)))⟩ .nil)) (.cond (.t 43) (.reg [] (.cons ⟨none, (.s 44 (.mv (.t 0)))⟩ (.cons ⟨none, (.s 45 (.mv (.t 0)))⟩ (.cons ⟨none, (.s 46 (.nil (.t 45)))⟩ (.cons ⟨none, (.s 47 (.fa 4 (.t 46)))⟩ (.cons ⟨none, (.r 48 (.ld (.int .i64 0) (.t 47)))⟩ (.cons ⟨none, (.s 49 (.bin .add (.t 48) (.k (.int .i64 1))))⟩ (.cons ⟨none, (.s 50 (.mnmx false (.t 49) (.k (.int .i64 1099511627776))))⟩ (.cons ⟨none, (.s 51 (.nil (.t 44)))⟩ (.cons ⟨none, (.s 52 (.fa 4 (.t 51)))⟩ (.cons ⟨none, (.w none (.st (.t 52) (.t 50)))⟩ .nil))))))))))) .skip)) (.seq (.reg [] (.cons ⟨none, (.s 53 (.mv (.t 6)))⟩ (.cons ⟨none, (.s 4 (.mv (.t 53)))⟩ .nil))) .ret))))))), [(.tmp 4)]⟩
theorem low_flash_Flash_Erase : lowF Try.prog Try.f22 = some ir_flash_Flash_Erase.strip := by kernel_rfl
theorem ok_flash_Flash_Erase {fu : Nat} (i0 : Nat) (i1 : Nat) {X0b : Nat} {X0ty : Nat} {X1b : Nat} {X1ty : Nat} {X1pr : List C} {X1ps : List C} {X1o : Nat} {X1c : Nat} {X1n : Nat} {f_0 : List Int} {f_1 : Int} {f_2 : Int} {f_3 : Bool} {f_4 : Int} {f_5 : Int} {sector_ : Int} (X1l : X1n = f_0.length) (X1S : 0 < X1n → X1pr.length = X1o) (X1C : X1n ≤ X1c) {r : List Int × Int × Int × Bool × Int × Bool} (h : fn_flash_Flash_Erase fu f_0 f_1 f_2 f_3 f_4 f_5 sector_ = some r) :
  EV.Fn Try.prog 22 [.c (.p 0 X0b 0), ib .i64 sector_] [⟨i0, X0b, X0ty, false, (0, 0), (.v undef), flat [.c (.s i1 X1b X1o X1n X1c), .c (.v (.int .i64 f_1)), .c (.v (.int .i64 f_2)), .c (.v (.bool f_3)), .c (.v (.int .i64 f_4)), .c (.v (.int .i64 f_5))]⟩, ⟨i1, X1b, X1ty, false, (0, 0), (.v undef), flat [.r X1pr, .i .u8 f_0, .r X1ps]⟩] [] (fun v u nw => match r with | (l9001, x9003, x9004, t9005, x9006, t9007) => (v = bb t9007 ∧ u = [flat [.c (.s i1 X1b X1o X1n X1c), .c (.v (.int .i64 x9003)), .c (.v (.int .i64 x9004)), .c (.v (.bool t9005)), .c (.v (.int .i64 x9006)), .c (.v (.int .i64 f_5))], flat [.r X1pr, .i .u8 l9001, .r X1ps]] ∧ nw = [] ∧ (l9001.length = X1n))) := by
 subst X1l
 have key : EV.Fn Try.prog 22 [.c (.p 0 X0b 0), ib .i64 sector_] [⟨0, X0b, X0ty, false, (0, 0), (.v undef), flat [.c (.s 1 X1b X1o f_0.length X1c), .c (.v (.int .i64 f_1)), .c (.v (.int .i64 f_2)), .c (.v (.bool f_3)), .c (.v (.int .i64 f_4)), .c (.v (.int .i64 f_5))]⟩, ⟨1, X1b, X1ty, false, (0, 0), (.v undef), flat [.r X1pr, .i .u8 f_0, .r X1ps]⟩] [] (fun v u nw => match r with | (l9001, x9003, x9004, t9005, x9006, t9007) => (v = bb t9007 ∧ u = [flat [.c (.s i1 X1b X1o f_0.length X1c), .c (.v (.int .i64 x9003)), .c (.v (.int .i64 x9004)), .c (.v (.bool t9005)), .c (.v (.int .i64 x9006)), .c (.v (.int .i64 f_5))], flat [.r X1pr, .i .u8 l9001, .r X1ps]] ∧ nw = [] ∧ (l9001.length = f_0.length))) := by
  unfold fn_flash_Flash_Erase at h
  refine d_fn (i := ir_flash_Flash_Erase) (fn := Try.f22) (sl0 := [(0, .c (.p 0 X0b 0)), (1, ib .i64 sector_)]) (hp0 := [⟨0, X0b, X0ty, false, (0, 0), (.v undef), flat [.c (.s 1 X1b X1o f_0.length X1c), .c (.v (.int .i64 f_1)), .c (.v (.int .i64 f_2)), .c (.v (.bool f_3)), .c (.v (.int .i64 f_4)), .c (.v (.int .i64 f_5))]⟩, ⟨1, X1b, X1ty, false, (0, 0), (.v undef), flat [.r X1pr, .i .u8 f_0, .r X1ps]⟩]) (by kernel_rfl) low_flash_Flash_Erase mo rfl rfl rfl fun F z0 => ?_
  dsimp only [ir_flash_Flash_Erase]
  refine wpC_seq ?_
  refine d_reg rfl ?_
  refine wpI_s rfl trivial ?_
  refine wpI_nil ?_
  refine seqK_n ?_
  refine wpC_seq ?_
  refine bind_e h fun o3 h hko3 => ?_
  refine d_join (fun (z : Bool × Nat) => (match z with | (t1, kz2) => ⟨[(0, .c (.p 0 X0b 0)), (1, ib .i64 sector_), (22, bb t1)], [⟨0, X0b, X0ty, false, (0, 0), (.v undef), flat [.c (.s 1 X1b X1o f_0.length X1c), .c (.v (.int .i64 f_1)), .c (.v (.int .i64 f_2)), .c (.v (.bool f_3)), .c (.v (.int .i64 f_4)), .c (.v (.int .i64 f_5))]⟩, ⟨1, X1b, X1ty, false, (0, 0), (.v undef), flat [.r X1pr, .i .u8 f_0, .r X1ps]⟩], 100, kz2⟩ : St)) (fun (z : Bool × Nat) => match z with | (t1, kz2) => (True) ∧ t1 = o3) ?_ ?_
  ·refine d_reg rfl ?_
   refine wpI_s rfl trivial ?_
   refine wpI_s rfl trivial ?_
   refine wpI_s rfl trivial ?_
   refine d_ldc 3 rfl rfl rfl rfl trivial ?_
   refine wpI_s rfl trivial ?_
   refine d_guard rfl h (fun h => ?_) (fun h => ?_)
   ·refine wpI_s rfl trivial ?_
    refine d_guardT rfl ?_
    refine d_b rfl trivial h fun t4 h => ?_
    refine d_pickF rfl rfl rfl ?_
    refine wpI_s rfl trivial ?_
    refine d_guard rfl h (fun h => ?_) (fun h => ?_)
    ·refine wpI_s rfl trivial ?_
     refine d_guardT rfl ?_
     refine wpI_s rfl trivial ?_
     refine d_guardT rfl ?_
     refine bind_e h fun x7 ho6 h => ?_
     refine d_call (ok_flash_Flash_Size (i0 := 0) (i1 := 1)  (X0b := X0b) (X0ty := X0ty) (X1b := X1b) (X1ty := X1ty) (X1pr := X1pr) (X1ps := X1ps) (X1o := X1o) (X1c := X1c) (X1n := f_0.length) (X1l := rfl) (X1S := X1S) (X1C := X1C) (h := ho6)) rfl rfl haveRw_n (haveRo_c rfl rfl (haveRo_c rfl rfl haveRo_n)) (own_of rfl) ?_
     rintro _ _ _ kz8 ⟨rfl, rfl, rfl⟩
     refine ⟨_, rfl, trivial, ?_⟩
     refine d_guardT rfl ?_
     refine d_b rfl trivial h fun t9 h => ?_
     refine d_pickF rfl rfl rfl ?_
     refine wpI_nil ?_
     refine jnK_n (t9, kz8) [0, 1] ⟨trivial, Option.some.inj h⟩ (leS2_c rfl rfl (leS2_c rfl rfl (leS2_c rfl rfl leS2_n))) (leH2_c rfl rfl rfl rfl rfl rfl (leH2_c rfl rfl rfl rfl rfl rfl leH2_n)) rfl rfl
    ·refine d_guardF rfl rfl ?_
     refine d_guardF rfl rfl ?_
     refine d_guardF rfl rfl ?_
     refine d_pickT rfl rfl rfl ?_
     refine wpI_nil ?_
     refine jnK_n (true, z0) [0, 1] ⟨trivial, Option.some.inj h⟩ (leS2_c rfl rfl (leS2_c rfl rfl (leS2_c rfl rfl leS2_n))) (leH2_c rfl rfl rfl rfl rfl rfl (leH2_c rfl rfl rfl rfl rfl rfl leH2_n)) rfl rfl
   ·refine d_guardF rfl rfl ?_
    refine d_pickT rfl rfl rfl ?_
    refine wpI_s rfl trivial ?_
    refine d_guardF rfl rfl ?_
    refine d_guardF rfl rfl ?_
    refine d_guardF rfl rfl ?_
    refine d_guardF rfl rfl ?_
    refine d_pickT rfl rfl rfl ?_
    refine wpI_nil ?_
    refine jnK_n (true, z0) [0, 1] ⟨trivial, Option.some.inj h⟩ (leS2_c rfl rfl (leS2_c rfl rfl (leS2_c rfl rfl leS2_n))) (leH2_c rfl rfl rfl rfl rfl rfl (leH2_c rfl rfl rfl rfl rfl rfl leH2_n)) rfl rfl
  ·rintro ⟨t1, kz2⟩ ⟨_, rfl⟩
   show wpC _ _ _ _ _ (St.mk _ _ _ _)
   have h := hko3; clear hko3; try dsimp only at h
   refine d_cond rfl h (fun h => ?_) (fun h => ?_)
   ·refine wpC_seq ?_
    refine d_reg rfl ?_
    refine wpI_s rfl trivial ?_
    refine wpI_nil ?_
    refine seqK_n ?_
    refine wpC_ret ?_
    refine seqK_r ?_
    obtain rfl := Option.some.inj h
    exact d_ret2 [0, 1] [] ⟨rfl, rfl, rfl, rfl⟩ (rIs_t rfl rfl) (leH2_c rfl rfl rfl rfl rfl rfl (leH2_c rfl rfl rfl rfl rfl rfl leH2_n)) leH2_n rfl
   ·refine wpC_skip ?_
    refine seqK_n ?_
    refine wpC_seq ?_
    refine d_reg rfl ?_
    refine wpI_s rfl trivial ?_
    refine bind_e h fun o10 ho11 h => ?_
    obtain ⟨x12, x13, t14, x15, t16⟩ := o10
    try dsimp only at h
    refine d_call (ok_flash_Flash_operation (i0 := 0) (i1 := 1)  (X0b := X0b) (X0ty := X0ty) (X1b := X1b) (X1ty := X1ty) (X1pr := X1pr) (X1ps := X1ps) (X1o := X1o) (X1c := X1c) (X1n := f_0.length) (X1l := rfl) (X1S := X1S) (X1C := X1C) (h := ho11)) rfl rfl (haveRw_c rfl haveRw_n) (haveRo_c rfl rfl haveRo_n) (own_of rfl) ?_
    rintro _ _ _ kz17 ⟨rfl, rfl, rfl⟩
    refine ⟨_, rfl, trivial, ?_⟩
    refine wpI_s rfl trivial ?_
    refine wpI_s rfl trivial ?_
    refine wpI_s rfl trivial ?_
    refine wpI_s rfl trivial ?_
    refine wpI_s rfl trivial ?_
    refine wpI_nil ?_
    refine seqK_n ?_
    refine wpC_seq ?_
    refine d_reg rfl ?_
    refine wpI_s rfl trivial ?_
    refine d_n rfl trivial h fun x18 h => ?_
    refine wpI_s rfl trivial ?_
    refine wpI_nil ?_
    refine seqK_n ?_
    refine wpC_seq ?_
    refine wpC_seq ?_
    refine d_reg rfl ?_
    refine wpI_s rfl trivial ?_
    refine wpI_s rfl trivial ?_
    refine wpI_nil ?_
    refine seqK_n ?_
    refine wpC_block ?_
    refine bind_e h fun o26 h hko26 => ?_
    refine d_loop (fun (z : List Int × Int × Nat) => match z with | (l19, x21, kz22) => (l19, x21)) (fun (z : List Int × Int × Nat) => (match z with | (l19, x21, kz22) => ⟨[(0, .c (.p 0 X0b 0)), (6, bb t16), (7, ib .i64 x18), (30, ib .i64 x15), (31, ib .i64 x21)], [⟨0, X0b, X0ty, false, (0, 0), (.v undef), flat [.c (.s 1 X1b X1o f_0.length X1c), .c (.v (.int .i64 x12)), .c (.v (.int .i64 x13)), .c (.v (.bool t14)), .c (.v (.int .i64 f_4)), .c (.v (.int .i64 f_5))]⟩, ⟨1, X1b, X1ty, false, (0, 0), (.v undef), flat [.r X1pr, .i .u8 l19, .r X1ps]⟩], 100, kz22⟩ : St)) (fun (z : List Int × Int × Nat) => match z with | (l19, x21, kz22) => (l19.length = f_0.length)) (f_0, 0, kz17) [0, 1] h rfl (leS2_c rfl rfl (leS2_c rfl rfl (leS2_c rfl rfl (leS2_c rfl rfl (leS2_c rfl rfl leS2_n))))) (leH2_c rfl rfl rfl rfl rfl rfl (leH2_c rfl rfl rfl rfl rfl rfl leH2_n)) rfl rfl ?_
    rintro rec ⟨l19, x21, kz22⟩ h20 h
    show wpC _ _ _ _ _ (St.mk _ _ _ _)
    unfold fn_flash_Flash_Erase_l1 at h; try dsimp only at h
    refine wpC_seq ?_
    refine d_reg rfl ?_
    refine d_b rfl trivial h fun t27 h => ?_
    refine wpI_nil ?_
    refine seqK_n ?_
    refine wpC_seq ?_
    refine d_cond rfl h (fun h => ?_) (fun h => ?_)
    ·refine wpC_skip ?_
     refine seqK_n ?_
     refine wpC_seq ?_
     refine wpC_block ?_
     refine wpC_seq ?_
     refine d_reg rfl ?_
     refine wpI_s rfl trivial ?_
     refine wpI_s rfl trivial ?_
     refine wpI_nil ?_
     refine seqK_n ?_
     refine d_reg rfl ?_
     refine wpI_s rfl trivial ?_
     refine wpI_s rfl trivial ?_
     refine wpI_s rfl trivial ?_
     refine d_ldc 0 rfl rfl rfl rfl trivial ?_
     refine wpI_s rfl trivial ?_
     refine wpI_s rfl trivial ?_
     refine d_n rfl trivial h fun x28 h => ?_
     refine gd_e h fun g29 h => ?_
     refine wpI_s rfl g29 ?_
     refine d_st 1 (q := x28.toNat) rfl rfl rfl rfl h (sl_offP0 (i := x28) rfl X1S g29) (fun _ => rfl) (fun _ => rfl) (fun _ => trivial) fun l30 h31 h => ?_
     refine wpI_nil ?_
     refine blockK_n ?_
     refine seqK_n ?_
     refine d_reg rfl ?_
     refine d_n rfl trivial h fun x32 h => ?_
     refine wpI_s rfl trivial ?_
     refine wpI_nil ?_
     refine lpK_n (l30, x32, kz22) [0, 1] (h31.trans h20) h (leS2_c rfl rfl (leS2_c rfl rfl (leS2_c rfl rfl (leS2_c rfl rfl (leS2_c rfl rfl leS2_n))))) (leH2_c rfl rfl rfl rfl rfl rfl (leH2_c rfl rfl rfl rfl rfl rfl leH2_n)) rfl rfl
    ·refine wpC_exit ?_
     refine seqK_x ?_
     obtain rfl := Option.some.inj h
     have h := hko26; clear hko26; try dsimp only at h
     refine lpK_x ?_
     refine blockK_x ?_
     refine seqK_n ?_
     refine bind_e h fun o35 h hko35 => ?_
     refine d_join (fun (z : Int × Nat) => (match z with | (x33, kz34) => ⟨[(6, bb t16)], [⟨0, X0b, X0ty, false, (0, 0), (.v undef), flat [.c (.s 1 X1b X1o f_0.length X1c), .c (.v (.int .i64 x12)), .c (.v (.int .i64 x13)), .c (.v (.bool t14)), .c (.v (.int .i64 x33)), .c (.v (.int .i64 f_5))]⟩, ⟨1, X1b, X1ty, false, (0, 0), (.v undef), flat [.r X1pr, .i .u8 l19, .r X1ps]⟩], 100, kz34⟩ : St)) (fun (z : Int × Nat) => match z with | (x33, kz34) => (True) ∧ x33 = o35) ?_ ?_
     ·refine wpC_seq ?_
      refine d_reg rfl ?_
      refine wpI_s rfl trivial ?_
      refine wpI_nil ?_
      refine seqK_n ?_
      refine d_cond rfl h (fun h => ?_) (fun h => ?_)
      ·refine d_reg rfl ?_
       refine wpI_s rfl trivial ?_
       refine wpI_s rfl trivial ?_
       refine wpI_s rfl trivial ?_
       refine wpI_s rfl trivial ?_
       refine d_ldc 4 rfl rfl rfl rfl rfl ?_
       refine d_n rfl trivial h fun x36 h => ?_
       refine d_n rfl trivial h fun x37 h => ?_
       refine wpI_s rfl trivial ?_
       refine wpI_s rfl trivial ?_
       refine d_stc 4 rfl rfl rfl rfl rfl rfl rfl rfl trivial ?_
       refine wpI_nil ?_
       refine jnK_n (x37, kz22) [0, 1] ⟨trivial, Option.some.inj h⟩ (leS2_c rfl rfl leS2_n) (leH2_c rfl rfl rfl rfl rfl rfl (leH2_c rfl rfl rfl rfl rfl rfl leH2_n)) rfl rfl
      ·refine wpC_skip ?_
       refine jnK_n (f_4, kz22) [0, 1] ⟨trivial, Option.some.inj h⟩ (leS2_c rfl rfl leS2_n) (leH2_c rfl rfl rfl rfl rfl rfl (leH2_c rfl rfl rfl rfl rfl rfl leH2_n)) rfl rfl
     ·rintro ⟨x33, kz34⟩ ⟨_, rfl⟩
      show wpC _ _ _ _ _ (St.mk _ _ _ _)
      have h := hko35; clear hko35; try dsimp only at h
      refine wpC_seq ?_
      refine d_reg rfl ?_
      refine wpI_s rfl trivial ?_
      refine wpI_s rfl trivial ?_
      refine wpI_nil ?_
      refine seqK_n ?_
      refine wpC_ret ?_
      obtain rfl := Option.some.inj h
      exact d_ret2 [0, 1] [] ⟨rfl, rfl, rfl, h20⟩ (rIs_t rfl rfl) (leH2_c rfl rfl rfl rfl rfl rfl (leH2_c rfl rfl rfl rfl rfl rfl leH2_n)) leH2_n rfl
 exact key.cong rfl (blkEq_c rfl rfl rfl rfl (blkEq_c rfl rfl rfl rfl blkEq_n)) blkEq_n

def ir_flash_Flash_Program : IFn := ⟨63, (.seq (.reg [] (.cons ⟨none, (.s 6 (.mv (.k (.bool false))))⟩ .nil)) (.seq (.seqJ (.reg [] (.cons ⟨none, (.s 11 (.mv (.t 0)))⟩ (.cons ⟨none, (.s 12 (.nil (.t 11)))⟩ (.cons ⟨none, (.s 13 (.fa 3 (.t 12)))⟩ (.cons ⟨none, (.r 14 (.ld (.bool false) (.t 13)))⟩ (.cons ⟨none, (.s 15 (.mv (.t 14)))⟩ (.cons ⟨(some (15, false)), (.s 16 (.mv (.t 0)))⟩ (.cons ⟨(some (15, false)), (.s 17 (.mv (.t 1)))⟩ (.cons ⟨(some (15, false)), (.s 18 (.mv (.t 2)))⟩ (.cons ⟨(some (15, false)), (.s 19 (.len (.t 18)))⟩ (.cons ⟨(some (15, false)), (.call (some 20) 32 [(.t 16), (.t 17), (.t 19)])⟩ (.cons ⟨(some (15, false)), (.s 21 (.un .not (.t 20)))⟩ (.cons ⟨none, (.s 22 (.pick (.t 15) (.k (.bool true)) (.t 21)))⟩ .nil))))))))))))) (.cond (.t 22) (.seq (.reg [] (.cons ⟨none, (.s 6 (.mv (.k (.bool false))))⟩ .nil)) .ret) .skip)) (.seq (.reg [] (.cons ⟨none, (.s 24 (.mv (.t 0)))⟩ (.cons ⟨none, (.s 25 (.mv (.t 2)))⟩ (.cons ⟨none, (.s 26 (.len (.t 25)))⟩ (.cons ⟨none, (.call (some 27) 31 [(.t 24), (.t 26)])⟩ (.cons ⟨none, (.s 23 (.mv (.t 27)))⟩ (.cons ⟨none, (.s 28 (.ext (.t 23) 0))⟩ (.cons ⟨none, (.s 29 (.ext (.t 23) 1))⟩ (.cons ⟨none, (.s 7 (.mv (.t 28)))⟩ (.cons ⟨none, (.s 8 (.mv (.t 29)))⟩ .nil)))))))))) (.seq (.seq (.reg [] (.cons ⟨none, (.s 30 (.mv (.t 2)))⟩ (.cons ⟨none, (.s 31 (.mv (.t 7)))⟩ (.cons ⟨none, (.s 32 (.sls 1 (.t 30) none (some (.t 31)) none))⟩ (.cons ⟨none, (.s 33 (.len (.t 32)))⟩ (.cons ⟨none, (.s 34 (.mv (.k (.int .i64 0))))⟩ .nil)))))) (.block 0 (.loop (.seq (.reg [] (.cons ⟨none, (.s 35 (.bin .lss (.t 34) (.t 33)))⟩ .nil)) (.seq (.cond (.t 35) .skip (.exit 0)) (.seq (.block 1 (.seq (.reg [] (.cons ⟨none, (.s 36 (.mv (.t 34)))⟩ (.cons ⟨none, (.s 37 (.is 1 (.t 32) (.t 34)))⟩ (.cons ⟨none, (.r 38 (.ld (.int .u8 0) (.t 37)))⟩ (.cons ⟨none, (.s 9 (.mv (.t 36)))⟩ (.cons ⟨none, (.s 10 (.mv (.t 38)))⟩ .nil)))))) (.reg [] (.cons ⟨none, (.s 39 (.mv (.t 0)))⟩ (.cons ⟨none, (.s 40 (.nil (.t 39)))⟩ (.cons ⟨none, (.s 41 (.fa 0 (.t 40)))⟩ (.cons ⟨none, (.r 42 (.ld (.bool false) (.t 41)))⟩ (.cons ⟨none, (.s 43 (.mv (.t 1)))⟩ (.cons ⟨none, (.s 44 (.mv (.t 9)))⟩ (.cons ⟨none, (.s 45 (.bin .add (.t 43) (.t 44)))⟩ (.cons ⟨none, (.s 46 (.is 1 (.t 42) (.t 45)))⟩ (.cons ⟨none, (.r 47 (.ld (.int .u8 0) (.t 46)))⟩ (.cons ⟨none, (.s 48 (.mv (.t 10)))⟩ (.cons ⟨none, (.s 49 (.bin .and (.t 47) (.t 48)))⟩ (.cons ⟨none, (.s 50 (.is 1 (.t 42) (.t 45)))⟩ (.cons ⟨none, (.w none (.st (.t 50) (.t 49)))⟩ .nil)))))))))))))))) (.reg [] (.cons ⟨none, (.s 51 (.bin .add (.t 34) (.k (.int .i64 1))))⟩ (.cons ⟨none, (.s 34 (.mv (.t 51)))⟩ .nil))))))))) (.seqJ (.seq (.reg [] (.cons ⟨none, (.s 52 (.mv (.t 8)))⟩ .nil)) (.cond (.t 52) (.reg [] (.cons ⟨none, (.s 53 (.mv (.t 0)))⟩ (.cons ⟨none, (.s 54 (.mv (.t 0)))⟩ (.cons ⟨none, (.s 55 (.nil (.t 54)))⟩ (.cons ⟨none, (.s 56 (.fa 5 (.t 55)))⟩ (.cons ⟨none, (.r 57 (.ld (.int .i64 0) (.t 56)))⟩ (.cons ⟨none, (.s 58 (.bin .add (.t 57) (.k (.int .i64 1))))⟩ (.cons ⟨none, (.s 59 (.mnmx false (.t 58) (.k (.int .i64 1099511627776))))⟩ (.cons ⟨none, (.s 60 (.nil (.t 53)))⟩ (.cons ⟨none, (.s 61 (.fa 5 (.t 60)))⟩ (.cons ⟨none, (.w none (.st (.t 61) (.t 59)))⟩ .nil))))))))))) .skip)) (.seq (.reg [] (.cons ⟨none, (.s 62 (.mv (.t 8)))⟩ (.cons ⟨none, (.s 6 (.mv (.t 62)))⟩ .nil))) .ret)))))), [(.tmp 6)]⟩
theorem low_flash_Flash_Program : lowF Try.prog Try.f23 = some ir_flash_Flash_Program.strip := by kernel_rfl
theorem ok_flash_Flash_Program {fu : Nat} (i0 : Nat) (i1 : Nat) (i2 : Nat) {X0b : Nat} {X0ty : Nat} {X1b : Nat} {X1ty : Nat} {X1pr : List C} {X1ps : List C} {X1o : Nat} {X1c : Nat} {X1n : Nat} {X2b : Nat} {X2ty : Nat} {X2pr : List C} {X2ps : List C} {X2o : Nat} {X2c : Nat} {X2n : Nat} {X2fr : Nat × Nat} {f_0 : List Int} {f_1 : Int} {f_2 : Int} {f_3 : Bool} {f_4 : Int} {f_5 : Int} {at_ : Int} {b_ : List Int} (X1l : X1n = f_0.length) (X1S : 0 < X1n → X1pr.length = X1o) (X1C : X1n ≤ X1c) (X2l : X2n = b_.length) (X2S : 0 < X2n → X2pr.length = X2o) (X2C : X2n ≤ X2c) {r : List Int × Int × Int × Bool × Int × Bool} (h : fn_flash_Flash_Program fu f_0 f_1 f_2 f_3 f_4 f_5 at_ b_ = some r) :
  EV.Fn Try.prog 23 [.c (.p 0 X0b 0), ib .i64 at_, .c (.s 2 X2b X2o X2n X2c)] [⟨i0, X0b, X0ty, false, (0, 0), (.v undef), flat [.c (.s i1 X1b X1o X1n X1c), .c (.v (.int .i64 f_1)), .c (.v (.int .i64 f_2)), .c (.v (.bool f_3)), .c (.v (.int .i64 f_4)), .c (.v (.int .i64 f_5))]⟩, ⟨i1, X1b, X1ty, false, (0, 0), (.v undef), flat [.r X1pr, .i .u8 f_0, .r X1ps]⟩] [⟨i2, X2b, X2ty, true, X2fr, (.v undef), flat [.r X2pr, .i .u8 b_, .r X2ps]⟩] (fun v u nw => match r with | (l9001, x9003, x9004, t9005, x9006, t9007) => (v = bb t9007 ∧ u = [flat [.c (.s i1 X1b X1o X1n X1c), .c (.v (.int .i64 x9003)), .c (.v (.int .i64 x9004)), .c (.v (.bool t9005)), .c (.v (.int .i64 f_4)), .c (.v (.int .i64 x9006))], flat [.r X1pr, .i .u8 l9001, .r X1ps]] ∧ nw = [] ∧ (l9001.length = X1n))) := by
 subst X1l
 subst X2l
 have key : EV.Fn Try.prog 23 [.c (.p 0 X0b 0), ib .i64 at_, .c (.s 2 X2b X2o b_.length X2c)] [⟨0, X0b, X0ty, false, (0, 0), (.v undef), flat [.c (.s 1 X1b X1o f_0.length X1c), .c (.v (.int .i64 f_1)), .c (.v (.int .i64 f_2)), .c (.v (.bool f_3)), .c (.v (.int .i64 f_4)), .c (.v (.int .i64 f_5))]⟩, ⟨1, X1b, X1ty, false, (0, 0), (.v undef), flat [.r X1pr, .i .u8 f_0, .r X1ps]⟩] [⟨2, X2b, X2ty, true, X2fr, (.v undef), flat [.r X2pr, .i .u8 b_, .r X2ps]⟩] (fun v u nw => match r with | (l9001, x9003, x9004, t9005, x9006, t9007) => (v = bb t9007 ∧ u = [flat [.c (.s i1 X1b X1o f_0.length X1c), .c (.v (.int .i64 x9003)), .c (.v (.int .i64 x9004)), .c (.v (.bool t9005)), .c (.v (.int .i64 f_4)), .c (.v (.int .i64 x9006))], flat [.r X1pr, .i .u8 l9001, .r X1ps]] ∧ nw = [] ∧ (l9001.length = f_0.length))) := by
  unfold fn_flash_Flash_Program at h
  refine d_fn (i := ir_flash_Flash_Program) (fn := Try.f23) (sl0 := [(0, .c (.p 0 X0b 0)), (1, ib .i64 at_), (2, .c (.s 2 X2b X2o b_.length X2c))]) (hp0 := [⟨0, X0b, X0ty, false, (0, 0), (.v undef), flat [.c (.s 1 X1b X1o f_0.length X1c), .c (.v (.int .i64 f_1)), .c (.v (.int .i64 f_2)), .c (.v (.bool f_3)), .c (.v (.int .i64 f_4)), .c (.v (.int .i64 f_5))]⟩, ⟨1, X1b, X1ty, false, (0, 0), (.v undef), flat [.r X1pr, .i .u8 f_0, .r X1ps]⟩, ⟨2, X2b, X2ty, true, X2fr, (.v undef), flat [.r X2pr, .i .u8 b_, .r X2ps]⟩]) (by kernel_rfl) low_flash_Flash_Program mo rfl rfl rfl fun F z0 => ?_
  dsimp only [ir_flash_Flash_Program]
  refine wpC_seq ?_
  refine d_reg rfl ?_
  refine wpI_s rfl trivial ?_
  refine wpI_nil ?_
  refine seqK_n ?_
  refine wpC_seq ?_
  refine bind_e h fun o3 h hko3 => ?_
  refine d_join (fun (z : Bool × Nat) => (match z with | (t1, kz2) => ⟨[(0, .c (.p 0 X0b 0)), (1, ib .i64 at_), (2, .c (.s 2 X2b X2o b_.length X2c)), (22, bb t1)], [⟨0, X0b, X0ty, false, (0, 0), (.v undef), flat [.c (.s 1 X1b X1o f_0.length X1c), .c (.v (.int .i64 f_1)), .c (.v (.int .i64 f_2)), .c (.v (.bool f_3)), .c (.v (.int .i64 f_4)), .c (.v (.int .i64 f_5))]⟩, ⟨1, X1b, X1ty, false, (0, 0), (.v undef), flat [.r X1pr, .i .u8 f_0, .r X1ps]⟩, ⟨2, X2b, X2ty, true, X2fr, (.v undef), flat [.r X2pr, .i .u8 b_, .r X2ps]⟩], 100, kz2⟩ : St)) (fun (z : Bool × Nat) => match z with | (t1, kz2) => (True) ∧ t1 = o3) ?_ ?_
  ·refine d_reg rfl ?_
   refine wpI_s rfl trivial ?_
   refine wpI_s rfl trivial ?_
   refine wpI_s rfl trivial ?_
   refine d_ldc 3 rfl rfl rfl rfl trivial ?_
   refine wpI_s rfl trivial ?_
   refine d_guard rfl h (fun h => ?_) (fun h => ?_)
   ·refine wpI_s rfl trivial ?_
    refine d_guardT rfl ?_
    refine wpI_s rfl trivial ?_
    refine d_guardT rfl ?_
    refine wpI_s rfl trivial ?_
    refine d_guardT rfl ?_
    refine wpI_s rfl trivial ?_
    refine d_guardT rfl ?_
    refine bind_e h fun t6 ho5 h => ?_
    refine d_call (ok_flash_Flash_is (i0 := 0) (i1 := 1)  (X0b := X0b) (X0ty := X0ty) (X1b := X1b) (X1ty := X1ty) (X1pr := X1pr) (X1ps := X1ps) (X1o := X1o) (X1c := X1c) (X1n := f_0.length) (X1l := rfl) (X1S := X1S) (X1C := X1C) (h := ho5)) rfl rfl haveRw_n (haveRo_c rfl rfl (haveRo_c rfl rfl haveRo_n)) (own_of rfl) ?_
    rintro _ _ _ kz7 ⟨rfl, rfl, rfl⟩
    refine ⟨_, rfl, trivial, ?_⟩
    refine d_guardT rfl ?_
    refine d_b rfl trivial h fun t8 h => ?_
    refine d_pickF rfl rfl rfl ?_
    refine wpI_nil ?_
    refine jnK_n (t8, kz7) [0, 1, 2] ⟨trivial, Option.some.inj h⟩ (leS2_c rfl rfl (leS2_c rfl rfl (leS2_c rfl rfl (leS2_c rfl rfl leS2_n)))) (leH2_c rfl rfl rfl rfl rfl rfl (leH2_c rfl rfl rfl rfl rfl rfl (leH2_c rfl rfl rfl rfl rfl rfl leH2_n))) rfl rfl
   ·refine d_guardF rfl rfl ?_
    refine d_guardF rfl rfl ?_
    refine d_guardF rfl rfl ?_
    refine d_guardF rfl rfl ?_
    refine d_guardF rfl rfl ?_
    refine d_pickT rfl rfl rfl ?_
    refine wpI_nil ?_
    refine jnK_n (true, z0) [0, 1, 2] ⟨trivial, Option.some.inj h⟩ (leS2_c rfl rfl (leS2_c rfl rfl (leS2_c rfl rfl (leS2_c rfl rfl leS2_n)))) (leH2_c rfl rfl rfl rfl rfl rfl (leH2_c rfl rfl rfl rfl rfl rfl (leH2_c rfl rfl rfl rfl rfl rfl leH2_n))) rfl rfl
  ·rintro ⟨t1, kz2⟩ ⟨_, rfl⟩
   show wpC _ _ _ _ _ (St.mk _ _ _ _)
   have h := hko3; clear hko3; try dsimp only at h
   refine d_cond rfl h (fun h => ?_) (fun h => ?_)
   ·refine wpC_seq ?_
    refine d_reg rfl ?_
    refine wpI_s rfl trivial ?_
    refine wpI_nil ?_
    refine seqK_n ?_
    refine wpC_ret ?_
    refine seqK_r ?_
    obtain rfl := Option.some.inj h
    exact d_ret2 [0, 1] [] ⟨rfl, rfl, rfl, rfl⟩ (rIs_t rfl rfl) (leH2_c rfl rfl rfl rfl rfl rfl (leH2_c rfl rfl rfl rfl rfl rfl leH2_n)) leH2_n rfl
   ·refine wpC_skip ?_
    refine seqK_n ?_
    refine wpC_seq ?_
    refine d_reg rfl ?_
    refine wpI_s rfl trivial ?_
    refine wpI_s rfl trivial ?_
    refine wpI_s rfl trivial ?_
    refine bind_e h fun o9 ho10 h => ?_
    obtain ⟨x11, x12, t13, x14, t15⟩ := o9
    try dsimp only at h
    refine d_call (ok_flash_Flash_operation (i0 := 0) (i1 := 1)  (X0b := X0b) (X0ty := X0ty) (X1b := X1b) (X1ty := X1ty) (X1pr := X1pr) (X1ps := X1ps) (X1o := X1o) (X1c := X1c) (X1n := f_0.length) (X1l := rfl) (X1S := X1S) (X1C := X1C) (h := ho10)) rfl rfl (haveRw_c rfl haveRw_n) (haveRo_c rfl rfl haveRo_n) (own_of rfl) ?_
    rintro _ _ _ kz16 ⟨rfl, rfl, rfl⟩
    refine ⟨_, rfl, trivial, ?_⟩
    refine wpI_s rfl trivial ?_
    refine wpI_s rfl trivial ?_
    refine wpI_s rfl trivial ?_
    refine wpI_s rfl trivial ?_
    refine wpI_s rfl trivial ?_
    refine wpI_nil ?_
    refine seqK_n ?_
    refine wpC_seq ?_
    refine wpC_seq ?_
    refine d_reg rfl ?_
    refine wpI_s rfl trivial ?_
    refine wpI_s rfl trivial ?_
    refine gd_e h fun g17 h => ?_
    refine d_sls (q0 := 0) (p := X2pr.length) rfl rfl rfl g17 X2C (hs_zero X2S) fun ko18 kc19 h20 h21 => ?_
    replace h20 : 0 < x14.toNat → X2pr.length = ko18 := by intro h0; have := h20 (by omega); omega
    replace h21 : x14.toNat ≤ kc19 := by omega
    have h22 : x14.toNat ≤ b_.length := by have := g17; omega
    refine wpI_s rfl trivial ?_
    refine wpI_s rfl trivial ?_
    refine wpI_nil ?_
    refine seqK_n ?_
    refine wpC_block ?_
    refine bind_e h fun o30 h hko30 => ?_
    refine d_loop (fun (z : List Int × Int × Nat) => match z with | (l23, x25, kz26) => (l23, x25)) (fun (z : List Int × Int × Nat) => (match z with | (l23, x25, kz26) => ⟨[(0, .c (.p 0 X0b 0)), (1, ib .i64 at_), (8, bb t15), (32, .c (.s 2 X2b ko18 x14.toNat kc19)), (33, ib .i64 ((x14.toNat : Nat) : Int)), (34, ib .i64 x25)], [⟨0, X0b, X0ty, false, (0, 0), (.v undef), flat [.c (.s 1 X1b X1o f_0.length X1c), .c (.v (.int .i64 x11)), .c (.v (.int .i64 x12)), .c (.v (.bool t13)), .c (.v (.int .i64 f_4)), .c (.v (.int .i64 f_5))]⟩, ⟨1, X1b, X1ty, false, (0, 0), (.v undef), flat [.r X1pr, .i .u8 l23, .r X1ps]⟩, ⟨2, X2b, X2ty, true, X2fr, (.v undef), flat [.r X2pr, .i .u8 b_, .r X2ps]⟩], 100, kz26⟩ : St)) (fun (z : List Int × Int × Nat) => match z with | (l23, x25, kz26) => (l23.length = f_0.length)) (f_0, 0, kz16) [0, 1, 2] h rfl (leS2_c rfl rfl (leS2_c rfl rfl (leS2_c rfl rfl (leS2_c rfl rfl (leS2_c rfl rfl (leS2_c rfl rfl leS2_n)))))) (leH2_c rfl rfl rfl rfl rfl rfl (leH2_c rfl rfl rfl rfl rfl rfl (leH2_c rfl rfl rfl rfl rfl rfl leH2_n))) rfl rfl ?_
    rintro rec ⟨l23, x25, kz26⟩ h24 h
    show wpC _ _ _ _ _ (St.mk _ _ _ _)
    unfold fn_flash_Flash_Program_l1 at h; try dsimp only at h
    refine wpC_seq ?_
    refine d_reg rfl ?_
    refine d_b rfl trivial h fun t31 h => ?_
    refine wpI_nil ?_
    refine seqK_n ?_
    refine wpC_seq ?_
    refine d_cond rfl h (fun h => ?_) (fun h => ?_)
    ·refine wpC_skip ?_
     refine seqK_n ?_
     refine wpC_seq ?_
     refine wpC_block ?_
     refine wpC_seq ?_
     refine d_reg rfl ?_
     refine wpI_s rfl trivial ?_
     refine gd_e h fun g32 h => ?_
     refine wpI_s rfl g32 ?_
     refine d_ld 1 (q := x25.toNat) rfl rfl rfl h (sl_offP0 (i := x25) rfl h20 g32) fun x33 h => ?_
     refine wpI_s rfl trivial ?_
     refine wpI_s rfl trivial ?_
     refine wpI_nil ?_
     refine seqK_n ?_
     refine d_reg rfl ?_
     refine wpI_s rfl trivial ?_
     refine wpI_s rfl trivial ?_
     refine wpI_s rfl trivial ?_
     refine d_ldc 0 rfl rfl rfl rfl trivial ?_
     refine wpI_s rfl trivial ?_
     refine wpI_s rfl trivial ?_
     refine d_n rfl trivial h fun x34 h => ?_
     refine gd_e h fun g35 h => ?_
     refine wpI_s rfl g35 ?_
     refine d_ld 1 (q := x34.toNat) rfl rfl rfl h (sl_offP0 (i := x34) rfl X1S g35) fun x36 h => ?_
     refine wpI_s rfl trivial ?_
     refine d_n rfl trivial h fun x37 h => ?_
     refine gd_e h fun g38 h => ?_
     refine wpI_s rfl g38 ?_
     refine d_st 1 (q := x34.toNat) rfl rfl rfl rfl h (sl_offP0 (i := x34) rfl X1S g38) (fun _ => rfl) (fun _ => rfl) (fun _ => trivial) fun l39 h40 h => ?_
     refine wpI_nil ?_
     refine blockK_n ?_
     refine seqK_n ?_
     refine d_reg rfl ?_
     refine d_n rfl trivial h fun x41 h => ?_
     refine wpI_s rfl trivial ?_
     refine wpI_nil ?_
     refine lpK_n (l39, x41, kz26) [0, 1, 2] (h40.trans h24) h (leS2_c rfl rfl (leS2_c rfl rfl (leS2_c rfl rfl (leS2_c rfl rfl (leS2_c rfl rfl (leS2_c rfl rfl leS2_n)))))) (leH2_c rfl rfl rfl rfl rfl rfl (leH2_c rfl rfl rfl rfl rfl rfl (leH2_c rfl rfl rfl rfl rfl rfl leH2_n))) rfl rfl
    ·refine wpC_exit ?_
     refine seqK_x ?_
     obtain rfl := Option.some.inj h
     have h := hko30; clear hko30; try dsimp only at h
     refine lpK_x ?_
     refine blockK_x ?_
     refine seqK_n ?_
     refine bind_e h fun o44 h hko44 => ?_
     refine d_join (fun (z : Int × Nat) => (match z with | (x42, kz43) => ⟨[(8, bb t15)], [⟨0, X0b, X0ty, false, (0, 0), (.v undef), flat [.c (.s 1 X1b X1o f_0.length X1c), .c (.v (.int .i64 x11)), .c (.v (.int .i64 x12)), .c (.v (.bool t13)), .c (.v (.int .i64 f_4)), .c (.v (.int .i64 x42))]⟩, ⟨1, X1b, X1ty, false, (0, 0), (.v undef), flat [.r X1pr, .i .u8 l23, .r X1ps]⟩], 100, kz43⟩ : St)) (fun (z : Int × Nat) => match z with | (x42, kz43) => (True) ∧ x42 = o44) ?_ ?_
     ·refine wpC_seq ?_
      refine d_reg rfl ?_
      refine wpI_s rfl trivial ?_
      refine wpI_nil ?_
      refine seqK_n ?_
      refine d_cond rfl h (fun h => ?_) (fun h => ?_)
      ·refine d_reg rfl ?_
       refine wpI_s rfl trivial ?_
       refine wpI_s rfl trivial ?_
       refine wpI_s rfl trivial ?_
       refine wpI_s rfl trivial ?_
       refine d_ldc 5 rfl rfl rfl rfl rfl ?_
       refine d_n rfl trivial h fun x45 h => ?_
       refine d_n rfl trivial h fun x46 h => ?_
       refine wpI_s rfl trivial ?_
       refine wpI_s rfl trivial ?_
       refine d_stc 5 rfl rfl rfl rfl rfl rfl rfl rfl trivial ?_
       refine wpI_nil ?_
       refine jnK_n (x46, kz26) [0, 1] ⟨trivial, Option.some.inj h⟩ (leS2_c rfl rfl leS2_n) (leH2_c rfl rfl rfl rfl rfl rfl (leH2_c rfl rfl rfl rfl rfl rfl leH2_n)) rfl rfl
      ·refine wpC_skip ?_
       refine jnK_n (f_5, kz26) [0, 1] ⟨trivial, Option.some.inj h⟩ (leS2_c rfl rfl leS2_n) (leH2_c rfl rfl rfl rfl rfl rfl (leH2_c rfl rfl rfl rfl rfl rfl leH2_n)) rfl rfl
     ·rintro ⟨x42, kz43⟩ ⟨_, rfl⟩
      show wpC _ _ _ _ _ (St.mk _ _ _ _)
      have h := hko44; clear hko44; try dsimp only at h
      refine wpC_seq ?_
      refine d_reg rfl ?_
      refine wpI_s rfl trivial ?_
      refine wpI_s rfl trivial ?_
      refine wpI_nil ?_
      refine seqK_n ?_
      refine wpC_ret ?_
      obtain rfl := Option.some.inj h
      exact d_ret2 [0, 1] [] ⟨rfl, rfl, rfl, h24⟩ (rIs_t rfl rfl) (leH2_c rfl rfl rfl rfl rfl rfl (leH2_c rfl rfl rfl rfl rfl rfl leH2_n)) leH2_n rfl
 exact key.cong rfl (blkEq_c rfl rfl rfl rfl (blkEq_c rfl rfl rfl rfl blkEq_n)) (blkEq_c rfl rfl rfl rfl blkEq_n)

def ir_verity_Area_Write : IFn := ⟨52, (.seq (.reg [] (.cons ⟨none, (.s 6 (.mv (.k (.int .i64 0))))⟩ .nil)) (.seq (.block 0 (.seqJ (.reg [] (.cons ⟨none, (.s 8 (.mv (.t 1)))⟩ (.cons ⟨none, (.call (some 9) 20 [(.t 8)])⟩ (.cons ⟨none, (.s 10 (.un .not (.t 9)))⟩ (.cons ⟨none, (.s 11 (.mv (.t 10)))⟩ (.cons ⟨(some (11, false)), (.s 12 (.mv (.t 2)))⟩ (.cons ⟨(some (11, false)), (.s 13 (.len (.t 12)))⟩ (.cons ⟨(some (11, false)), (.s 14 (.bin .neq (.t 13) (.k (.int .i64 80))))⟩ (.cons ⟨none, (.s 15 (.pick (.t 11) (.k (.bool true)) (.t 14)))⟩ (.cons ⟨none, (.s 7 (.mv (.t 15)))⟩ .nil)))))))))) (.cond (.t 7) (.seq (.reg [] (.cons ⟨none, (.s 6 (.mv (.k (.int .i64 1))))⟩ .nil)) .ret) (.seqJ (.reg [] (.cons ⟨none, (.s 17 (.mv (.t 0)))⟩ (.cons ⟨none, (.s 18 (.nil (.t 17)))⟩ (.cons ⟨none, (.s 19 (.fa 0 (.t 18)))⟩ (.cons ⟨none, (.r 20 (.ld (.bool false) (.t 19)))⟩ (.cons ⟨none, (.call (some 21) 21 [(.t 20)])⟩ (.cons ⟨none, (.s 22 (.mv (.t 21)))⟩ (.cons ⟨(some (22, false)), (.s 23 (.mv (.t 0)))⟩ (.cons ⟨(some (22, false)), (.s 24 (.nil (.t 23)))⟩ (.cons ⟨(some (22, false)), (.s 25 (.fa 0 (.t 24)))⟩ (.cons ⟨(some (22, false)), (.r 26 (.ld (.bool false) (.t 25)))⟩ (.cons ⟨(some (22, false)), (.s 27 (.mv (.t 0)))⟩ (.cons ⟨(some (22, false)), (.s 28 (.nil (.t 27)))⟩ (.cons ⟨(some (22, false)), (.s 29 (.fa 1 (.t 28)))⟩ (.cons ⟨(some (22, false)), (.r 30 (.ld (.int .i64 0) (.t 29)))⟩ (.cons ⟨(some (22, false)), (.s 31 (.mv (.t 1)))⟩ (.cons ⟨(some (22, false)), (.s 32 (.bin .add (.t 30) (.t 31)))⟩ (.cons ⟨(some (22, false)), (.call (some 33) 22 [(.t 26), (.t 32)])⟩ (.cons ⟨(some (22, false)), (.s 34 (.un .not (.t 33)))⟩ (.cons ⟨none, (.s 35 (.pick (.t 22) (.k (.bool true)) (.t 34)))⟩ (.cons ⟨none, (.s 36 (.mv (.t 35)))⟩ (.cons ⟨(some (36, false)), (.s 37 (.mv (.t 0)))⟩ (.cons ⟨(some (36, false)), (.s 38 (.nil (.t 37)))⟩ (.cons ⟨(some (36, false)), (.s 39 (.fa 0 (.t 38)))⟩ (.cons ⟨(some (36, false)), (.r 40 (.ld (.bool false) (.t 39)))⟩ (.cons ⟨(some (36, false)), (.s 41 (.mv (.t 0)))⟩ (.cons ⟨(some (36, false)), (.s 42 (.nil (.t 41)))⟩ (.cons ⟨(some (36, false)), (.s 43 (.fa 1 (.t 42)))⟩ (.cons ⟨(some (36, false)), (.r 44 (.ld (.int .i64 0) (.t 43)))⟩ (.cons ⟨(some (36, false)), (.s 45 (.mv (.t 1)))⟩ (.cons ⟨(some (36, false)), (.s 46 (.bin .add (.t 44) (.t 45)))⟩ (.cons ⟨(some (36, false)), (.s 47 (.bin .mul (.t 46) (.k (.int .i64 256))))⟩ (.cons ⟨(some (36, false)), (.s 48 (.mv (.t 2)))⟩ (.cons ⟨(some (36, false)), (.call (some 49) 23 [(.t 40), (.t 47), (.t 48)])⟩ (.cons ⟨(some (36, false)), (.s 50 (.un .not (.t 49)))⟩ (.cons ⟨none, (.s 51 (.pick (.t 36) (.k (.bool true)) (.t 50)))⟩ (.cons ⟨none, (.s 16 (.mv (.t 51)))⟩ .nil))))))))))))))))))))))))))))))))))))) (.cond (.t 16) (.seq (.reg [] (.cons ⟨none, (.s 6 (.mv (.k (.int .i64 8))))⟩ .nil)) .ret) .skip))))) (.seq (.reg [] (.cons ⟨none, (.s 6 (.mv (.k (.int .i64 0))))⟩ .nil)) .ret))), [(.tmp 6)]⟩
theorem low_verity_Area_Write : lowF Try.prog Try.f9 = some ir_verity_Area_Write.strip := by kernel_rfl
theorem ok_verity_Area_Write {fu : Nat} (i0 : Nat) (i1 : Nat) (i2 : Nat) (i3 : Nat) {X0b : Nat} {X0ty : Nat} {X1b : Nat} {X1ty : Nat} {X2b : Nat} {X2ty : Nat} {X2pr : List C} {X2ps : List C} {X2o : Nat} {X2c : Nat} {X2n : Nat} {X3b : Nat} {X3ty : Nat} {X3pr : List C} {X3ps : List C} {X3o : Nat} {X3c : Nat} {X3n : Nat} {X0fr : Nat × Nat} {X3fr : Nat × Nat} {a_00 : List Int} {a_01 : Int} {a_02 : Int} {a_03 : Bool} {a_04 : Int} {a_05 : Int} {a_1 : Int} {i_ : Int} {c_ : List Int} (X2l : X2n = a_00.length) (X2S : 0 < X2n → X2pr.length = X2o) (X2C : X2n ≤ X2c) (X3l : X3n = c_.length) (X3S : 0 < X3n → X3pr.length = X3o) (X3C : X3n ≤ X3c) {r : List Int × Int × Int × Bool × Int × Int × Int} (h : fn_verity_Area_Write fu a_00 a_01 a_02 a_03 a_04 a_05 a_1 i_ c_ = some r) :
  EV.Fn Try.prog 9 [.c (.p 0 X0b 0), ib .i64 i_, .c (.s 3 X3b X3o X3n X3c)] [⟨i1, X1b, X1ty, false, (0, 0), (.v undef), flat [.c (.s i2 X2b X2o X2n X2c), .c (.v (.int .i64 a_01)), .c (.v (.int .i64 a_02)), .c (.v (.bool a_03)), .c (.v (.int .i64 a_04)), .c (.v (.int .i64 a_05))]⟩, ⟨i2, X2b, X2ty, false, (0, 0), (.v undef), flat [.r X2pr, .i .u8 a_00, .r X2ps]⟩] [⟨i0, X0b, X0ty, true, X0fr, (.v undef), flat [.c (.p i1 X1b 0), .c (.v (.int .i64 a_1))]⟩, ⟨i3, X3b, X3ty, true, X3fr, (.v undef), flat [.r X3pr, .i .u8 c_, .r X3ps]⟩] (fun v u nw => match r with | (l9001, x9003, x9004, t9005, x9006, x9007, x9008) => (v = ib .i64 x9008 ∧ u = [flat [.c (.s i2 X2b X2o X2n X2c), .c (.v (.int .i64 x9003)), .c (.v (.int .i64 x9004)), .c (.v (.bool t9005)), .c (.v (.int .i64 x9006)), .c (.v (.int .i64 x9007))], flat [.r X2pr, .i .u8 l9001, .r X2ps]] ∧ nw = [] ∧ (l9001.length = X2n))) := by
 subst X2l
 subst X3l
 have key : EV.Fn Try.prog 9 [.c (.p 0 X0b 0), ib .i64 i_, .c (.s 3 X3b X3o c_.length X3c)] [⟨1, X1b, X1ty, false, (0, 0), (.v undef), flat [.c (.s 2 X2b X2o a_00.length X2c), .c (.v (.int .i64 a_01)), .c (.v (.int .i64 a_02)), .c (.v (.bool a_03)), .c (.v (.int .i64 a_04)), .c (.v (.int .i64 a_05))]⟩, ⟨2, X2b, X2ty, false, (0, 0), (.v undef), flat [.r X2pr, .i .u8 a_00, .r X2ps]⟩] [⟨0, X0b, X0ty, true, X0fr, (.v undef), flat [.c (.p 1 X1b 0), .c (.v (.int .i64 a_1))]⟩, ⟨3, X3b, X3ty, true, X3fr, (.v undef), flat [.r X3pr, .i .u8 c_, .r X3ps]⟩] (fun v u nw => match r with | (l9001, x9003, x9004, t9005, x9006, x9007, x9008) => (v = ib .i64 x9008 ∧ u = [flat [.c (.s i2 X2b X2o a_00.length X2c), .c (.v (.int .i64 x9003)), .c (.v (.int .i64 x9004)), .c (.v (.bool t9005)), .c (.v (.int .i64 x9006)), .c (.v (.int .i64 x9007))], flat [.r X2pr, .i .u8 l9001, .r X2ps]] ∧ nw = [] ∧ (l9001.length = a_00.length))) := by
  unfold fn_verity_Area_Write at h
  refine d_fn (i := ir_verity_Area_Write) (fn := Try.f9) (sl0 := [(0, .c (.p 0 X0b 0)), (1, ib .i64 i_), (2, .c (.s 3 X3b X3o c_.length X3c))]) (hp0 := [⟨1, X1b, X1ty, false, (0, 0), (.v undef), flat [.c (.s 2 X2b X2o a_00.length X2c), .c (.v (.int .i64 a_01)), .c (.v (.int .i64 a_02)), .c (.v (.bool a_03)), .c (.v (.int .i64 a_04)), .c (.v (.int .i64 a_05))]⟩, ⟨2, X2b, X2ty, false, (0, 0), (.v undef), flat [.r X2pr, .i .u8 a_00, .r X2ps]⟩, ⟨0, X0b, X0ty, true, X0fr, (.v undef), flat [.c (.p 1 X1b 0), .c (.v (.int .i64 a_1))]⟩, ⟨3, X3b, X3ty, true, X3fr, (.v undef), flat [.r X3pr, .i .u8 c_, .r X3ps]⟩]) (by kernel_rfl) low_verity_Area_Write mo rfl rfl rfl fun F z0 => ?_
  dsimp only [ir_verity_Area_Write]
  refine wpC_seq ?_
  refine d_reg rfl ?_
  refine wpI_s rfl trivial ?_
  refine wpI_nil ?_
  refine seqK_n ?_
  refine wpC_seq ?_
  refine wpC_block ?_
  refine bind_e h fun o3 h hko3 => ?_
  refine d_join (fun (z : Bool × Nat) => (match z with | (t1, kz2) => ⟨[(0, .c (.p 0 X0b 0)), (1, ib .i64 i_), (2, .c (.s 3 X3b X3o c_.length X3c)), (7, bb t1)], [⟨1, X1b, X1ty, false, (0, 0), (.v undef), flat [.c (.s 2 X2b X2o a_00.length X2c), .c (.v (.int .i64 a_01)), .c (.v (.int .i64 a_02)), .c (.v (.bool a_03)), .c (.v (.int .i64 a_04)), .c (.v (.int .i64 a_05))]⟩, ⟨2, X2b, X2ty, false, (0, 0), (.v undef), flat [.r X2pr, .i .u8 a_00, .r X2ps]⟩, ⟨0, X0b, X0ty, true, X0fr, (.v undef), flat [.c (.p 1 X1b 0), .c (.v (.int .i64 a_1))]⟩, ⟨3, X3b, X3ty, true, X3fr, (.v undef), flat [.r X3pr, .i .u8 c_, .r X3ps]⟩], 100, kz2⟩ : St)) (fun (z : Bool × Nat) => match z with | (t1, kz2) => (True) ∧ t1 = o3) ?_ ?_
  ·refine d_reg rfl ?_
   refine wpI_s rfl trivial ?_
   refine bind_e h fun t6 ho5 h => ?_
   refine d_call (ok_verity_is     (h := ho5)) rfl rfl haveRw_n haveRo_n (own_of rfl) ?_
   rintro _ _ _ kz7 ⟨rfl, rfl, rfl⟩
   refine ⟨_, rfl, trivial, ?_⟩
   refine d_b rfl trivial h fun t8 h => ?_
   refine wpI_s rfl trivial ?_
   refine d_guard rfl h (fun h => ?_) (fun h => ?_)
   ·refine wpI_s rfl trivial ?_
    refine d_guardT rfl ?_
    refine wpI_s rfl trivial ?_
    refine d_guardT rfl ?_
    refine d_b rfl trivial h fun t9 h => ?_
    refine d_pickF rfl rfl rfl ?_
    refine wpI_s rfl trivial ?_
    refine wpI_nil ?_
    refine jnK_n (t9, kz7) [1, 2, 0, 3] ⟨trivial, Option.some.inj h⟩ (leS2_c rfl rfl (leS2_c rfl rfl (leS2_c rfl rfl (leS2_c rfl rfl leS2_n)))) (leH2_c rfl rfl rfl rfl rfl rfl (leH2_c rfl rfl rfl rfl rfl rfl (leH2_c rfl rfl rfl rfl rfl rfl (leH2_c rfl rfl rfl rfl rfl rfl leH2_n)))) rfl rfl
   ·refine d_guardF rfl rfl ?_
    refine d_guardF rfl rfl ?_
    refine d_pickT rfl rfl rfl ?_
    refine wpI_s rfl trivial ?_
    refine wpI_nil ?_
    refine jnK_n (true, kz7) [1, 2, 0, 3] ⟨trivial, Option.some.inj h⟩ (leS2_c rfl rfl (leS2_c rfl rfl (leS2_c rfl rfl (leS2_c rfl rfl leS2_n)))) (leH2_c rfl rfl rfl rfl rfl rfl (leH2_c rfl rfl rfl rfl rfl rfl (leH2_c rfl rfl rfl rfl rfl rfl (leH2_c rfl rfl rfl rfl rfl rfl leH2_n)))) rfl rfl
  ·rintro ⟨t1, kz2⟩ ⟨_, rfl⟩
   show wpC _ _ _ _ _ (St.mk _ _ _ _)
   have h := hko3; clear hko3; try dsimp only at h
   refine d_cond rfl h (fun h => ?_) (fun h => ?_)
   ·refine wpC_seq ?_
    refine d_reg rfl ?_
    refine wpI_s rfl trivial ?_
    refine wpI_nil ?_
    refine seqK_n ?_
    refine wpC_ret ?_
    refine blockK_r ?_
    refine seqK_r ?_
    obtain rfl := Option.some.inj h
    exact d_ret2 [1, 2] [] ⟨rfl, rfl, rfl, rfl⟩ (rIs_t rfl rfl) (leH2_c rfl rfl rfl rfl rfl rfl (leH2_c rfl rfl rfl rfl rfl rfl leH2_n)) leH2_n rfl
   ·refine bind_e h fun o19 h hko19 => ?_
    refine d_join (fun (z : List Int × Int × Int × Bool × Int × Int × Bool × Nat) => (match z with | (l10, x12, x13, t14, x15, x16, t17, kz18) => ⟨[(16, bb t17)], [⟨1, X1b, X1ty, false, (0, 0), (.v undef), flat [.c (.s 2 X2b X2o a_00.length X2c), .c (.v (.int .i64 x12)), .c (.v (.int .i64 x13)), .c (.v (.bool t14)), .c (.v (.int .i64 x15)), .c (.v (.int .i64 x16))]⟩, ⟨2, X2b, X2ty, false, (0, 0), (.v undef), flat [.r X2pr, .i .u8 l10, .r X2ps]⟩], 100, kz18⟩ : St)) (fun (z : List Int × Int × Int × Bool × Int × Int × Bool × Nat) => match z with | (l10, x12, x13, t14, x15, x16, t17, kz18) => ((l10.length = a_00.length)) ∧ (l10, x12, x13, t14, x15, x16, t17) = o19) ?_ ?_
    ·refine d_reg rfl ?_
     refine wpI_s rfl trivial ?_
     refine wpI_s rfl trivial ?_
     refine wpI_s rfl trivial ?_
     refine d_ldc 0 rfl rfl rfl rfl trivial ?_
     refine bind_e h fun o20 ho21 h => ?_
     refine d_call (ok_flash_Flash_Dead (i0 := 1) (i1 := 2)  (X0b := X1b) (X0ty := X1ty) (X1b := X2b) (X1ty := X2ty) (X1pr := X2pr) (X1ps := X2ps) (X1o := X2o) (X1c := X2c) (X1n := a_00.length) (X1l := rfl) (X1S := X2S) (X1C := X2C) (h := ho21)) rfl rfl haveRw_n (haveRo_c rfl rfl (haveRo_c rfl rfl haveRo_n)) (own_of rfl) ?_
     rintro _ _ _ kz22 ⟨rfl, rfl, rfl⟩
     refine ⟨_, rfl, trivial, ?_⟩
     refine wpI_s rfl trivial ?_
     refine d_guard rfl h (fun h => ?_) (fun h => ?_)
     ·refine wpI_s rfl trivial ?_
      refine d_guardT rfl ?_
      refine wpI_s rfl trivial ?_
      refine d_guardT rfl ?_
      refine wpI_s rfl trivial ?_
      refine d_guardT rfl ?_
      refine d_ldc 0 rfl rfl rfl rfl trivial ?_
      refine d_guardT rfl ?_
      refine wpI_s rfl trivial ?_
      refine d_guardT rfl ?_
      refine wpI_s rfl trivial ?_
      refine d_guardT rfl ?_
      refine wpI_s rfl trivial ?_
      refine d_guardT rfl ?_
      refine d_ldc 1 rfl rfl rfl rfl rfl ?_
      refine d_guardT rfl ?_
      refine wpI_s rfl trivial ?_
      refine d_guardT rfl ?_
      refine d_n rfl trivial h fun x23 h => ?_
      refine d_guardT rfl ?_
      refine bind_e h fun o24 ho25 h => ?_
      obtain ⟨l26, x27, x28, t29, x30, t31⟩ := o24
      try dsimp only at h
      refine d_call (ok_flash_Flash_Erase (i0 := 1) (i1 := 2)  (X0b := X1b) (X0ty := X1ty) (X1b := X2b) (X1ty := X2ty) (X1pr := X2pr) (X1ps := X2ps) (X1o := X2o) (X1c := X2c) (X1n := a_00.length) (X1l := rfl) (X1S := X2S) (X1C := X2C) (h := ho25)) rfl rfl (haveRw_c rfl (haveRw_c rfl haveRw_n)) haveRo_n (own_of rfl) ?_
      rintro _ _ _ kz33 ⟨rfl, rfl, rfl, h32⟩
      refine ⟨_, rfl, trivial, ?_⟩
      refine gd_e h fun g34 h => ?_
      refine d_guardT rfl ?_
      refine d_b rfl trivial h fun t35 h => ?_
      refine d_pickF rfl rfl rfl ?_
      refine wpI_s rfl trivial ?_
      refine d_guard rfl h (fun h => ?_) (fun h => ?_)
      ·refine wpI_s rfl trivial ?_
       refine d_guardT rfl ?_
       refine wpI_s rfl trivial ?_
       refine d_guardT rfl ?_
       refine wpI_s rfl trivial ?_
       refine d_guardT rfl ?_
       refine d_ldc 0 rfl rfl rfl rfl trivial ?_
       refine d_guardT rfl ?_
       refine wpI_s rfl trivial ?_
       refine d_guardT rfl ?_
       refine wpI_s rfl trivial ?_
       refine d_guardT rfl ?_
       refine wpI_s rfl trivial ?_
       refine d_guardT rfl ?_
       refine d_ldc 1 rfl rfl rfl rfl rfl ?_
       refine d_guardT rfl ?_
       refine wpI_s rfl trivial ?_
       refine d_guardT rfl ?_
       refine d_n rfl trivial h fun x36 h => ?_
       refine d_guardT rfl ?_
       refine d_n rfl trivial h fun x37 h => ?_
       refine d_guardT rfl ?_
       refine wpI_s rfl trivial ?_
       refine d_guardT rfl ?_
       refine bind_e h fun o38 ho39 h => ?_
       obtain ⟨l40, x41, x42, t43, x44, t45⟩ := o38
       try dsimp only at h
       refine d_call (ok_flash_Flash_Program (i0 := 1) (i1 := 2) (i2 := 3)  (X0b := X1b) (X0ty := X1ty) (X1b := X2b) (X1ty := X2ty) (X1pr := X2pr) (X1ps := X2ps) (X1o := X2o) (X1c := X2c) (X1n := a_00.length) (X2b := X3b) (X2ty := X3ty) (X2pr := X3pr) (X2ps := X3ps) (X2o := X3o) (X2c := X3c) (X2n := c_.length) (X1l := (g34).symm) (X1S := X2S) (X1C := X2C) (X2l := rfl) (X2S := X3S) (X2C := X3C) (h := ho39)) rfl rfl (haveRw_c rfl (haveRw_c rfl haveRw_n)) (haveRo_c rfl rfl haveRo_n) (own_of rfl) ?_
       rintro _ _ _ kz47 ⟨rfl, rfl, rfl, h46⟩
       refine ⟨_, rfl, trivial, ?_⟩
       refine gd_e h fun g48 h => ?_
       refine d_guardT rfl ?_
       refine d_b rfl trivial h fun t49 h => ?_
       refine d_pickF rfl rfl rfl ?_
       refine wpI_s rfl trivial ?_
       refine wpI_nil ?_
       refine jnK_n (l40, x41, x42, t43, x30, x44, t49, kz47) [1, 2] ⟨g48, Option.some.inj h⟩ (leS2_c rfl rfl leS2_n) (leH2_c rfl rfl rfl rfl rfl rfl (leH2_c rfl rfl rfl rfl rfl rfl leH2_n)) rfl rfl
      ·refine d_guardF rfl rfl ?_
       refine d_guardF rfl rfl ?_
       refine d_guardF rfl rfl ?_
       refine d_guardF rfl rfl ?_
       refine d_guardF rfl rfl ?_
       refine d_guardF rfl rfl ?_
       refine d_guardF rfl rfl ?_
       refine d_guardF rfl rfl ?_
       refine d_guardF rfl rfl ?_
       refine d_guardF rfl rfl ?_
       refine d_guardF rfl rfl ?_
       refine d_guardF rfl rfl ?_
       refine d_guardF rfl rfl ?_
       refine d_pickT rfl rfl rfl ?_
       refine wpI_s rfl trivial ?_
       refine wpI_nil ?_
       refine jnK_n (l26, x27, x28, t29, x30, a_05, true, kz33) [1, 2] ⟨g34, Option.some.inj h⟩ (leS2_c rfl rfl leS2_n) (leH2_c rfl rfl rfl rfl rfl rfl (leH2_c rfl rfl rfl rfl rfl rfl leH2_n)) rfl rfl
     ·refine d_guardF rfl rfl ?_
      refine d_guardF rfl rfl ?_
      refine d_guardF rfl rfl ?_
      refine d_guardF rfl rfl ?_
      refine d_guardF rfl rfl ?_
      refine d_guardF rfl rfl ?_
      refine d_guardF rfl rfl ?_
      refine d_guardF rfl rfl ?_
      refine d_guardF rfl rfl ?_
      refine d_guardF rfl rfl ?_
      refine d_guardF rfl rfl ?_
      refine d_pickT rfl rfl rfl ?_
      refine wpI_s rfl trivial ?_
      refine d_guardF rfl rfl ?_
      refine d_guardF rfl rfl ?_
      refine d_guardF rfl rfl ?_
      refine d_guardF rfl rfl ?_
      refine d_guardF rfl rfl ?_
      refine d_guardF rfl rfl ?_
      refine d_guardF rfl rfl ?_
      refine d_guardF rfl rfl ?_
      refine d_guardF rfl rfl ?_
      refine d_guardF rfl rfl ?_
      refine d_guardF rfl rfl ?_
      refine d_guardF rfl rfl ?_
      refine d_guardF rfl rfl ?_
      refine d_guardF rfl rfl ?_
      refine d_pickT rfl rfl rfl ?_
      refine wpI_s rfl trivial ?_
      refine wpI_nil ?_
      refine jnK_n (a_00, a_01, a_02, a_03, a_04, a_05, true, kz22) [1, 2] ⟨rfl, Option.some.inj h⟩ (leS2_c rfl rfl leS2_n) (leH2_c rfl rfl rfl rfl rfl rfl (leH2_c rfl rfl rfl rfl rfl rfl leH2_n)) rfl rfl
    ·rintro ⟨l10, x12, x13, t14, x15, x16, t17, kz18⟩ ⟨h11, rfl⟩
     show wpC _ _ _ _ _ (St.mk _ _ _ _)
     have h := hko19; clear hko19; try dsimp only at h
     refine d_cond rfl h (fun h => ?_) (fun h => ?_)
     ·refine wpC_seq ?_
      refine d_reg rfl ?_
      refine wpI_s rfl trivial ?_
      refine wpI_nil ?_
      refine seqK_n ?_
      refine wpC_ret ?_
      refine blockK_r ?_
      refine seqK_r ?_
      obtain rfl := Option.some.inj h
      exact d_ret2 [1, 2] [] ⟨rfl, rfl, rfl, h11⟩ (rIs_t rfl rfl) (leH2_c rfl rfl rfl rfl rfl rfl (leH2_c rfl rfl rfl rfl rfl rfl leH2_n)) leH2_n rfl
     ·refine wpC_skip ?_
      refine blockK_n ?_
      refine seqK_n ?_
      refine wpC_seq ?_
      refine d_reg rfl ?_
      refine wpI_s rfl trivial ?_
      refine wpI_nil ?_
      refine seqK_n ?_
      refine wpC_ret ?_
      obtain rfl := Option.some.inj h
      exact d_ret2 [1, 2] [] ⟨rfl, rfl, rfl, h11⟩ (rIs_t rfl rfl) (leH2_c rfl rfl rfl rfl rfl rfl (leH2_c rfl rfl rfl rfl rfl rfl leH2_n)) leH2_n rfl
 exact key.cong rfl (blkEq_c rfl rfl rfl rfl (blkEq_c rfl rfl rfl rfl blkEq_n)) (blkEq_c rfl rfl rfl rfl (blkEq_c rfl rfl rfl rfl blkEq_n))

def ir_portcullislaw25_num_2 : IFn := ⟨4, (.seq (.reg [] (.cons ⟨none, (.s 2 (.mv (.k (.int .i64 0))))⟩ .nil)) (.seq (.reg [] (.cons ⟨none, (.s 3 (.mv (.t 0)))⟩ (.cons ⟨none, (.s 2 (.mv (.t 3)))⟩ .nil))) .ret)), [(.tmp 2)]⟩
theorem low_portcullislaw25_num_2 : lowF Try.prog Try.f8 = some ir_portcullislaw25_num_2.strip := by kernel_rfl
theorem ok_portcullislaw25_num_2 {fu : Nat} {e_ : Int} {r : Unit} (h : fn_portcullislaw25_num_2 fu e_ = some r) :
  EV.Fn Try.prog 8 [ib .i64 e_] [] [] (fun v u nw => v = ib .i64 e_ ∧ u = [] ∧ nw = []) := by
 have key : EV.Fn Try.prog 8 [ib .i64 e_] [] [] (fun v u nw => v = ib .i64 e_ ∧ u = [] ∧ nw = []) := by
  unfold fn_portcullislaw25_num_2 at h
  refine d_fn (i := ir_portcullislaw25_num_2) (fn := Try.f8) (sl0 := [(0, ib .i64 e_)]) (hp0 := []) (by kernel_rfl) low_portcullislaw25_num_2 mo rfl rfl rfl fun F z0 => ?_
  dsimp only [ir_portcullislaw25_num_2]
  refine wpC_seq ?_
  refine d_reg rfl ?_
  refine wpI_s rfl trivial ?_
  refine wpI_nil ?_
  refine seqK_n ?_
  refine wpC_seq ?_
  refine d_reg rfl ?_
  refine wpI_s rfl trivial ?_
  refine wpI_s rfl trivial ?_
  refine wpI_nil ?_
  refine seqK_n ?_
  refine wpC_ret ?_
  clear h
  exact d_ret2 [] [] ⟨rfl, rfl, rfl⟩ (rIs_t rfl rfl) leH2_n leH2_n rfl
 exact key.cong rfl blkEq_n blkEq_n

def ir_portcullislaw25_alive : IFn := ⟨66, (.seq (.reg [] (.cons ⟨none, (.s 0 (.mv (.k (.bool false))))⟩ .nil)) (.seq (.reg [] (.cons ⟨none, (.call (some 9) 6 [(.k (.int .i64 128))])⟩ (.cons ⟨none, (.s 1 (.mv (.t 9)))⟩ .nil))) (.seq (.reg [] (.cons ⟨none, (.s 11 (.mv (.t 1)))⟩ (.cons ⟨none, (.call (some 12) 7 [(.t 11), (.k (.int .i64 0))])⟩ (.cons ⟨none, (.s 10 (.mv (.t 12)))⟩ (.cons ⟨none, (.s 13 (.ext (.t 10) 0))⟩ (.cons ⟨none, (.s 14 (.ext (.t 10) 1))⟩ (.cons ⟨none, (.s 2 (.mv (.t 13)))⟩ (.cons ⟨none, (.s 3 (.mv (.t 14)))⟩ .nil)))))))) (.seq (.seq (.reg [] (.cons ⟨none, (.s 15 (.mv (.t 3)))⟩ (.cons ⟨none, (.call (some 16) 8 [(.t 15)])⟩ (.cons ⟨none, (.s 17 (.bin .neq (.t 16) (.k (.int .i64 0))))⟩ (.cons ⟨none, (.s 18 (.mv (.t 17)))⟩ (.cons ⟨(some (18, false)), (.s 19 (.mv (.t 2)))⟩ (.cons ⟨(some (18, false)), (.s 20 (.eqn false (.t 19)))⟩ (.cons ⟨none, (.s 21 (.pick (.t 18) (.k (.bool true)) (.t 20)))⟩ .nil)))))))) (.cond (.t 21) (.seq (.reg [] (.cons ⟨none, (.s 0 (.mv (.k (.bool false))))⟩ .nil)) .ret) .skip)) (.seq (.reg [] (.cons ⟨none, (.s 23 (.mv (.t 2)))⟩ (.cons ⟨none, (.call (some 24) 12 [(.t 23), (.k (.int .i64 0))])⟩ (.cons ⟨none, (.s 22 (.mv (.t 24)))⟩ (.cons ⟨none, (.s 25 (.ext (.t 22) 0))⟩ (.cons ⟨none, (.s 26 (.ext (.t 22) 1))⟩ (.cons ⟨none, (.s 4 (.mv (.t 25)))⟩ (.cons ⟨none, (.s 5 (.mv (.t 26)))⟩ .nil)))))))) (.seq (.reg [] (.cons ⟨none, (.s 27 (.mv (.t 2)))⟩ (.cons ⟨none, (.w (some 28) (.mks 5 1 (.int .u8 0) (.k (.int .i64 80)) (.k (.int .i64 80))))⟩ (.cons ⟨none, (.call (some 29) 9 [(.t 27), (.k (.int .i64 0)), (.t 28)])⟩ (.cons ⟨none, (.s 6 (.mv (.t 29)))⟩ .nil))))) (.seq (.reg [] (.cons ⟨none, (.s 31 (.mv (.t 2)))⟩ (.cons ⟨none, (.call (some 32) 12 [(.t 31), (.k (.int .i64 0))])⟩ (.cons ⟨none, (.s 30 (.mv (.t 32)))⟩ (.cons ⟨none, (.s 33 (.ext (.t 30) 0))⟩ (.cons ⟨none, (.s 34 (.ext (.t 30) 1))⟩ (.cons ⟨none, (.s 7 (.mv (.t 33)))⟩ (.cons ⟨none, (.s 8 (.mv (.t 34)))⟩ .nil)))))))) (.seqJ (.reg [] (.cons ⟨none, (.s 35 (.mv (.t 5)))⟩ (.cons ⟨none, (.s 36 (.mv (.t 35)))⟩ (.cons ⟨(some (36, true)), (.s 37 (.mv (.t 8)))⟩ (.cons ⟨none, (.s 38 (.pick (.t 36) (.t 37) (.k (.bool false))))⟩ (.cons ⟨none, (.s 39 (.mv (.t 38)))⟩ (.cons ⟨(some (39, true)), (.s 40 (.mv (.t 4)))⟩ (.cons ⟨(some (39, true)), (.s 41 (.len (.t 40)))⟩ (.cons ⟨(some (39, true)), (.s 42 (.bin .eql (.t 41) (.k (.int .i64 80))))⟩ (.cons ⟨none, (.s 43 (.pick (.t 39) (.t 42) (.k (.bool false))))⟩ (.cons ⟨none, (.s 44 (.mv (.t 43)))⟩ (.cons ⟨(some (44, true)), (.s 45 (.mv (.t 4)))⟩ (.cons ⟨(some (44, true)), (.s 46 (.is 1 (.t 45) (.k (.int .i64 0))))⟩ (.cons ⟨(some (44, true)), (.r 47 (.ld (.int .u8 0) (.t 46)))⟩ (.cons ⟨(some (44, true)), (.s 48 (.bin .eql (.t 47) (.k (.int .u8 255))))⟩ (.cons ⟨none, (.s 49 (.pick (.t 44) (.t 48) (.k (.bool false))))⟩ (.cons ⟨none, (.s 50 (.mv (.t 49)))⟩ (.cons ⟨(some (50, true)), (.s 51 (.mv (.t 6)))⟩ (.cons ⟨(some (50, true)), (.call (some 52) 8 [(.t 51)])⟩ (.cons ⟨(some (50, true)), (.s 53 (.bin .eql (.t 52) (.k (.int .i64 0))))⟩ (.cons ⟨none, (.s 54 (.pick (.t 50) (.t 53) (.k (.bool false))))⟩ (.cons ⟨none, (.s 55 (.mv (.t 54)))⟩ (.cons ⟨(some (55, true)), (.s 56 (.mv (.t 7)))⟩ (.cons ⟨(some (55, true)), (.s 57 (.len (.t 56)))⟩ (.cons ⟨(some (55, true)), (.s 58 (.bin .eql (.t 57) (.k (.int .i64 80))))⟩ (.cons ⟨none, (.s 59 (.pick (.t 55) (.t 58) (.k (.bool false))))⟩ (.cons ⟨none, (.s 60 (.mv (.t 59)))⟩ (.cons ⟨(some (60, true)), (.s 61 (.mv (.t 7)))⟩ (.cons ⟨(some (60, true)), (.s 62 (.is 1 (.t 61) (.k (.int .i64 0))))⟩ (.cons ⟨(some (60, true)), (.r 63 (.ld (.int .u8 0) (.t 62)))⟩ (.cons ⟨(some (60, true)), (.s 64 (.bin .eql (.t 63) (.k (.int .u8 0))))⟩ (.cons ⟨none, (.s 65 (.pick (.t 60) (.t 64) (.k (.bool false))))⟩ (.cons ⟨none, (.s 0 (.mv (.t 65)))⟩ .nil))))))))))))))))))))))))))))))))) .ret)))))))), [(.tmp 0)]⟩
theorem low_portcullislaw25_alive : lowF Try.prog Try.f4 = some ir_portcullislaw25_alive.strip := by kernel_rfl
theorem ok_portcullislaw25_alive {fu : Nat} {t9001 : Bool} (h : fn_portcullislaw25_alive fu = some t9001) :
  EV.Fn Try.prog 4 [] [] [] (fun v u nw => v = bb t9001 ∧ u = [] ∧ nw = []) := by
 have key : EV.Fn Try.prog 4 [] [] [] (fun v u nw => v = bb t9001 ∧ u = [] ∧ nw = []) := by
  unfold fn_portcullislaw25_alive at h
  refine d_fn (i := ir_portcullislaw25_alive) (fn := Try.f4) (sl0 := []) (hp0 := []) (by kernel_rfl) low_portcullislaw25_alive mo rfl rfl rfl fun F z0 => ?_
  dsimp only [ir_portcullislaw25_alive]
  refine wpC_seq ?_
  refine d_reg rfl ?_
  refine wpI_s rfl trivial ?_
  refine wpI_nil ?_
  refine seqK_n ?_
  refine wpC_seq ?_
  refine d_reg rfl ?_
  refine bind_e h fun o1 ho2 h => ?_
  rcases o1 with _ | l3
  ·cases h
  ·try dsimp only at h
   refine d_call (ok_flash_New  (n0 := 1001) (n1 := 1002)   (h := ho2)) rfl rfl haveRw_n haveRo_n (own_of rfl) ?_
   rintro _ _ _ kz11 ⟨k4, k5, k6, k7, k8, rfl, rfl, rfl, h9, h10⟩
   refine ⟨_, rfl, trivial, ?_⟩
   refine wpI_s rfl trivial ?_
   refine wpI_nil ?_
   refine seqK_n ?_
   refine wpC_seq ?_
   refine d_reg rfl ?_
   refine wpI_s rfl trivial ?_
   refine bind_e h fun o12 ho13 h => ?_
   rcases o12 with _ | x14
   ·cases h
   ·try dsimp only at h
    refine d_call (ok_verity_New (i0 := 1001) (i1 := 1002) (n0 := 1003) (X0b := k4) (X0ty := 51) (X1b := k5) (X1ty := 5) (X1pr := []) (X1ps := k6) (X1o := k7) (X1c := k8) (X1n := l3.length) (X1l := rfl) (X1S := h9) (X1C := h10) (h := ho13)) rfl rfl haveRw_n (haveRo_c rfl rfl (haveRo_c rfl rfl haveRo_n)) (own_of rfl) ?_
    rintro _ _ _ kz16 ⟨k15, rfl, rfl, rfl⟩
    refine ⟨_, rfl, trivial, ?_⟩
    refine wpI_s rfl trivial ?_
    refine wpI_s rfl trivial ?_
    refine wpI_s rfl trivial ?_
    refine wpI_s rfl trivial ?_
    refine wpI_s rfl trivial ?_
    refine wpI_nil ?_
    refine seqK_n ?_
    refine wpC_seq ?_
    refine wpC_seq ?_
    refine d_reg rfl ?_
    refine wpI_s rfl trivial ?_
    refine bind_e h fun o17 ho18 h => ?_
    refine d_call (ok_portcullislaw25_num     (h := ho18)) rfl rfl haveRw_n haveRo_n (own_of rfl) ?_
    rintro _ _ _ kz19 ⟨rfl, rfl, rfl⟩
    refine ⟨_, rfl, trivial, ?_⟩
    refine d_bf (w := false) rfl trivial (by decide) ?_
    refine wpI_s rfl trivial ?_
    refine d_guardT rfl ?_
    refine wpI_s rfl trivial ?_
    refine d_guardT rfl ?_
    refine wpI_s rfl trivial ?_
    refine d_pickF rfl rfl rfl ?_
    refine wpI_nil ?_
    refine seqK_n ?_
    refine wpC_condF rfl ?_
    refine wpC_skip ?_
    refine seqK_n ?_
    refine wpC_seq ?_
    refine d_reg rfl ?_
    refine wpI_s rfl trivial ?_
    refine bind_e h fun o20 ho21 h => ?_
    rcases o20 with _ | l22
    ·cases h
    ·try dsimp only at h
     refine d_call (ok_verity_Area_Raw (i0 := 1003) (i1 := 1001) (i2 := 1002) (n0 := 1004) (X0b := k15) (X0ty := 54) (X1b := k4) (X1ty := 51) (X2b := k5) (X2ty := 5) (X2pr := []) (X2ps := k6) (X2o := k7) (X2c := k8) (X2n := l3.length) (X2l := rfl) (X2S := h9) (X2C := h10) (h := ho21)) rfl rfl haveRw_n (haveRo_c rfl rfl (haveRo_c rfl rfl (haveRo_c rfl rfl haveRo_n))) (own_of rfl) ?_
     rintro _ _ _ kz32 ⟨k23, k24, k25, k26, k27, k28, rfl, rfl, rfl, h29, h30, h31⟩
     refine ⟨_, rfl, trivial, ?_⟩
     refine wpI_s rfl trivial ?_
     refine wpI_s rfl trivial ?_
     refine wpI_s rfl trivial ?_
     refine wpI_s rfl trivial ?_
     refine wpI_s rfl trivial ?_
     refine wpI_nil ?_
     refine seqK_n ?_
     refine wpC_seq ?_
     refine d_reg rfl ?_
     refine wpI_s rfl trivial ?_
     refine d_mksw rfl rfl (by decide) (fun _ => trivial) fun kb33 kz34 => ?_
     refine bind_e h fun o35 ho36 h => ?_
     obtain ⟨l37, x38, x39, t40, x41, x42, x43⟩ := o35
     try dsimp only at h
     refine d_call (ok_verity_Area_Write (i0 := 1003) (i1 := 1001) (i2 := 1002) (i3 := 100)  (X0b := k15) (X0ty := 54) (X1b := k4) (X1ty := 51) (X2b := k5) (X2ty := 5) (X2pr := []) (X2ps := k6) (X2o := k7) (X2c := k8) (X2n := l3.length) (X3b := kb33) (X3ty := 5) (X3pr := []) (X3ps := []) (X3o := 0) (X3c := 80) (X3n := 80) (X2l := rfl) (X2S := h9) (X2C := h10) (X3l := (List.length_replicate).symm) (X3S := (fun _ => rfl)) (X3C := (Nat.le_refl _)) (h := ho36)) rfl rfl (haveRw_c rfl (haveRw_c rfl haveRw_n)) (haveRo_c rfl rfl (haveRo_c rfl rfl haveRo_n)) (own_of rfl) ?_
     rintro _ _ _ kz45 ⟨rfl, rfl, rfl, h44⟩
     refine ⟨_, rfl, trivial, ?_⟩
     refine gd_e h fun g46 h => ?_
     refine wpI_s rfl trivial ?_
     refine wpI_nil ?_
     refine seqK_n ?_
     refine wpC_seq ?_
     refine d_reg rfl ?_
     refine wpI_s rfl trivial ?_
     refine bind_e h fun o47 ho48 h => ?_
     rcases o47 with _ | l49
     ·cases h
     ·try dsimp only at h
      refine d_call (ok_verity_Area_Raw (i0 := 1003) (i1 := 1001) (i2 := 1002) (n0 := 1005) (X0b := k15) (X0ty := 54) (X1b := k4) (X1ty := 51) (X2b := k5) (X2ty := 5) (X2pr := []) (X2ps := k6) (X2o := k7) (X2c := k8) (X2n := l3.length) (X2l := (g46).symm) (X2S := h9) (X2C := h10) (h := ho48)) rfl rfl haveRw_n (haveRo_c rfl rfl (haveRo_c rfl rfl (haveRo_c rfl rfl haveRo_n))) (own_of rfl) ?_
      rintro _ _ _ kz59 ⟨k50, k51, k52, k53, k54, k55, rfl, rfl, rfl, h56, h57, h58⟩
      refine ⟨_, rfl, trivial, ?_⟩
      refine wpI_s rfl trivial ?_
      refine wpI_s rfl trivial ?_
      refine wpI_s rfl trivial ?_
      refine wpI_s rfl trivial ?_
      refine wpI_s rfl trivial ?_
      refine wpI_nil ?_
      refine seqK_n ?_
      refine bind_e h fun o62 h hko62 => ?_
      refine d_join (fun (z : Bool × Nat) => (match z with | (t60, kz61) => ⟨[(0, bb t60)], [], 101, kz61⟩ : St)) (fun (z : Bool × Nat) => match z with | (t60, kz61) => (True) ∧ t60 = o62) ?_ ?_
      ·refine d_reg rfl ?_
       refine wpI_s rfl trivial ?_
       refine wpI_s rfl trivial ?_
       refine d_guardT rfl ?_
       refine wpI_s rfl trivial ?_
       refine d_pickT rfl rfl rfl ?_
       refine wpI_s rfl trivial ?_
       refine d_guardT rfl ?_
       refine wpI_s rfl trivial ?_
       refine d_guardT rfl ?_
       refine wpI_s rfl trivial ?_
       refine d_guardT rfl ?_
       refine d_b rfl trivial h fun t63 h => ?_
       refine d_pickT rfl rfl rfl ?_
       refine wpI_s rfl trivial ?_
       refine d_guard rfl h (fun h => ?_) (fun h => ?_)
       ·refine wpI_s rfl trivial ?_
        refine d_guardT rfl ?_
        refine gd_e h fun g64 h => ?_
        refine wpI_s rfl g64 ?_
        refine d_guardT rfl ?_
        refine d_ld 1 (q := 0) rfl rfl rfl h (sl_offP0 (i := 0) rfl (fun _ => h29) g64) fun x65 h => ?_
        refine d_guardT rfl ?_
        refine d_b rfl trivial h fun t66 h => ?_
        refine d_pickT rfl rfl rfl ?_
        refine wpI_s rfl trivial ?_
        refine d_guard rfl h (fun h => ?_) (fun h => ?_)
        ·refine wpI_s rfl trivial ?_
         refine d_guardT rfl ?_
         refine bind_e h fun o67 ho68 h => ?_
         refine d_call (ok_portcullislaw25_num_2     (h := ho68)) rfl rfl haveRw_n haveRo_n (own_of rfl) ?_
         rintro _ _ _ kz69 ⟨rfl, rfl, rfl⟩
         refine ⟨_, rfl, trivial, ?_⟩
         refine d_guardT rfl ?_
         refine d_b rfl trivial h fun t70 h => ?_
         refine d_pickT rfl rfl rfl ?_
         refine wpI_s rfl trivial ?_
         refine d_guard rfl h (fun h => ?_) (fun h => ?_)
         ·refine wpI_s rfl trivial ?_
          refine d_guardT rfl ?_
          refine wpI_s rfl trivial ?_
          refine d_guardT rfl ?_
          refine d_b rfl trivial h fun t71 h => ?_
          refine d_pickT rfl rfl rfl ?_
          refine wpI_s rfl trivial ?_
          refine d_guard rfl h (fun h => ?_) (fun h => ?_)
          ·refine wpI_s rfl trivial ?_
           refine d_guardT rfl ?_
           refine gd_e h fun g72 h => ?_
           refine wpI_s rfl g72 ?_
           refine d_guardT rfl ?_
           refine d_ld 1 (q := 0) rfl rfl rfl h (sl_offP0 (i := 0) rfl (fun _ => h56) g72) fun x73 h => ?_
           refine d_guardT rfl ?_
           refine d_b rfl trivial h fun t74 h => ?_
           refine d_pickT rfl rfl rfl ?_
           refine wpI_s rfl trivial ?_
           refine wpI_nil ?_
           refine jnK_n (t74, kz69) [] ⟨trivial, Option.some.inj h⟩ (leS2_c rfl rfl leS2_n) leH2_n rfl rfl
          ·refine d_guardF rfl rfl ?_
           refine d_guardF rfl rfl ?_
           refine d_guardF rfl rfl ?_
           refine d_pickF rfl rfl rfl ?_
           refine wpI_s rfl trivial ?_
           refine wpI_nil ?_
           refine jnK_n (false, kz69) [] ⟨trivial, Option.some.inj h⟩ (leS2_c rfl rfl leS2_n) leH2_n rfl rfl
         ·refine d_guardF rfl rfl ?_
          refine d_guardF rfl rfl ?_
          refine d_pickF rfl rfl rfl ?_
          refine wpI_s rfl trivial ?_
          refine d_guardF rfl rfl ?_
          refine d_guardF rfl rfl ?_
          refine d_guardF rfl rfl ?_
          refine d_guardF rfl rfl ?_
          refine d_pickF rfl rfl rfl ?_
          refine wpI_s rfl trivial ?_
          refine wpI_nil ?_
          refine jnK_n (false, kz69) [] ⟨trivial, Option.some.inj h⟩ (leS2_c rfl rfl leS2_n) leH2_n rfl rfl
        ·refine d_guardF rfl rfl ?_
         refine d_guardF rfl rfl ?_
         refine d_pickF rfl rfl rfl ?_
         refine wpI_s rfl trivial ?_
         refine d_guardF rfl rfl ?_
         refine d_guardF rfl rfl ?_
         refine d_guardF rfl rfl ?_
         refine d_pickF rfl rfl rfl ?_
         refine wpI_s rfl trivial ?_
         refine d_guardF rfl rfl ?_
         refine d_guardF rfl rfl ?_
         refine d_guardF rfl rfl ?_
         refine d_guardF rfl rfl ?_
         refine d_pickF rfl rfl rfl ?_
         refine wpI_s rfl trivial ?_
         refine wpI_nil ?_
         refine jnK_n (false, kz59) [] ⟨trivial, Option.some.inj h⟩ (leS2_c rfl rfl leS2_n) leH2_n rfl rfl
       ·refine d_guardF rfl rfl ?_
        refine d_guardF rfl rfl ?_
        refine d_guardF rfl rfl ?_
        refine d_pickF rfl rfl rfl ?_
        refine wpI_s rfl trivial ?_
        refine d_guardF rfl rfl ?_
        refine d_guardF rfl rfl ?_
        refine d_guardF rfl rfl ?_
        refine d_pickF rfl rfl rfl ?_
        refine wpI_s rfl trivial ?_
        refine d_guardF rfl rfl ?_
        refine d_guardF rfl rfl ?_
        refine d_guardF rfl rfl ?_
        refine d_pickF rfl rfl rfl ?_
        refine wpI_s rfl trivial ?_
        refine d_guardF rfl rfl ?_
        refine d_guardF rfl rfl ?_
        refine d_guardF rfl rfl ?_
        refine d_guardF rfl rfl ?_
        refine d_pickF rfl rfl rfl ?_
        refine wpI_s rfl trivial ?_
        refine wpI_nil ?_
        refine jnK_n (false, kz59) [] ⟨trivial, Option.some.inj h⟩ (leS2_c rfl rfl leS2_n) leH2_n rfl rfl
      ·rintro ⟨t60, kz61⟩ ⟨_, rfl⟩
       show wpC _ _ _ _ _ (St.mk _ _ _ _)
       have h := hko62; clear hko62; try dsimp only at h
       refine wpC_ret ?_
       obtain rfl := Option.some.inj h
       exact d_ret2 [] [] ⟨rfl, rfl, rfl⟩ (rIs_t rfl rfl) leH2_n leH2_n rfl
 exact key.cong rfl blkEq_n blkEq_n

def ir_portcullisref16_small : IFn := ⟨9, (.seq (.reg [] (.cons ⟨none, (.s 2 (.mv (.k (.bool false))))⟩ .nil)) (.seqJ (.reg [] (.cons ⟨none, (.s 3 (.mv (.t 0)))⟩ (.cons ⟨none, (.s 4 (.bin .geq (.t 3) (.k (.int .i64 0))))⟩ (.cons ⟨none, (.s 5 (.mv (.t 4)))⟩ (.cons ⟨(some (5, true)), (.s 6 (.mv (.t 0)))⟩ (.cons ⟨(some (5, true)), (.s 7 (.bin .leq (.t 6) (.k (.int .i64 2147483647))))⟩ (.cons ⟨none, (.s 8 (.pick (.t 5) (.t 7) (.k (.bool false))))⟩ (.cons ⟨none, (.s 2 (.mv (.t 8)))⟩ .nil)))))))) .ret)), [(.tmp 2)]⟩
theorem low_portcullisref16_small : lowF Try.prog Try.f14 = some ir_portcullisref16_small.strip := by kernel_rfl
theorem ok_portcullisref16_small {fu : Nat} {n_ : Int} {t9001 : Bool} (h : fn_portcullisref16_small fu n_ = some t9001) :
  EV.Fn Try.prog 14 [ib .i64 n_] [] [] (fun v u nw => v = bb t9001 ∧ u = [] ∧ nw = []) := by
 have key : EV.Fn Try.prog 14 [ib .i64 n_] [] [] (fun v u nw => v = bb t9001 ∧ u = [] ∧ nw = []) := by
  unfold fn_portcullisref16_small at h
  refine d_fn (i := ir_portcullisref16_small) (fn := Try.f14) (sl0 := [(0, ib .i64 n_)]) (hp0 := []) (by kernel_rfl) low_portcullisref16_small mo rfl rfl rfl fun F z0 => ?_
  dsimp only [ir_portcullisref16_small]
  refine wpC_seq ?_
  refine d_reg rfl ?_
  refine wpI_s rfl trivial ?_
  refine wpI_nil ?_
  refine seqK_n ?_
  refine bind_e h fun o3 h hko3 => ?_
  refine d_join (fun (z : Bool × Nat) => (match z with | (t1, kz2) => ⟨[(2, bb t1)], [], 100, kz2⟩ : St)) (fun (z : Bool × Nat) => match z with | (t1, kz2) => (True) ∧ t1 = o3) ?_ ?_
  ·refine d_reg rfl ?_
   refine wpI_s rfl trivial ?_
   refine d_b rfl trivial h fun t4 h => ?_
   refine wpI_s rfl trivial ?_
   refine d_guard rfl h (fun h => ?_) (fun h => ?_)
   ·refine wpI_s rfl trivial ?_
    refine d_guardT rfl ?_
    refine d_b rfl trivial h fun t5 h => ?_
    refine d_pickT rfl rfl rfl ?_
    refine wpI_s rfl trivial ?_
    refine wpI_nil ?_
    refine jnK_n (t5, z0) [] ⟨trivial, Option.some.inj h⟩ (leS2_c rfl rfl leS2_n) leH2_n rfl rfl
   ·refine d_guardF rfl rfl ?_
    refine d_pickF rfl rfl rfl ?_
    refine wpI_s rfl trivial ?_
    refine wpI_nil ?_
    refine jnK_n (false, z0) [] ⟨trivial, Option.some.inj h⟩ (leS2_c rfl rfl leS2_n) leH2_n rfl rfl
  ·rintro ⟨t1, kz2⟩ ⟨_, rfl⟩
   show wpC _ _ _ _ _ (St.mk _ _ _ _)
   have h := hko3; clear hko3; try dsimp only at h
   refine wpC_ret ?_
   obtain rfl := Option.some.inj h
   exact d_ret2 [] [] ⟨rfl, rfl, rfl⟩ (rIs_t rfl rfl) leH2_n leH2_n rfl
 exact key.cong rfl blkEq_n blkEq_n

def ir_portcullisref1_Int : IFn := ⟨37, (.seq (.reg [] (.cons ⟨none, (.s 4 (.mv (.k (.slice none 0 0))))⟩ .nil)) (.seq (.reg [] (.cons ⟨none, (.s 10 (.mv (.t 0)))⟩ (.cons ⟨none, (.app (some 11) 5 1 (.int .u8 0) (.k (.slice none 0 0)) (.t 10))⟩ (.cons ⟨none, (.s 5 (.mv (.t 11)))⟩ .nil)))) (.seqJ (.seq (.reg [] (.cons ⟨none, (.s 6 (.mv (.k (.int .i64 0))))⟩ .nil)) (.block 0 (.loop (.seq (.seq (.reg [] (.cons ⟨none, (.s 12 (.mv (.t 6)))⟩ (.cons ⟨none, (.s 13 (.mv (.t 1)))⟩ (.cons ⟨none, (.s 14 (.len (.t 13)))⟩ (.cons ⟨none, (.s 15 (.bin .lss (.t 12) (.t 14)))⟩ .nil))))) (.cond (.t 15) .skip (.exit 0))) (.seq (.block 1 (.seq (.reg [] (.cons ⟨none, (.s 18 (.mv (.t 1)))⟩ (.cons ⟨none, (.s 19 (.mv (.t 6)))⟩ (.cons ⟨none, (.s 20 (.is 1 (.t 18) (.t 19)))⟩ (.cons ⟨none, (.r 21 (.ld (.int .i64 0) (.t 20)))⟩ (.cons ⟨none, (.s 7 (.mv (.t 21)))⟩ .nil)))))) (.seq (.reg [] (.cons ⟨none, (.w (some 8) (.alo 78 (.int .u8 0) (List.replicate 8 (.int .u8 0))))⟩ .nil)) (.seq (.seq (.reg [] (.cons ⟨none, (.s 9 (.mv (.k (.int .i64 7))))⟩ .nil)) (.block 2 (.loop (.seq (.seq (.reg [] (.cons ⟨none, (.s 22 (.mv (.t 9)))⟩ (.cons ⟨none, (.s 23 (.bin .geq (.t 22) (.k (.int .i64 0))))⟩ .nil))) (.cond (.t 23) .skip (.exit 2))) (.seq (.block 3 (.seq (.reg [] (.cons ⟨none, (.s 26 (.mv (.t 9)))⟩ (.cons ⟨none, (.s 27 (.mv (.t 7)))⟩ (.cons ⟨none, (.s 28 (.bin .and (.t 27) (.k (.int .i64 255))))⟩ (.cons ⟨none, (.s 29 (.cv .u8 (.t 28)))⟩ (.cons ⟨none, (.s 30 (.ia 8 1 (.t 8) (.t 26)))⟩ (.cons ⟨none, (.w none (.st (.t 30) (.t 29)))⟩ .nil))))))) (.reg [] (.cons ⟨none, (.s 31 (.mv (.t 7)))⟩ (.cons ⟨none, (.s 32 (.bin .shr (.t 31) (.k (.int .u64 8))))⟩ (.cons ⟨none, (.s 7 (.mv (.t 32)))⟩ .nil)))))) (.reg [] (.cons ⟨none, (.s 24 (.mv (.t 9)))⟩ (.cons ⟨none, (.s 25 (.bin .sub (.t 24) (.k (.int .i64 1))))⟩ (.cons ⟨none, (.s 9 (.mv (.t 25)))⟩ .nil))))))))) (.reg [] (.cons ⟨none, (.s 33 (.mv (.t 5)))⟩ (.cons ⟨none, (.s 34 (.sla 8 1 (.t 8) none none none))⟩ (.cons ⟨none, (.app (some 35) 5 1 (.int .u8 0) (.t 33) (.t 34))⟩ (.cons ⟨none, (.s 5 (.mv (.t 35)))⟩ .nil))))))))) (.reg [] (.cons ⟨none, (.s 16 (.mv (.t 6)))⟩ (.cons ⟨none, (.s 17 (.bin .add (.t 16) (.k (.int .i64 1))))⟩ (.cons ⟨none, (.s 6 (.mv (.t 17)))⟩ .nil))))))))) (.seq (.reg [] (.cons ⟨none, (.s 36 (.mv (.t 5)))⟩ (.cons ⟨none, (.s 4 (.mv (.t 36)))⟩ .nil))) .ret)))), [(.tmp 4)]⟩
theorem low_portcullisref1_Int : lowF Try.prog Try.f28 = some ir_portcullisref1_Int.strip := by kernel_rfl
theorem ok_portcullisref1_Int {fu : Nat} (i0 : Nat) (n0 : Nat) {X0b : Nat} {X0ty : Nat} {X0pr : List C} {X0ps : List C} {X0o : Nat} {X0c : Nat} {X0n : Nat} {X0fr : Nat × Nat} {l_ : List Int} (X0l : X0n = l_.length) (X0S : 0 < X0n → X0pr.length = X0o) (X0C : X0n ≤ X0c) {r : (Unit) ⊕ (List Int)} (h : fn_portcullisref1_Int fu l_ = some r) :
  EV.Fn Try.prog 28 [.c (.v (.slice none 0 0)), .c (.s 0 X0b X0o X0n X0c)] [] [⟨i0, X0b, X0ty, true, X0fr, (.v undef), flat [.r X0pr, .i .i64 l_, .r X0ps]⟩] (fun v u nw => match r with | .inl _ => (v = .c (.v (.slice none 0 0)) ∧ u = [] ∧ nw = []) | .inr (l9005) => (∃ (kn9002 : Nat) (kn9003 : Nat) (kw9004 : List C) (kw9006 : List C) (kn9007 : Nat) (kn9008 : Nat), v = .c (.s n0 kn9002 kn9007 l9005.length kn9008) ∧ u = [] ∧ nw = [⟨n0, kn9002, kn9003, false, (0, 0), .v undef, flat [.r kw9004, .i .u8 l9005, .r kw9006]⟩] ∧ (kw9004.length = kn9007) ∧ (kn9008 ≤ l9005.length + kw9006.length) ∧ (l9005.length ≤ kn9008))) := by
 subst X0l
 have key : EV.Fn Try.prog 28 [.c (.v (.slice none 0 0)), .c (.s 0 X0b X0o l_.length X0c)] [] [⟨0, X0b, X0ty, true, X0fr, (.v undef), flat [.r X0pr, .i .i64 l_, .r X0ps]⟩] (fun v u nw => match r with | .inl _ => (v = .c (.v (.slice none 0 0)) ∧ u = [] ∧ nw = []) | .inr (l9005) => (∃ (kn9002 : Nat) (kn9003 : Nat) (kw9004 : List C) (kw9006 : List C) (kn9007 : Nat) (kn9008 : Nat), v = .c (.s n0 kn9002 kn9007 l9005.length kn9008) ∧ u = [] ∧ nw = [⟨n0, kn9002, kn9003, false, (0, 0), .v undef, flat [.r kw9004, .i .u8 l9005, .r kw9006]⟩] ∧ (kw9004.length = kn9007) ∧ (kn9008 ≤ l9005.length + kw9006.length) ∧ (l9005.length ≤ kn9008))) := by
  unfold fn_portcullisref1_Int at h
  refine d_fn (i := ir_portcullisref1_Int) (fn := Try.f28) (sl0 := [(0, .c (.v (.slice none 0 0))), (1, .c (.s 0 X0b X0o l_.length X0c))]) (hp0 := [⟨0, X0b, X0ty, true, X0fr, (.v undef), flat [.r X0pr, .i .i64 l_, .r X0ps]⟩]) (by kernel_rfl) low_portcullisref1_Int mo rfl rfl rfl fun F z0 => ?_
  dsimp only [ir_portcullisref1_Int]
  refine wpC_seq ?_
  refine d_reg rfl ?_
  refine wpI_s rfl trivial ?_
  refine wpI_nil ?_
  refine seqK_n ?_
  refine wpC_seq ?_
  refine d_reg rfl ?_
  refine wpI_s rfl trivial ?_
  refine d_appnil0 rfl rfl rfl (fun w _ => src_nil w) rfl ?_
  refine wpI_s rfl trivial ?_
  refine wpI_nil ?_
  refine seqK_n ?_
  refine bind_e h fun o13 h hko13 => ?_
  refine d_join (fun (z : (Nat) ⊕ (List Int × Nat × Nat × List C × List C × Nat × Nat × Nat)) => (match z with | .inl kz1 => ⟨[(5, .c (.v (.slice none 0 0)))], [], 100, kz1⟩ | .inr ((l5, kn2, kn3, kw4, kw6, kn7, kn8, kz12)) => ⟨[(5, .c (.s 101 kn2 kn7 l5.length kn8))], [⟨101, kn2, kn3, false, (0, 0), (.v (.int .u8 0)), flat [.r kw4, .i .u8 l5, .r kw6]⟩], 102, kz12⟩ : St)) (fun (z : (Nat) ⊕ (List Int × Nat × Nat × List C × List C × Nat × Nat × Nat)) => match z with | .inl kz1 => (True) ∧ Sum.inl () = o13 | .inr ((l5, kn2, kn3, kw4, kw6, kn7, kn8, kz12)) => ((kw4.length = kn7) ∧ (kn8 ≤ l5.length + kw6.length) ∧ (l5.length ≤ kn8)) ∧ Sum.inr (l5) = o13) ?_ ?_
  ·refine wpC_seq ?_
   refine d_reg rfl ?_
   refine wpI_s rfl trivial ?_
   refine wpI_nil ?_
   refine seqK_n ?_
   refine wpC_block ?_
   refine bind_e h fun o39 h hko39 => ?_
   refine d_loop (fun (z : (Nat) ⊕ (List Int × Int × Nat × Nat × List C × List C × Nat × Nat × Nat)) => match z with | .inl kz14 => Sum.inl () | .inr ((l18, x25, kn15, kn16, kw17, kw19, kn20, kn21, kz26)) => Sum.inr ((l18, x25))) (fun (z : (Nat) ⊕ (List Int × Int × Nat × Nat × List C × List C × Nat × Nat × Nat)) => (match z with | .inl kz14 => ⟨[(1, .c (.s 0 X0b X0o l_.length X0c)), (5, .c (.v (.slice none 0 0))), (6, ib .i64 0)], [⟨0, X0b, X0ty, true, X0fr, (.v undef), flat [.r X0pr, .i .i64 l_, .r X0ps]⟩], 100, kz14⟩ | .inr ((l18, x25, kn15, kn16, kw17, kw19, kn20, kn21, kz26)) => ⟨[(1, .c (.s 0 X0b X0o l_.length X0c)), (5, .c (.s 101 kn15 kn20 l18.length kn21)), (6, ib .i64 x25)], [⟨0, X0b, X0ty, true, X0fr, (.v undef), flat [.r X0pr, .i .i64 l_, .r X0ps]⟩, ⟨101, kn15, kn16, false, (0, 0), (.v (.int .u8 0)), flat [.r kw17, .i .u8 l18, .r kw19]⟩], 102, kz26⟩ : St)) (fun (z : (Nat) ⊕ (List Int × Int × Nat × Nat × List C × List C × Nat × Nat × Nat)) => match z with | .inl kz14 => True | .inr ((l18, x25, kn15, kn16, kw17, kw19, kn20, kn21, kz26)) => (kw17.length = kn20) ∧ (kn21 ≤ l18.length + kw19.length) ∧ (l18.length ≤ kn21)) (Sum.inl z0) [0] h trivial (leS2_c rfl rfl (leS2_c rfl rfl (leS2_c rfl rfl leS2_n))) (leH2_c rfl rfl rfl rfl rfl rfl leH2_n) rfl rfl ?_
   rintro rec (kz14 | ⟨l18, x25, kn15, kn16, kw17, kw19, kn20, kn21, kz26⟩)
   ·rintro _ h
    show wpC _ _ _ _ _ (St.mk _ _ _ _)
    unfold fn_portcullisref1_Int_l3 at h; try dsimp only at h
    refine wpC_seq ?_
    refine wpC_seq ?_
    refine d_reg rfl ?_
    refine wpI_s rfl trivial ?_
    refine wpI_s rfl trivial ?_
    refine wpI_s rfl trivial ?_
    refine d_b rfl trivial h fun t40 h => ?_
    refine wpI_nil ?_
    refine seqK_n ?_
    refine d_cond rfl h (fun h => ?_) (fun h => ?_)
    ·refine wpC_skip ?_
     refine seqK_n ?_
     refine wpC_seq ?_
     refine wpC_block ?_
     refine wpC_seq ?_
     refine d_reg rfl ?_
     refine wpI_s rfl trivial ?_
     refine wpI_s rfl trivial ?_
     refine gd_e h fun g41 h => ?_
     refine wpI_s rfl g41 ?_
     refine d_ld 1 (q := 0) rfl rfl rfl h (sl_offP0 (i := 0) rfl X0S g41) fun x42 h => ?_
     refine wpI_s rfl trivial ?_
     refine wpI_nil ?_
     refine seqK_n ?_
     refine wpC_seq ?_
     refine d_reg rfl ?_
     refine d_alo (g := [.i .u8 (List.replicate 8 0)]) (zeros_flat _ _ _) (fun _ => trivial) fun kb43 kz44 => ?_
     refine wpI_nil ?_
     refine seqK_n ?_
     refine wpC_seq ?_
     refine wpC_seq ?_
     refine d_reg rfl ?_
     refine wpI_s rfl trivial ?_
     refine wpI_nil ?_
     refine seqK_n ?_
     refine wpC_block ?_
     refine bind_e h fun o53 h hko53 => ?_
     refine d_loop (fun (z : Int × List Int × Int × Nat) => match z with | (x45, l46, x48, kz49) => (x45, l46, x48)) (fun (z : Int × List Int × Int × Nat) => (match z with | (x45, l46, x48, kz49) => ⟨[(1, .c (.s 0 X0b X0o l_.length X0c)), (5, .c (.v (.slice none 0 0))), (6, ib .i64 0), (7, ib .i64 x45), (8, .c (.p 100 kb43 0)), (9, ib .i64 x48)], [⟨0, X0b, X0ty, true, X0fr, (.v undef), flat [.r X0pr, .i .i64 l_, .r X0ps]⟩, ⟨100, kb43, 78, false, (0, 0), (.v (.int .u8 0)), flat [.i .u8 l46]⟩], 101, kz49⟩ : St)) (fun (z : Int × List Int × Int × Nat) => match z with | (x45, l46, x48, kz49) => (l46.length = 8)) (x42, (List.replicate 8 0), 7, kz44) [0, 100] h List.length_replicate (leS2_c rfl rfl (leS2_c rfl rfl (leS2_c rfl rfl (leS2_c rfl rfl (leS2_c rfl rfl (leS2_c rfl rfl leS2_n)))))) (leH2_c rfl rfl rfl rfl rfl rfl (leH2_c rfl rfl rfl rfl rfl rfl leH2_n)) rfl rfl ?_
     rintro rec ⟨x45, l46, x48, kz49⟩ h47 h
     show wpC _ _ _ _ _ (St.mk _ _ _ _)
     unfold fn_portcullisref1_Int_l1 at h; try dsimp only at h
     refine wpC_seq ?_
     refine wpC_seq ?_
     refine d_reg rfl ?_
     refine wpI_s rfl trivial ?_
     refine d_b rfl trivial h fun t54 h => ?_
     refine wpI_nil ?_
     refine seqK_n ?_
     refine d_cond rfl h (fun h => ?_) (fun h => ?_)
     ·refine wpC_skip ?_
      refine seqK_n ?_
      refine wpC_seq ?_
      refine wpC_block ?_
      refine wpC_seq ?_
      refine d_reg rfl ?_
      refine wpI_s rfl trivial ?_
      refine wpI_s rfl trivial ?_
      refine d_n rfl trivial h fun x55 h => ?_
      refine d_n rfl trivial h fun x56 h => ?_
      refine gd_e h fun g57 h => ?_
      refine wpI_s rfl g57 ?_
      refine d_st 0 (q := x48.toNat) rfl rfl rfl rfl h (ar_offi (x48) rfl) (fun _ => rfl) (fun _ => rfl) (fun _ => trivial) fun l58 h59 h => ?_
      refine wpI_nil ?_
      refine seqK_n ?_
      refine d_reg rfl ?_
      refine wpI_s rfl trivial ?_
      refine d_n rfl (by decide) h fun x60 h => ?_
      refine wpI_s rfl trivial ?_
      refine wpI_nil ?_
      refine blockK_n ?_
      refine seqK_n ?_
      refine d_reg rfl ?_
      refine wpI_s rfl trivial ?_
      refine d_n rfl trivial h fun x61 h => ?_
      refine wpI_s rfl trivial ?_
      refine wpI_nil ?_
      refine lpK_n (x60, l58, x61, kz49) [0, 100] (h59.trans h47) h (leS2_c rfl rfl (leS2_c rfl rfl (leS2_c rfl rfl (leS2_c rfl rfl (leS2_c rfl rfl (leS2_c rfl rfl leS2_n)))))) (leH2_c rfl rfl rfl rfl rfl rfl (leH2_c rfl rfl rfl rfl rfl rfl leH2_n)) rfl rfl
     ·refine wpC_exit ?_
      refine seqK_x ?_
      obtain rfl := Option.some.inj h
      have h := hko53; clear hko53; try dsimp only at h
      refine lpK_x ?_
      refine blockK_x ?_
      refine seqK_n ?_
      refine d_reg rfl ?_
      refine wpI_s rfl trivial ?_
      refine d_sla rfl rfl rfl (by decide) fun ko62 kc63 h64 h65 => ?_
      replace h64 : 0 < 8 → 0 = ko62 := by intro h0; have := h64 (by omega); omega
      replace h65 : 8 ≤ kc63 := by omega
      have h66 : 8 ≤ 8 := by omega
      refine gd_e h fun g67 h => ?_
      refine d_appnil rfl rfl rfl h (fun w hw => Src.of_eq (src_slice (j2 := 0) (p2 := 0) (q2 := 0) hw rfl rfl rfl (hs_zero h64) (by rw [h47]; first | exact h66 | (rw [Nat.zero_add]; exact h66))) (sub_full h47)) (by first | exact Nat.zero_lt_succ _ | (rw [h47]; decide) | (rw [sub_len (by rw [h47]; first | exact h66 | (rw [Nat.zero_add]; exact h66))]; decide)) g67 rfl fun l68 kb69 kc70 kp71 kz72 h73 h74 h => ?_
      refine wpI_s rfl trivial ?_
      refine wpI_nil ?_
      refine blockK_n ?_
      refine seqK_n ?_
      refine d_reg rfl ?_
      refine wpI_s rfl trivial ?_
      refine d_nf (w := 1) rfl trivial (by decide) ?_
      refine wpI_s rfl trivial ?_
      refine wpI_nil ?_
      refine lpK_n (Sum.inr ((l68, 1, kb69, 5, [], kp71, 0, kc70, kz72))) [0, 101] ⟨rfl, h73, h74⟩ h (leS2_c rfl rfl (leS2_c rfl rfl (leS2_c rfl rfl leS2_n))) (leH2_c rfl rfl rfl rfl rfl rfl (leH2_c rfl rfl rfl rfl rfl rfl leH2_n)) rfl rfl
    ·refine wpC_exit ?_
     refine seqK_x ?_
     obtain rfl := Option.some.inj h
     have h := hko39; clear hko39; try dsimp only at h
     refine lpK_x ?_
     refine blockK_x ?_
     refine jnK_n (Sum.inl kz14) [] ⟨trivial, Option.some.inj h⟩ (leS2_c rfl rfl leS2_n) leH2_n rfl rfl
   ·rintro ⟨h22, h23, h24⟩ h
    show wpC _ _ _ _ _ (St.mk _ _ _ _)
    unfold fn_portcullisref1_Int_l3 at h; try dsimp only at h
    refine wpC_seq ?_
    refine wpC_seq ?_
    refine d_reg rfl ?_
    refine wpI_s rfl trivial ?_
    refine wpI_s rfl trivial ?_
    refine wpI_s rfl trivial ?_
    refine d_b rfl trivial h fun t75 h => ?_
    refine wpI_nil ?_
    refine seqK_n ?_
    refine d_cond rfl h (fun h => ?_) (fun h => ?_)
    ·refine wpC_skip ?_
     refine seqK_n ?_
     refine wpC_seq ?_
     refine wpC_block ?_
     refine wpC_seq ?_
     refine d_reg rfl ?_
     refine wpI_s rfl trivial ?_
     refine wpI_s rfl trivial ?_
     refine gd_e h fun g76 h => ?_
     refine wpI_s rfl g76 ?_
     refine d_ld 1 (q := x25.toNat) rfl rfl rfl h (sl_offP0 (i := x25) rfl X0S g76) fun x77 h => ?_
     refine wpI_s rfl trivial ?_
     refine wpI_nil ?_
     refine seqK_n ?_
     refine wpC_seq ?_
     refine d_reg rfl ?_
     refine d_alo (g := [.i .u8 (List.replicate 8 0)]) (zeros_flat _ _ _) (fun _ => trivial) fun kb78 kz79 => ?_
     refine wpI_nil ?_
     refine seqK_n ?_
     refine wpC_seq ?_
     refine wpC_seq ?_
     refine d_reg rfl ?_
     refine wpI_s rfl trivial ?_
     refine wpI_nil ?_
     refine seqK_n ?_
     refine wpC_block ?_
     refine bind_e h fun o88 h hko88 => ?_
     refine d_loop (fun (z : Int × List Int × Int × Nat) => match z with | (x80, l81, x83, kz84) => (x80, l81, x83)) (fun (z : Int × List Int × Int × Nat) => (match z with | (x80, l81, x83, kz84) => ⟨[(1, .c (.s 0 X0b X0o l_.length X0c)), (5, .c (.s 101 kn15 kn20 l18.length kn21)), (6, ib .i64 x25), (7, ib .i64 x80), (8, .c (.p 102 kb78 0)), (9, ib .i64 x83)], [⟨0, X0b, X0ty, true, X0fr, (.v undef), flat [.r X0pr, .i .i64 l_, .r X0ps]⟩, ⟨101, kn15, kn16, false, (0, 0), (.v (.int .u8 0)), flat [.r kw17, .i .u8 l18, .r kw19]⟩, ⟨102, kb78, 78, false, (0, 0), (.v (.int .u8 0)), flat [.i .u8 l81]⟩], 103, kz84⟩ : St)) (fun (z : Int × List Int × Int × Nat) => match z with | (x80, l81, x83, kz84) => (l81.length = 8)) (x77, (List.replicate 8 0), 7, kz79) [0, 101, 102] h List.length_replicate (leS2_c rfl rfl (leS2_c rfl rfl (leS2_c rfl rfl (leS2_c rfl rfl (leS2_c rfl rfl (leS2_c rfl rfl leS2_n)))))) (leH2_c rfl rfl rfl rfl rfl rfl (leH2_c rfl rfl rfl rfl rfl rfl (leH2_c rfl rfl rfl rfl rfl rfl leH2_n))) rfl rfl ?_
     rintro rec ⟨x80, l81, x83, kz84⟩ h82 h
     show wpC _ _ _ _ _ (St.mk _ _ _ _)
     unfold fn_portcullisref1_Int_l2 at h; try dsimp only at h
     refine wpC_seq ?_
     refine wpC_seq ?_
     refine d_reg rfl ?_
     refine wpI_s rfl trivial ?_
     refine d_b rfl trivial h fun t89 h => ?_
     refine wpI_nil ?_
     refine seqK_n ?_
     refine d_cond rfl h (fun h => ?_) (fun h => ?_)
     ·refine wpC_skip ?_
      refine seqK_n ?_
      refine wpC_seq ?_
      refine wpC_block ?_
      refine wpC_seq ?_
      refine d_reg rfl ?_
      refine wpI_s rfl trivial ?_
      refine wpI_s rfl trivial ?_
      refine d_n rfl trivial h fun x90 h => ?_
      refine d_n rfl trivial h fun x91 h => ?_
      refine gd_e h fun g92 h => ?_
      refine wpI_s rfl g92 ?_
      refine d_st 0 (q := x83.toNat) rfl rfl rfl rfl h (ar_offi (x83) rfl) (fun _ => rfl) (fun _ => rfl) (fun _ => trivial) fun l93 h94 h => ?_
      refine wpI_nil ?_
      refine seqK_n ?_
      refine d_reg rfl ?_
      refine wpI_s rfl trivial ?_
      refine d_n rfl (by decide) h fun x95 h => ?_
      refine wpI_s rfl trivial ?_
      refine wpI_nil ?_
      refine blockK_n ?_
      refine seqK_n ?_
      refine d_reg rfl ?_
      refine wpI_s rfl trivial ?_
      refine d_n rfl trivial h fun x96 h => ?_
      refine wpI_s rfl trivial ?_
      refine wpI_nil ?_
      refine lpK_n (x95, l93, x96, kz84) [0, 101, 102] (h94.trans h82) h (leS2_c rfl rfl (leS2_c rfl rfl (leS2_c rfl rfl (leS2_c rfl rfl (leS2_c rfl rfl (leS2_c rfl rfl leS2_n)))))) (leH2_c rfl rfl rfl rfl rfl rfl (leH2_c rfl rfl rfl rfl rfl rfl (leH2_c rfl rfl rfl rfl rfl rfl leH2_n))) rfl rfl
     ·refine wpC_exit ?_
      refine seqK_x ?_
      obtain rfl := Option.some.inj h
      have h := hko88; clear hko88; try dsimp only at h
      refine lpK_x ?_
      refine blockK_x ?_
      refine seqK_n ?_
      refine d_reg rfl ?_
      refine wpI_s rfl trivial ?_
      refine d_sla rfl rfl rfl (by decide) fun ko97 kc98 h99 h100 => ?_
      replace h99 : 0 < 8 → 0 = ko97 := by intro h0; have := h99 (by omega); omega
      replace h100 : 8 ≤ kc98 := by omega
      have h101 : 8 ≤ 8 := by omega
      refine gd_e h fun g102 h => ?_
      refine d_appo rfl rfl rfl rfl h22 h23 h (fun w hw => Src.of_eq (src_slice (j2 := 0) (p2 := 0) (q2 := 0) hw rfl rfl rfl (hs_zero h99) (by rw [h82]; first | exact h101 | (rw [Nat.zero_add]; exact h101))) (sub_full h82)) g102 rfl rfl fun l103 kb104 ko105 kc106 kt107 kp108 kq109 kz110 h111 h112 h113 h => ?_
      refine wpI_s rfl trivial ?_
      refine wpI_nil ?_
      refine blockK_n ?_
      refine seqK_n ?_
      refine d_reg rfl ?_
      refine wpI_s rfl trivial ?_
      refine d_n rfl trivial h fun x114 h => ?_
      refine wpI_s rfl trivial ?_
      refine wpI_nil ?_
      refine lpK_n (Sum.inr ((l103, x114, kb104, kt107, kp108, kq109, ko105, kc106, kz110))) [0, 103] ⟨h111, h112, h113⟩ h (leS2_c rfl rfl (leS2_c rfl rfl (leS2_c rfl rfl leS2_n))) (leH2_c rfl rfl rfl rfl rfl rfl (leH2_c rfl rfl rfl rfl rfl rfl leH2_n)) rfl rfl
    ·refine wpC_exit ?_
     refine seqK_x ?_
     obtain rfl := Option.some.inj h
     have h := hko39; clear hko39; try dsimp only at h
     refine lpK_x ?_
     refine blockK_x ?_
     refine jnK_n (Sum.inr ((l18, kn15, kn16, kw17, kw19, kn20, kn21, kz26))) [101] ⟨⟨h22, h23, h24⟩, Option.some.inj h⟩ (leS2_c rfl rfl leS2_n) (leH2_c rfl rfl rfl rfl rfl rfl leH2_n) rfl rfl
  ·rintro (kz1 | ⟨l5, kn2, kn3, kw4, kw6, kn7, kn8, kz12⟩)
   ·rintro ⟨_, rfl⟩
    show wpC _ _ _ _ _ (St.mk _ _ _ _)
    have h := hko13; clear hko13; try dsimp only at h
    refine wpC_seq ?_
    refine d_reg rfl ?_
    refine wpI_s rfl trivial ?_
    refine wpI_s rfl trivial ?_
    refine wpI_nil ?_
    refine seqK_n ?_
    refine wpC_ret ?_
    obtain rfl := Option.some.inj h
    exact d_ret2 [] [] ⟨rfl, rfl, rfl⟩ (rIs_t rfl rfl) leH2_n leH2_n rfl
   ·rintro ⟨⟨h9, h10, h11⟩, rfl⟩
    show wpC _ _ _ _ _ (St.mk _ _ _ _)
    have h := hko13; clear hko13; try dsimp only at h
    refine wpC_seq ?_
    refine d_reg rfl ?_
    refine wpI_s rfl trivial ?_
    refine wpI_s rfl trivial ?_
    refine wpI_nil ?_
    refine seqK_n ?_
    refine wpC_ret ?_
    obtain rfl := Option.some.inj h
    exact d_ret2 [] [101] ⟨kn2, kn3, kw4, kw6, kn7, kn8, rfl, rfl, rfl, h9, h10, h11⟩ (rIs_t rfl rfl) leH2_n (leH2_c rfl rfl rfl rfl rfl rfl leH2_n) rfl
 exact key.cong rfl blkEq_n (blkEq_c rfl rfl rfl rfl blkEq_n)

def ir_portcullisref1_One : IFn := ⟨6, (.seq (.reg [] (.cons ⟨none, (.s 2 (.mv (.k (.slice none 0 0))))⟩ .nil)) (.seq (.reg [] (.cons ⟨none, (.s 3 (.mv (.t 0)))⟩ (.cons ⟨none, (.w (some 4) (.bsl 3 (.int .i64 0) [(.int .i64 0)] 1 [(0, (1, (.t 3)))]))⟩ (.cons ⟨none, (.call (some 5) 28 [(.k (.slice none 0 0)), (.t 4)])⟩ (.cons ⟨none, (.s 2 (.mv (.t 5)))⟩ .nil))))) .ret)), [(.tmp 2)]⟩
theorem low_portcullisref1_One : lowF Try.prog Try.f17 = some ir_portcullisref1_One.strip := by kernel_rfl
theorem ok_portcullisref1_One {fu : Nat} (n0 : Nat) {n_ : Int} {l9004 : List Int} (h : fn_portcullisref1_One fu n_ = some l9004) :
  EV.Fn Try.prog 17 [ib .i64 n_] [] [] (fun v u nw => ∃ (kn9001 : Nat) (kn9002 : Nat) (kw9003 : List C) (kw9005 : List C) (kn9006 : Nat) (kn9007 : Nat), v = .c (.s n0 kn9001 kn9006 l9004.length kn9007) ∧ u = [] ∧ nw = [⟨n0, kn9001, kn9002, false, (0, 0), .v undef, flat [.r kw9003, .i .u8 l9004, .r kw9005]⟩] ∧ (kw9003.length = kn9006) ∧ (kn9007 ≤ l9004.length + kw9005.length) ∧ (l9004.length ≤ kn9007)) := by
 have key : EV.Fn Try.prog 17 [ib .i64 n_] [] [] (fun v u nw => ∃ (kn9001 : Nat) (kn9002 : Nat) (kw9003 : List C) (kw9005 : List C) (kn9006 : Nat) (kn9007 : Nat), v = .c (.s n0 kn9001 kn9006 l9004.length kn9007) ∧ u = [] ∧ nw = [⟨n0, kn9001, kn9002, false, (0, 0), .v undef, flat [.r kw9003, .i .u8 l9004, .r kw9005]⟩] ∧ (kw9003.length = kn9006) ∧ (kn9007 ≤ l9004.length + kw9005.length) ∧ (l9004.length ≤ kn9007)) := by
  unfold fn_portcullisref1_One at h
  refine d_fn (i := ir_portcullisref1_One) (fn := Try.f17) (sl0 := [(0, ib .i64 n_)]) (hp0 := []) (by kernel_rfl) low_portcullisref1_One mo rfl rfl rfl fun F z0 => ?_
  dsimp only [ir_portcullisref1_One]
  refine wpC_seq ?_
  refine d_reg rfl ?_
  refine wpI_s rfl trivial ?_
  refine wpI_nil ?_
  refine seqK_n ?_
  refine wpC_seq ?_
  refine d_reg rfl ?_
  refine wpI_s rfl trivial ?_
  refine d_bsl (g := [.r [], .i .i64 [n_], .r []]) (by rfl) (fun _ => trivial) fun kb1 kz2 => ?_
  refine bind_e h fun o3 ho4 h => ?_
  rcases o3 with _ | l5
  ·cases h
  ·try dsimp only at h
   refine d_call (ok_portcullisref1_Int (i0 := 100) (n0 := 1001) (X0b := kb1) (X0ty := 3) (X0pr := []) (X0ps := []) (X0o := 0) (X0c := 1) (X0n := 1) (X0l := (rfl).symm) (X0S := (fun _ => rfl)) (X0C := (Nat.le_refl _)) (h := ho4)) rfl rfl haveRw_n (haveRo_c rfl rfl haveRo_n) (own_of rfl) ?_
   rintro _ _ _ kz15 ⟨k6, k7, k8, k9, k10, k11, rfl, rfl, rfl, h12, h13, h14⟩
   refine ⟨_, rfl, trivial, ?_⟩
   refine wpI_s rfl trivial ?_
   refine wpI_nil ?_
   refine seqK_n ?_
   refine wpC_ret ?_
   obtain rfl := Option.some.inj h
   exact d_ret2 [] [1001] ⟨k6, k7, k8, k9, k10, k11, rfl, rfl, rfl, h12, h13, h14⟩ (rIs_t rfl rfl) leH2_n (leH2_c rfl rfl rfl rfl rfl rfl leH2_n) rfl
 exact key.cong rfl blkEq_n blkEq_n

def ir_portcullisref16_nonce : IFn := ⟨9, (.seq (.reg [] (.cons ⟨none, (.w (some 2) (.alo 46 (.int .u8 0) (List.replicate 12 (.int .u8 0))))⟩ .nil)) (.seq (.reg [] (.cons ⟨none, (.w (some 3) (.alo 46 (.int .u8 0) (List.replicate 12 (.int .u8 0))))⟩ .nil)) (.seq (.reg [] (.cons ⟨none, (.s 4 (.sla 12 1 (.t 3) (some (.k (.int .i64 4))) none none))⟩ (.cons ⟨none, (.s 5 (.mv (.t 0)))⟩ (.cons ⟨none, (.call (some 6) 17 [(.t 5)])⟩ (.cons ⟨none, (.w (some 7) (.cpy 1 (.t 4) (.t 6)))⟩ .nil))))) (.seq (.reg [] (.cons ⟨none, (.r 8 (.lda 12 (.t 3)))⟩ (.cons ⟨none, (.w none (.sta 12 (.t 2) (.t 8)))⟩ .nil))) .ret)))), [(.cell true 12 (.bool false) 2)]⟩
theorem low_portcullisref16_nonce : lowF Try.prog Try.f16 = some ir_portcullisref16_nonce.strip := by kernel_rfl
theorem ok_portcullisref16_nonce {fu : Nat} {i_ : Int} {l9001 : List Int} (h : fn_portcullisref16_nonce fu i_ = some l9001) :
  EV.Fn Try.prog 16 [ib .i64 i_] [] [] (fun v u nw => v = .g (flat [.i .u8 l9001]) ∧ u = [] ∧ nw = [] ∧ (l9001.length = 12)) := by
 have key : EV.Fn Try.prog 16 [ib .i64 i_] [] [] (fun v u nw => v = .g (flat [.i .u8 l9001]) ∧ u = [] ∧ nw = [] ∧ (l9001.length = 12)) := by
  unfold fn_portcullisref16_nonce at h
  refine d_fn (i := ir_portcullisref16_nonce) (fn := Try.f16) (sl0 := [(0, ib .i64 i_)]) (hp0 := []) (by kernel_rfl) low_portcullisref16_nonce mo rfl rfl rfl fun F z0 => ?_
  dsimp only [ir_portcullisref16_nonce]
  refine wpC_seq ?_
  refine d_reg rfl ?_
  refine d_alo (g := [.i .u8 (List.replicate 12 0)]) (zeros_flat _ _ _) (fun _ => trivial) fun kb1 kz2 => ?_
  refine wpI_nil ?_
  refine seqK_n ?_
  refine wpC_seq ?_
  refine d_reg rfl ?_
  refine d_alo (g := [.i .u8 (List.replicate 12 0)]) (zeros_flat _ _ _) (fun _ => trivial) fun kb3 kz4 => ?_
  refine wpI_nil ?_
  refine seqK_n ?_
  refine wpC_seq ?_
  refine d_reg rfl ?_
  refine d_sla rfl rfl rfl (by decide) fun ko5 kc6 h7 h8 => ?_
  replace h7 : 0 < 8 → 0 + 4 = ko5 := by intro h0; have := h7 (by omega); omega
  replace h8 : 8 ≤ kc6 := by omega
  have h9 : 4 + 8 ≤ 12 := by omega
  refine wpI_s rfl trivial ?_
  refine bind_e h fun l12 ho11 h => ?_
  refine d_call (ok_portcullisref1_One  (n0 := 1001)   (h := ho11)) rfl rfl haveRw_n haveRo_n (own_of rfl) ?_
  rintro _ _ _ kz22 ⟨k13, k14, k15, k16, k17, k18, rfl, rfl, rfl, h19, h20, h21⟩
  refine ⟨_, rfl, trivial, ?_⟩
  refine d_cpy (j2 := 1) 0 (p := 0) (p2 := k15.length) (q0 := 4) (q2 := 0) rfl rfl rfl rfl rfl rfl h rfl rfl h7 (hs_zero (fun _ => h19)) (by rw [Nat.zero_add]; exact (Nat.le_refl _)) (fun _ => rfl) (fun _ => rfl) (fun _ => trivial) fun l23 h24 h => ?_
  refine wpI_nil ?_
  refine seqK_n ?_
  refine wpC_seq ?_
  refine d_reg rfl ?_
  refine d_lda 0 1 rfl rfl rfl rfl (by simp only [flen, (h24.trans List.length_replicate)]) ?_
  refine d_sta 0 rfl rfl rfl rfl rfl (by simp only [flen, (h24.trans List.length_replicate)]) (by simp only [flen, List.length_replicate]) rfl rfl trivial ?_
  refine wpI_nil ?_
  refine seqK_n ?_
  refine wpC_ret ?_
  obtain rfl := Option.some.inj h
  exact d_ret2 [] [] ⟨rfl, rfl, rfl, (h24.trans List.length_replicate)⟩ (rIs_a 0 1 rfl rfl rfl rfl (by simp only [flen, (h24.trans List.length_replicate)])) leH2_n leH2_n rfl
 exact key.cong rfl blkEq_n blkEq_n

def ir_portcullisref1_little : IFn := ⟨25, (.seq (.reg [] (.cons ⟨none, (.s 2 (.mv (.k (.int .u32 0))))⟩ .nil)) (.seq (.reg [] (.cons ⟨none, (.s 3 (.mv (.t 0)))⟩ (.cons ⟨none, (.s 4 (.is 1 (.t 3) (.k (.int .i64 0))))⟩ (.cons ⟨none, (.r 5 (.ld (.int .u8 0) (.t 4)))⟩ (.cons ⟨none, (.s 6 (.cv .u32 (.t 5)))⟩ (.cons ⟨none, (.s 7 (.mv (.t 0)))⟩ (.cons ⟨none, (.s 8 (.is 1 (.t 7) (.k (.int .i64 1))))⟩ (.cons ⟨none, (.r 9 (.ld (.int .u8 0) (.t 8)))⟩ (.cons ⟨none, (.s 10 (.cv .u32 (.t 9)))⟩ (.cons ⟨none, (.s 11 (.bin .shl (.t 10) (.k (.int .u64 8))))⟩ (.cons ⟨none, (.s 12 (.bin .or (.t 6) (.t 11)))⟩ (.cons ⟨none, (.s 13 (.mv (.t 0)))⟩ (.cons ⟨none, (.s 14 (.is 1 (.t 13) (.k (.int .i64 2))))⟩ (.cons ⟨none, (.r 15 (.ld (.int .u8 0) (.t 14)))⟩ (.cons ⟨none, (.s 16 (.cv .u32 (.t 15)))⟩ (.cons ⟨none, (.s 17 (.bin .shl (.t 16) (.k (.int .u64 16))))⟩ (.cons ⟨none, (.s 18 (.bin .or (.t 12) (.t 17)))⟩ (.cons ⟨none, (.s 19 (.mv (.t 0)))⟩ (.cons ⟨none, (.s 20 (.is 1 (.t 19) (.k (.int .i64 3))))⟩ (.cons ⟨none, (.r 21 (.ld (.int .u8 0) (.t 20)))⟩ (.cons ⟨none, (.s 22 (.cv .u32 (.t 21)))⟩ (.cons ⟨none, (.s 23 (.bin .shl (.t 22) (.k (.int .u64 24))))⟩ (.cons ⟨none, (.s 24 (.bin .or (.t 18) (.t 23)))⟩ (.cons ⟨none, (.s 2 (.mv (.t 24)))⟩ .nil)))))))))))))))))))))))) .ret)), [(.tmp 2)]⟩
theorem low_portcullisref1_little : lowF Try.prog Try.f47 = some ir_portcullisref1_little.strip := by kernel_rfl
theorem ok_portcullisref1_little {fu : Nat} (i0 : Nat) {X0b : Nat} {X0ty : Nat} {X0pr : List C} {X0ps : List C} {X0o : Nat} {X0c : Nat} {X0n : Nat} {X0fr : Nat × Nat} {b_ : List Int} (X0l : X0n = b_.length) (X0S : 0 < X0n → X0pr.length = X0o) (X0C : X0n ≤ X0c) {x9001 : Int} (h : fn_portcullisref1_little fu b_ = some x9001) :
  EV.Fn Try.prog 47 [.c (.s 0 X0b X0o X0n X0c)] [] [⟨i0, X0b, X0ty, true, X0fr, (.v undef), flat [.r X0pr, .i .u8 b_, .r X0ps]⟩] (fun v u nw => v = ib .u32 x9001 ∧ u = [] ∧ nw = []) := by
 subst X0l
 have key : EV.Fn Try.prog 47 [.c (.s 0 X0b X0o b_.length X0c)] [] [⟨0, X0b, X0ty, true, X0fr, (.v undef), flat [.r X0pr, .i .u8 b_, .r X0ps]⟩] (fun v u nw => v = ib .u32 x9001 ∧ u = [] ∧ nw = []) := by
  unfold fn_portcullisref1_little at h
  refine d_fn (i := ir_portcullisref1_little) (fn := Try.f47) (sl0 := [(0, .c (.s 0 X0b X0o b_.length X0c))]) (hp0 := [⟨0, X0b, X0ty, true, X0fr, (.v undef), flat [.r X0pr, .i .u8 b_, .r X0ps]⟩]) (by kernel_rfl) low_portcullisref1_little mo rfl rfl rfl fun F z0 => ?_
  dsimp only [ir_portcullisref1_little]
  refine wpC_seq ?_
  refine d_reg rfl ?_
  refine wpI_s rfl trivial ?_
  refine wpI_nil ?_
  refine seqK_n ?_
  refine wpC_seq ?_
  refine d_reg rfl ?_
  refine wpI_s rfl trivial ?_
  refine gd_e h fun g1 h => ?_
  refine wpI_s rfl g1 ?_
  refine d_ld 1 (q := 0) rfl rfl rfl h (sl_offP0 (i := 0) rfl X0S g1) fun x2 h => ?_
  refine d_n rfl trivial h fun x3 h => ?_
  refine wpI_s rfl trivial ?_
  refine gd_e h fun g4 h => ?_
  refine wpI_s rfl g4 ?_
  refine d_ld 1 (q := 1) rfl rfl rfl h (sl_offP0 (i := 1) rfl X0S g4) fun x5 h => ?_
  refine d_n rfl trivial h fun x6 h => ?_
  refine d_n rfl (by decide) h fun x7 h => ?_
  refine d_n rfl trivial h fun x8 h => ?_
  refine wpI_s rfl trivial ?_
  refine gd_e h fun g9 h => ?_
  refine wpI_s rfl g9 ?_
  refine d_ld 1 (q := 2) rfl rfl rfl h (sl_offP0 (i := 2) rfl X0S g9) fun x10 h => ?_
  refine d_n rfl trivial h fun x11 h => ?_
  refine d_n rfl (by decide) h fun x12 h => ?_
  refine d_n rfl trivial h fun x13 h => ?_
  refine wpI_s rfl trivial ?_
  refine gd_e h fun g14 h => ?_
  refine wpI_s rfl g14 ?_
  refine d_ld 1 (q := 3) rfl rfl rfl h (sl_offP0 (i := 3) rfl X0S g14) fun x15 h => ?_
  refine d_n rfl trivial h fun x16 h => ?_
  refine d_n rfl (by decide) h fun x17 h => ?_
  refine d_n rfl trivial h fun x18 h => ?_
  refine wpI_s rfl trivial ?_
  refine wpI_nil ?_
  refine seqK_n ?_
  refine wpC_ret ?_
  obtain rfl := Option.some.inj h
  exact d_ret2 [] [] ⟨rfl, rfl, rfl⟩ (rIs_t rfl rfl) leH2_n leH2_n rfl
 exact key.cong rfl blkEq_n (blkEq_c rfl rfl rfl rfl blkEq_n)

def ir_portcullisref1_rol : IFn := ⟨13, (.seq (.reg [] (.cons ⟨none, (.s 4 (.mv (.k (.int .u32 0))))⟩ .nil)) (.seq (.reg [] (.cons ⟨none, (.s 5 (.mv (.t 0)))⟩ (.cons ⟨none, (.s 6 (.mv (.t 1)))⟩ (.cons ⟨none, (.s 7 (.bin .shl (.t 5) (.t 6)))⟩ (.cons ⟨none, (.s 8 (.mv (.t 0)))⟩ (.cons ⟨none, (.s 9 (.mv (.t 1)))⟩ (.cons ⟨none, (.s 10 (.bin .sub (.k (.int .u64 32)) (.t 9)))⟩ (.cons ⟨none, (.s 11 (.bin .shr (.t 8) (.t 10)))⟩ (.cons ⟨none, (.s 12 (.bin .or (.t 7) (.t 11)))⟩ (.cons ⟨none, (.s 4 (.mv (.t 12)))⟩ .nil)))))))))) .ret)), [(.tmp 4)]⟩
theorem low_portcullisref1_rol : lowF Try.prog Try.f55 = some ir_portcullisref1_rol.strip := by kernel_rfl
theorem ok_portcullisref1_rol {fu : Nat} {x_ : Int} {n_ : Int} {x9001 : Int} (h : fn_portcullisref1_rol fu x_ n_ = some x9001) :
  EV.Fn Try.prog 55 [ib .u32 x_, ib .u64 n_] [] [] (fun v u nw => v = ib .u32 x9001 ∧ u = [] ∧ nw = []) := by
 have key : EV.Fn Try.prog 55 [ib .u32 x_, ib .u64 n_] [] [] (fun v u nw => v = ib .u32 x9001 ∧ u = [] ∧ nw = []) := by
  unfold fn_portcullisref1_rol at h
  refine d_fn (i := ir_portcullisref1_rol) (fn := Try.f55) (sl0 := [(0, ib .u32 x_), (1, ib .u64 n_)]) (hp0 := []) (by kernel_rfl) low_portcullisref1_rol mo rfl rfl rfl fun F z0 => ?_
  dsimp only [ir_portcullisref1_rol]
  refine wpC_seq ?_
  refine d_reg rfl ?_
  refine wpI_s rfl trivial ?_
  refine wpI_nil ?_
  refine seqK_n ?_
  refine wpC_seq ?_
  refine d_reg rfl ?_
  refine wpI_s rfl trivial ?_
  refine wpI_s rfl trivial ?_
  refine gd_e h fun g1 h => ?_
  refine d_n rfl g1 h fun x2 h => ?_
  refine wpI_s rfl trivial ?_
  refine wpI_s rfl trivial ?_
  refine d_n rfl trivial h fun x3 h => ?_
  refine gd_e h fun g4 h => ?_
  refine d_n rfl g4 h fun x5 h => ?_
  refine d_n rfl trivial h fun x6 h => ?_
  refine wpI_s rfl trivial ?_
  refine wpI_nil ?_
  refine seqK_n ?_
  refine wpC_ret ?_
  obtain rfl := Option.some.inj h
  exact d_ret2 [] [] ⟨rfl, rfl, rfl⟩ (rIs_t rfl rfl) leH2_n leH2_n rfl
 exact key.cong rfl blkEq_n blkEq_n

def ir_portcullisref1_quarter : IFn := ⟨134, (.seq (.reg [] (.cons ⟨none, (.s 10 (.mv (.t 0)))⟩ (.cons ⟨none, (.s 11 (.mv (.t 1)))⟩ (.cons ⟨none, (.s 12 (.mv (.t 0)))⟩ (.cons ⟨none, (.s 13 (.mv (.t 1)))⟩ (.cons ⟨none, (.s 14 (.nil (.t 12)))⟩ (.cons ⟨none, (.s 15 (.ia 16 1 (.t 14) (.t 13)))⟩ (.cons ⟨none, (.r 16 (.ld (.int .u32 0) (.t 15)))⟩ (.cons ⟨none, (.s 17 (.mv (.t 0)))⟩ (.cons ⟨none, (.s 18 (.mv (.t 2)))⟩ (.cons ⟨none, (.s 19 (.nil (.t 17)))⟩ (.cons ⟨none, (.s 20 (.ia 16 1 (.t 19) (.t 18)))⟩ (.cons ⟨none, (.r 21 (.ld (.int .u32 0) (.t 20)))⟩ (.cons ⟨none, (.s 22 (.bin .add (.t 16) (.t 21)))⟩ (.cons ⟨none, (.s 23 (.nil (.t 10)))⟩ (.cons ⟨none, (.s 24 (.ia 16 1 (.t 23) (.t 11)))⟩ (.cons ⟨none, (.w none (.st (.t 24) (.t 22)))⟩ .nil))))))))))))))))) (.seq (.reg [] (.cons ⟨none, (.s 25 (.mv (.t 0)))⟩ (.cons ⟨none, (.s 26 (.mv (.t 4)))⟩ (.cons ⟨none, (.s 27 (.mv (.t 0)))⟩ (.cons ⟨none, (.s 28 (.mv (.t 4)))⟩ (.cons ⟨none, (.s 29 (.nil (.t 27)))⟩ (.cons ⟨none, (.s 30 (.ia 16 1 (.t 29) (.t 28)))⟩ (.cons ⟨none, (.r 31 (.ld (.int .u32 0) (.t 30)))⟩ (.cons ⟨none, (.s 32 (.mv (.t 0)))⟩ (.cons ⟨none, (.s 33 (.mv (.t 1)))⟩ (.cons ⟨none, (.s 34 (.nil (.t 32)))⟩ (.cons ⟨none, (.s 35 (.ia 16 1 (.t 34) (.t 33)))⟩ (.cons ⟨none, (.r 36 (.ld (.int .u32 0) (.t 35)))⟩ (.cons ⟨none, (.s 37 (.bin .xor (.t 31) (.t 36)))⟩ (.cons ⟨none, (.call (some 38) 55 [(.t 37), (.k (.int .u64 16))])⟩ (.cons ⟨none, (.s 39 (.nil (.t 25)))⟩ (.cons ⟨none, (.s 40 (.ia 16 1 (.t 39) (.t 26)))⟩ (.cons ⟨none, (.w none (.st (.t 40) (.t 38)))⟩ .nil)))))))))))))))))) (.seq (.reg [] (.cons ⟨none, (.s 41 (.mv (.t 0)))⟩ (.cons ⟨none, (.s 42 (.mv (.t 3)))⟩ (.cons ⟨none, (.s 43 (.mv (.t 0)))⟩ (.cons ⟨none, (.s 44 (.mv (.t 3)))⟩ (.cons ⟨none, (.s 45 (.nil (.t 43)))⟩ (.cons ⟨none, (.s 46 (.ia 16 1 (.t 45) (.t 44)))⟩ (.cons ⟨none, (.r 47 (.ld (.int .u32 0) (.t 46)))⟩ (.cons ⟨none, (.s 48 (.mv (.t 0)))⟩ (.cons ⟨none, (.s 49 (.mv (.t 4)))⟩ (.cons ⟨none, (.s 50 (.nil (.t 48)))⟩ (.cons ⟨none, (.s 51 (.ia 16 1 (.t 50) (.t 49)))⟩ (.cons ⟨none, (.r 52 (.ld (.int .u32 0) (.t 51)))⟩ (.cons ⟨none, (.s 53 (.bin .add (.t 47) (.t 52)))⟩ (.cons ⟨none, (.s 54 (.nil (.t 41)))⟩ (.cons ⟨none, (.s 55 (.ia 16 1 (.t 54) (.t 42)))⟩ (.cons ⟨none, (.w none (.st (.t 55) (.t 53)))⟩ .nil))))))))))))))))) (.seq (.reg [] (.cons ⟨none, (.s 56 (.mv (.t 0)))⟩ (.cons ⟨none, (.s 57 (.mv (.t 2)))⟩ (.cons ⟨none, (.s 58 (.mv (.t 0)))⟩ (.cons ⟨none, (.s 59 (.mv (.t 2)))⟩ (.cons ⟨none, (.s 60 (.nil (.t 58)))⟩ (.cons ⟨none, (.s 61 (.ia 16 1 (.t 60) (.t 59)))⟩ (.cons ⟨none, (.r 62 (.ld (.int .u32 0) (.t 61)))⟩ (.cons ⟨none, (.s 63 (.mv (.t 0)))⟩ (.cons ⟨none, (.s 64 (.mv (.t 3)))⟩ (.cons ⟨none, (.s 65 (.nil (.t 63)))⟩ (.cons ⟨none, (.s 66 (.ia 16 1 (.t 65) (.t 64)))⟩ (.cons ⟨none, (.r 67 (.ld (.int .u32 0) (.t 66)))⟩ (.cons ⟨none, (.s 68 (.bin .xor (.t 62) (.t 67)))⟩ (.cons ⟨none, (.call (some 69) 55 [(.t 68), (.k (.int .u64 12))])⟩ (.cons ⟨none, (.s 70 (.nil (.t 56)))⟩ (.cons ⟨none, (.s 71 (.ia 16 1 (.t 70) (.t 57)))⟩ (.cons ⟨none, (.w none (.st (.t 71) (.t 69)))⟩ .nil)))))))))))))))))) (.seq (.reg [] (.cons ⟨none, (.s 72 (.mv (.t 0)))⟩ (.cons ⟨none, (.s 73 (.mv (.t 1)))⟩ (.cons ⟨none, (.s 74 (.mv (.t 0)))⟩ (.cons ⟨none, (.s 75 (.mv (.t 1)))⟩ (.cons ⟨none, (.s 76 (.nil (.t 74)))⟩ (.cons ⟨none, (.s 77 (.ia 16 1 (.t 76) (.t 75)))⟩ (.cons ⟨none, (.r 78 (.ld (.int .u32 0) (.t 77)))⟩ (.cons ⟨none, (.s 79 (.mv (.t 0)))⟩ (.cons ⟨none, (.s 80 (.mv (.t 2)))⟩ (.cons ⟨none, (.s 81 (.nil (.t 79)))⟩ (.cons ⟨none, (.s 82 (.ia 16 1 (.t 81) (.t 80)))⟩ (.cons ⟨none, (.r 83 (.ld (.int .u32 0) (.t 82)))⟩ (.cons ⟨none, (.s 84 (.bin .add (.t 78) (.t 83)))⟩ (.cons ⟨none, (.s 85 (.nil (.t 72)))⟩ (.cons ⟨none, (.s 86 (.ia 16 1 (.t 85) (.t 73)))⟩ (.cons ⟨none, (.w none (.st (.t 86) (.t 84)))⟩ .nil))))))))))))))))) (.seq (.reg [] (.cons ⟨none, (.s 87 (.mv (.t 0)))⟩ (.cons ⟨none, (.s 88 (.mv (.t 4)))⟩ (.cons ⟨none, (.s 89 (.mv (.t 0)))⟩ (.cons ⟨none, (.s 90 (.mv (.t 4)))⟩ (.cons ⟨none, (.s 91 (.nil (.t 89)))⟩ (.cons ⟨none, (.s 92 (.ia 16 1 (.t 91) (.t 90)))⟩ (.cons ⟨none, (.r 93 (.ld (.int .u32 0) (.t 92)))⟩ (.cons ⟨none, (.s 94 (.mv (.t 0)))⟩ (.cons ⟨none, (.s 95 (.mv (.t 1)))⟩ (.cons ⟨none, (.s 96 (.nil (.t 94)))⟩ (.cons ⟨none, (.s 97 (.ia 16 1 (.t 96) (.t 95)))⟩ (.cons ⟨none, (.r 98 (.ld (.int .u32 0) (.t 97)))⟩ (.cons ⟨none, (.s 99 (.bin .xor (.t 93) (.t 98)))⟩ (.cons ⟨none, (.call (some 100) 55 [(.t 99), (.k (.int .u64 8))])⟩ (.cons ⟨none, (.s 101 (.nil (.t 87)))⟩ (.cons ⟨none, (.s 102 (.ia 16 1 (.t 101) (.t 88)))⟩ (.cons ⟨none, (.w none (.st (.t 102) (.t 100)))⟩ .nil)))))))))))))))))) (.seq (.reg [] (.cons ⟨none, (.s 103 (.mv (.t 0)))⟩ (.cons ⟨none, (.s 104 (.mv (.t 3)))⟩ (.cons ⟨none, (.s 105 (.mv (.t 0)))⟩ (.cons ⟨none, (.s 106 (.mv (.t 3)))⟩ (.cons ⟨none, (.s 107 (.nil (.t 105)))⟩ (.cons ⟨none, (.s 108 (.ia 16 1 (.t 107) (.t 106)))⟩ (.cons ⟨none, (.r 109 (.ld (.int .u32 0) (.t 108)))⟩ (.cons ⟨none, (.s 110 (.mv (.t 0)))⟩ (.cons ⟨none, (.s 111 (.mv (.t 4)))⟩ (.cons ⟨none, (.s 112 (.nil (.t 110)))⟩ (.cons ⟨none, (.s 113 (.ia 16 1 (.t 112) (.t 111)))⟩ (.cons ⟨none, (.r 114 (.ld (.int .u32 0) (.t 113)))⟩ (.cons ⟨none, (.s 115 (.bin .add (.t 109) (.t 114)))⟩ (.cons ⟨none, (.s 116 (.nil (.t 103)))⟩ (.cons ⟨none, (.s 117 (.ia 16 1 (.t 116) (.t 104)))⟩ (.cons ⟨none, (.w none (.st (.t 117) (.t 115)))⟩ .nil))))))))))))))))) (.reg [] (.cons ⟨none, (.s 118 (.mv (.t 0)))⟩ (.cons ⟨none, (.s 119 (.mv (.t 2)))⟩ (.cons ⟨none, (.s 120 (.mv (.t 0)))⟩ (.cons ⟨none, (.s 121 (.mv (.t 2)))⟩ (.cons ⟨none, (.s 122 (.nil (.t 120)))⟩ (.cons ⟨none, (.s 123 (.ia 16 1 (.t 122) (.t 121)))⟩ (.cons ⟨none, (.r 124 (.ld (.int .u32 0) (.t 123)))⟩ (.cons ⟨none, (.s 125 (.mv (.t 0)))⟩ (.cons ⟨none, (.s 126 (.mv (.t 3)))⟩ (.cons ⟨none, (.s 127 (.nil (.t 125)))⟩ (.cons ⟨none, (.s 128 (.ia 16 1 (.t 127) (.t 126)))⟩ (.cons ⟨none, (.r 129 (.ld (.int .u32 0) (.t 128)))⟩ (.cons ⟨none, (.s 130 (.bin .xor (.t 124) (.t 129)))⟩ (.cons ⟨none, (.call (some 131) 55 [(.t 130), (.k (.int .u64 7))])⟩ (.cons ⟨none, (.s 132 (.nil (.t 118)))⟩ (.cons ⟨none, (.s 133 (.ia 16 1 (.t 132) (.t 119)))⟩ (.cons ⟨none, (.w none (.st (.t 133) (.t 131)))⟩ .nil))))))))))))))))))))))))), []⟩
theorem low_portcullisref1_quarter : lowF Try.prog Try.f48 = some ir_portcullisref1_quarter.strip := by kernel_rfl
theorem ok_portcullisref1_quarter {fu : Nat} (i0 : Nat) {X0b : Nat} {X0ty : Nat} {s_ : List Int} {a_ : Int} {b_ : Int} {c_ : Int} {d_ : Int} {l9001 : List Int} (h : fn_portcullisref1_quarter fu s_ a_ b_ c_ d_ = some l9001) :
  EV.Fn Try.prog 48 [.c (.p 0 X0b 0), ib .i64 a_, ib .i64 b_, ib .i64 c_, ib .i64 d_] [⟨i0, X0b, X0ty, false, (0, 0), (.v undef), flat [.i .u32 s_]⟩] [] (fun v u nw => v = .t0 ∧ u = [flat [.i .u32 l9001]] ∧ nw = [] ∧ (l9001.length = 16)) := by
 have key : EV.Fn Try.prog 48 [.c (.p 0 X0b 0), ib .i64 a_, ib .i64 b_, ib .i64 c_, ib .i64 d_] [⟨0, X0b, X0ty, false, (0, 0), (.v undef), flat [.i .u32 s_]⟩] [] (fun v u nw => v = .t0 ∧ u = [flat [.i .u32 l9001]] ∧ nw = [] ∧ (l9001.length = 16)) := by
  unfold fn_portcullisref1_quarter at h
  refine d_fn (i := ir_portcullisref1_quarter) (fn := Try.f48) (sl0 := [(0, .c (.p 0 X0b 0)), (1, ib .i64 a_), (2, ib .i64 b_), (3, ib .i64 c_), (4, ib .i64 d_)]) (hp0 := [⟨0, X0b, X0ty, false, (0, 0), (.v undef), flat [.i .u32 s_]⟩]) (by kernel_rfl) low_portcullisref1_quarter mo rfl rfl rfl fun F z0 => ?_
  dsimp only [ir_portcullisref1_quarter]
  refine gd_e h fun Xh_s_ h => ?_
  refine wpC_seq ?_
  refine d_reg rfl ?_
  refine wpI_s rfl trivial ?_
  refine wpI_s rfl trivial ?_
  refine wpI_s rfl trivial ?_
  refine wpI_s rfl trivial ?_
  refine wpI_s rfl trivial ?_
  refine gd_e h fun g1 h => ?_
  refine wpI_s rfl g1 ?_
  refine d_ld 0 (q := a_.toNat) rfl rfl rfl h (ar_offi (a_) rfl) fun x2 h => ?_
  refine wpI_s rfl trivial ?_
  refine wpI_s rfl trivial ?_
  refine wpI_s rfl trivial ?_
  refine gd_e h fun g3 h => ?_
  refine wpI_s rfl g3 ?_
  refine d_ld 0 (q := b_.toNat) rfl rfl rfl h (ar_offi (b_) rfl) fun x4 h => ?_
  refine d_n rfl trivial h fun x5 h => ?_
  refine wpI_s rfl trivial ?_
  refine gd_e h fun g6 h => ?_
  refine wpI_s rfl g6 ?_
  refine d_st 0 (q := a_.toNat) rfl rfl rfl rfl h (ar_offi (a_) rfl) (fun _ => rfl) (fun _ => rfl) (fun _ => trivial) fun l7 h8 h => ?_
  refine wpI_nil ?_
  refine seqK_n ?_
  refine wpC_seq ?_
  refine d_reg rfl ?_
  refine wpI_s rfl trivial ?_
  refine wpI_s rfl trivial ?_
  refine wpI_s rfl trivial ?_
  refine wpI_s rfl trivial ?_
  refine wpI_s rfl trivial ?_
  refine gd_e h fun g9 h => ?_
  refine wpI_s rfl g9 ?_
  refine d_ld 0 (q := d_.toNat) rfl rfl rfl h (ar_offi (d_) rfl) fun x10 h => ?_
  refine wpI_s rfl trivial ?_
  refine wpI_s rfl trivial ?_
  refine wpI_s rfl trivial ?_
  refine gd_e h fun g11 h => ?_
  refine wpI_s rfl g11 ?_
  refine d_ld 0 (q := a_.toNat) rfl rfl rfl h (ar_offi (a_) rfl) fun x12 h => ?_
  refine d_n rfl trivial h fun x13 h => ?_
  refine bind_e h fun x16 ho15 h => ?_
  refine d_call (ok_portcullisref1_rol     (h := ho15)) rfl rfl haveRw_n haveRo_n (own_of rfl) ?_
  rintro _ _ _ kz17 ⟨rfl, rfl, rfl⟩
  refine ⟨_, rfl, trivial, ?_⟩
  refine wpI_s rfl trivial ?_
  refine gd_e h fun g18 h => ?_
  refine wpI_s rfl g18 ?_
  refine d_st 0 (q := d_.toNat) rfl rfl rfl rfl h (ar_offi (d_) rfl) (fun _ => rfl) (fun _ => rfl) (fun _ => trivial) fun l19 h20 h => ?_
  refine wpI_nil ?_
  refine seqK_n ?_
  refine wpC_seq ?_
  refine d_reg rfl ?_
  refine wpI_s rfl trivial ?_
  refine wpI_s rfl trivial ?_
  refine wpI_s rfl trivial ?_
  refine wpI_s rfl trivial ?_
  refine wpI_s rfl trivial ?_
  refine gd_e h fun g21 h => ?_
  refine wpI_s rfl g21 ?_
  refine d_ld 0 (q := c_.toNat) rfl rfl rfl h (ar_offi (c_) rfl) fun x22 h => ?_
  refine wpI_s rfl trivial ?_
  refine wpI_s rfl trivial ?_
  refine wpI_s rfl trivial ?_
  refine gd_e h fun g23 h => ?_
  refine wpI_s rfl g23 ?_
  refine d_ld 0 (q := d_.toNat) rfl rfl rfl h (ar_offi (d_) rfl) fun x24 h => ?_
  refine d_n rfl trivial h fun x25 h => ?_
  refine wpI_s rfl trivial ?_
  refine gd_e h fun g26 h => ?_
  refine wpI_s rfl g26 ?_
  refine d_st 0 (q := c_.toNat) rfl rfl rfl rfl h (ar_offi (c_) rfl) (fun _ => rfl) (fun _ => rfl) (fun _ => trivial) fun l27 h28 h => ?_
  refine wpI_nil ?_
  refine seqK_n ?_
  refine wpC_seq ?_
  refine d_reg rfl ?_
  refine wpI_s rfl trivial ?_
  refine wpI_s rfl trivial ?_
  refine wpI_s rfl trivial ?_
  refine wpI_s rfl trivial ?_
  refine wpI_s rfl trivial ?_
  refine gd_e h fun g29 h => ?_
  refine wpI_s rfl g29 ?_
  refine d_ld 0 (q := b_.toNat) rfl rfl rfl h (ar_offi (b_) rfl) fun x30 h => ?_
  refine wpI_s rfl trivial ?_
  refine wpI_s rfl trivial ?_
  refine wpI_s rfl trivial ?_
  refine gd_e h fun g31 h => ?_
  refine wpI_s rfl g31 ?_
  refine d_ld 0 (q := c_.toNat) rfl rfl rfl h (ar_offi (c_) rfl) fun x32 h => ?_
  refine d_n rfl trivial h fun x33 h => ?_
  refine bind_e h fun x36 ho35 h => ?_
  refine d_call (ok_portcullisref1_rol     (h := ho35)) rfl rfl haveRw_n haveRo_n (own_of rfl) ?_
  rintro _ _ _ kz37 ⟨rfl, rfl, rfl⟩
  refine ⟨_, rfl, trivial, ?_⟩
  refine wpI_s rfl trivial ?_
  refine gd_e h fun g38 h => ?_
  refine wpI_s rfl g38 ?_
  refine d_st 0 (q := b_.toNat) rfl rfl rfl rfl h (ar_offi (b_) rfl) (fun _ => rfl) (fun _ => rfl) (fun _ => trivial) fun l39 h40 h => ?_
  refine wpI_nil ?_
  refine seqK_n ?_
  refine wpC_seq ?_
  refine d_reg rfl ?_
  refine wpI_s rfl trivial ?_
  refine wpI_s rfl trivial ?_
  refine wpI_s rfl trivial ?_
  refine wpI_s rfl trivial ?_
  refine wpI_s rfl trivial ?_
  refine gd_e h fun g41 h => ?_
  refine wpI_s rfl g41 ?_
  refine d_ld 0 (q := a_.toNat) rfl rfl rfl h (ar_offi (a_) rfl) fun x42 h => ?_
  refine wpI_s rfl trivial ?_
  refine wpI_s rfl trivial ?_
  refine wpI_s rfl trivial ?_
  refine gd_e h fun g43 h => ?_
  refine wpI_s rfl g43 ?_
  refine d_ld 0 (q := b_.toNat) rfl rfl rfl h (ar_offi (b_) rfl) fun x44 h => ?_
  refine d_n rfl trivial h fun x45 h => ?_
  refine wpI_s rfl trivial ?_
  refine gd_e h fun g46 h => ?_
  refine wpI_s rfl g46 ?_
  refine d_st 0 (q := a_.toNat) rfl rfl rfl rfl h (ar_offi (a_) rfl) (fun _ => rfl) (fun _ => rfl) (fun _ => trivial) fun l47 h48 h => ?_
  refine wpI_nil ?_
  refine seqK_n ?_
  refine wpC_seq ?_
  refine d_reg rfl ?_
  refine wpI_s rfl trivial ?_
  refine wpI_s rfl trivial ?_
  refine wpI_s rfl trivial ?_
  refine wpI_s rfl trivial ?_
  refine wpI_s rfl trivial ?_
  refine gd_e h fun g49 h => ?_
  refine wpI_s rfl g49 ?_
  refine d_ld 0 (q := d_.toNat) rfl rfl rfl h (ar_offi (d_) rfl) fun x50 h => ?_
  refine wpI_s rfl trivial ?_
  refine wpI_s rfl trivial ?_
  refine wpI_s rfl trivial ?_
  refine gd_e h fun g51 h => ?_
  refine wpI_s rfl g51 ?_
  refine d_ld 0 (q := a_.toNat) rfl rfl rfl h (ar_offi (a_) rfl) fun x52 h => ?_
  refine d_n rfl trivial h fun x53 h => ?_
  refine bind_e h fun x56 ho55 h => ?_
  refine d_call (ok_portcullisref1_rol     (h := ho55)) rfl rfl haveRw_n haveRo_n (own_of rfl) ?_
  rintro _ _ _ kz57 ⟨rfl, rfl, rfl⟩
  refine ⟨_, rfl, trivial, ?_⟩
  refine wpI_s rfl trivial ?_
  refine gd_e h fun g58 h => ?_
  refine wpI_s rfl g58 ?_
  refine d_st 0 (q := d_.toNat) rfl rfl rfl rfl h (ar_offi (d_) rfl) (fun _ => rfl) (fun _ => rfl) (fun _ => trivial) fun l59 h60 h => ?_
  refine wpI_nil ?_
  refine seqK_n ?_
  refine wpC_seq ?_
  refine d_reg rfl ?_
  refine wpI_s rfl trivial ?_
  refine wpI_s rfl trivial ?_
  refine wpI_s rfl trivial ?_
  refine wpI_s rfl trivial ?_
  refine wpI_s rfl trivial ?_
  refine gd_e h fun g61 h => ?_
  refine wpI_s rfl g61 ?_
  refine d_ld 0 (q := c_.toNat) rfl rfl rfl h (ar_offi (c_) rfl) fun x62 h => ?_
  refine wpI_s rfl trivial ?_
  refine wpI_s rfl trivial ?_
  refine wpI_s rfl trivial ?_
  refine gd_e h fun g63 h => ?_
  refine wpI_s rfl g63 ?_
  refine d_ld 0 (q := d_.toNat) rfl rfl rfl h (ar_offi (d_) rfl) fun x64 h => ?_
  refine d_n rfl trivial h fun x65 h => ?_
  refine wpI_s rfl trivial ?_
  refine gd_e h fun g66 h => ?_
  refine wpI_s rfl g66 ?_
  refine d_st 0 (q := c_.toNat) rfl rfl rfl rfl h (ar_offi (c_) rfl) (fun _ => rfl) (fun _ => rfl) (fun _ => trivial) fun l67 h68 h => ?_
  refine wpI_nil ?_
  refine seqK_n ?_
  refine d_reg rfl ?_
  refine wpI_s rfl trivial ?_
  refine wpI_s rfl trivial ?_
  refine wpI_s rfl trivial ?_
  refine wpI_s rfl trivial ?_
  refine wpI_s rfl trivial ?_
  refine gd_e h fun g69 h => ?_
  refine wpI_s rfl g69 ?_
  refine d_ld 0 (q := b_.toNat) rfl rfl rfl h (ar_offi (b_) rfl) fun x70 h => ?_
  refine wpI_s rfl trivial ?_
  refine wpI_s rfl trivial ?_
  refine wpI_s rfl trivial ?_
  refine gd_e h fun g71 h => ?_
  refine wpI_s rfl g71 ?_
  refine d_ld 0 (q := c_.toNat) rfl rfl rfl h (ar_offi (c_) rfl) fun x72 h => ?_
  refine d_n rfl trivial h fun x73 h => ?_
  refine bind_e h fun x76 ho75 h => ?_
  refine d_call (ok_portcullisref1_rol     (h := ho75)) rfl rfl haveRw_n haveRo_n (own_of rfl) ?_
  rintro _ _ _ kz77 ⟨rfl, rfl, rfl⟩
  refine ⟨_, rfl, trivial, ?_⟩
  refine wpI_s rfl trivial ?_
  refine gd_e h fun g78 h => ?_
  refine wpI_s rfl g78 ?_
  refine d_st 0 (q := b_.toNat) rfl rfl rfl rfl h (ar_offi (b_) rfl) (fun _ => rfl) (fun _ => rfl) (fun _ => trivial) fun l79 h80 h => ?_
  refine wpI_nil ?_
  obtain rfl := Option.some.inj h
  exact d_ret2n [0] [] ⟨rfl, rfl, rfl, (h80.trans (h68.trans (h60.trans (h48.trans (h40.trans (h28.trans (h20.trans (h8.trans Xh_s_))))))))⟩ rfl (leH2_c rfl rfl rfl rfl rfl rfl leH2_n) leH2_n rfl
 exact key.cong rfl (blkEq_c rfl rfl rfl rfl blkEq_n) blkEq_n

end Go.Proofs.Ythgbffnahanfhaa

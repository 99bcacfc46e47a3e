/- That the functions of the program compute just this: part 3. No condition but those that a theorem names. -/
import Derived.Test.YthgbffnahanfhaaW2
set_option linter.unusedVariables false
set_option linter.unusedSimpArgs false
namespace Go.Proofs.Ythgbffnahanfhaa
open Go Go.EV
set_option maxRecDepth 100000
set_option maxHeartbeats 0
set_option linter.unusedVariables false
def ir_chacha_begin : IFn := ⟨36, (.seq (.reg [] (.cons ⟨none, (.w (some 3) (.box 23 32 (.int .u8 0) (.t 0)))⟩ (.cons ⟨none, (.w (some 5) (.box 46 12 (.int .u8 0) (.t 2)))⟩ (.cons ⟨none, (.w (some 6) (.alo 86 (.int .u32 0) (List.replicate 16 (.int .u32 0))))⟩ .nil)))) (.seq (.reg [] (.cons ⟨none, (.s 10 (.bld (List.replicate 16 (.int .u32 0)) [(0, (1, (.k (.int .u32 1634760805)))), (1, (1, (.k (.int .u32 857760878)))), (2, (1, (.k (.int .u32 2036477234)))), (3, (1, (.k (.int .u32 1797285236))))]))⟩ (.cons ⟨none, (.w (some 7) (.alo 86 (.int .u32 0) (List.replicate 16 (.int .u32 0))))⟩ (.cons ⟨none, (.w none (.sta 16 (.t 7) (.t 10)))⟩ .nil)))) (.seq (.seq (.reg [] (.cons ⟨none, (.s 11 (.mv (.k (.int .i64 0))))⟩ .nil)) (.block 0 (.loop (.seq (.reg [] (.cons ⟨none, (.s 12 (.bin .lss (.t 11) (.k (.int .i64 8))))⟩ .nil)) (.seq (.cond (.t 12) .skip (.exit 0)) (.seq (.block 1 (.seq (.reg [] (.cons ⟨none, (.s 13 (.mv (.t 11)))⟩ (.cons ⟨none, (.s 8 (.mv (.t 13)))⟩ .nil))) (.reg [] (.cons ⟨none, (.s 14 (.mv (.t 8)))⟩ (.cons ⟨none, (.s 15 (.bin .add (.k (.int .i64 4)) (.t 14)))⟩ (.cons ⟨none, (.s 16 (.mv (.t 8)))⟩ (.cons ⟨none, (.s 17 (.bin .mul (.k (.int .i64 4)) (.t 16)))⟩ (.cons ⟨none, (.s 18 (.sla 32 1 (.t 3) (some (.t 17)) none none))⟩ (.cons ⟨none, (.call (some 19) 68 [(.t 18)])⟩ (.cons ⟨none, (.s 20 (.ia 16 1 (.t 7) (.t 15)))⟩ (.cons ⟨none, (.w none (.st (.t 20) (.t 19)))⟩ .nil))))))))))) (.reg [] (.cons ⟨none, (.s 21 (.bin .add (.t 11) (.k (.int .i64 1))))⟩ (.cons ⟨none, (.s 11 (.mv (.t 21)))⟩ .nil))))))))) (.seq (.reg [] (.cons ⟨none, (.s 22 (.mv (.t 1)))⟩ (.cons ⟨none, (.s 23 (.ia 16 1 (.t 7) (.k (.int .i64 12))))⟩ (.cons ⟨none, (.w none (.st (.t 23) (.t 22)))⟩ .nil)))) (.seq (.seq (.reg [] (.cons ⟨none, (.s 24 (.mv (.k (.int .i64 0))))⟩ .nil)) (.block 2 (.loop (.seq (.reg [] (.cons ⟨none, (.s 25 (.bin .lss (.t 24) (.k (.int .i64 3))))⟩ .nil)) (.seq (.cond (.t 25) .skip (.exit 2)) (.seq (.block 3 (.seq (.reg [] (.cons ⟨none, (.s 26 (.mv (.t 24)))⟩ (.cons ⟨none, (.s 9 (.mv (.t 26)))⟩ .nil))) (.reg [] (.cons ⟨none, (.s 27 (.mv (.t 9)))⟩ (.cons ⟨none, (.s 28 (.bin .add (.k (.int .i64 13)) (.t 27)))⟩ (.cons ⟨none, (.s 29 (.mv (.t 9)))⟩ (.cons ⟨none, (.s 30 (.bin .mul (.k (.int .i64 4)) (.t 29)))⟩ (.cons ⟨none, (.s 31 (.sla 12 1 (.t 5) (some (.t 30)) none none))⟩ (.cons ⟨none, (.call (some 32) 68 [(.t 31)])⟩ (.cons ⟨none, (.s 33 (.ia 16 1 (.t 7) (.t 28)))⟩ (.cons ⟨none, (.w none (.st (.t 33) (.t 32)))⟩ .nil))))))))))) (.reg [] (.cons ⟨none, (.s 34 (.bin .add (.t 24) (.k (.int .i64 1))))⟩ (.cons ⟨none, (.s 24 (.mv (.t 34)))⟩ .nil))))))))) (.seq (.reg [] (.cons ⟨none, (.r 35 (.lda 16 (.t 7)))⟩ (.cons ⟨none, (.w none (.sta 16 (.t 6) (.t 35)))⟩ .nil))) .ret)))))), [(.cell true 16 (.bool false) 6)]⟩
theorem low_chacha_begin : lowF Try.prog Try.f57 = some ir_chacha_begin.strip := by kernel_rfl
theorem ok_chacha_begin {fu : Nat} {key_ : List Int} {counter_ : Int} {nonce_ : List Int} {l9001 : List Int} (h : fn_chacha_begin fu key_ counter_ nonce_ = some l9001) :
  EV.Fn Try.prog 57 [.g (flat [.i .u8 key_]), ib .u32 counter_, .g (flat [.i .u8 nonce_])] [] [] (fun v u nw => v = .g (flat [.i .u32 l9001]) ∧ u = [] ∧ nw = [] ∧ (l9001.length = 16)) := by
 have key : EV.Fn Try.prog 57 [.g (flat [.i .u8 key_]), ib .u32 counter_, .g (flat [.i .u8 nonce_])] [] [] (fun v u nw => v = .g (flat [.i .u32 l9001]) ∧ u = [] ∧ nw = [] ∧ (l9001.length = 16)) := by
  unfold fn_chacha_begin at h
  refine d_fn (i := ir_chacha_begin) (fn := Try.f57) (sl0 := [(0, .g (flat [.i .u8 key_])), (1, ib .u32 counter_), (2, .g (flat [.i .u8 nonce_]))]) (hp0 := []) (by kernel_rfl) low_chacha_begin mo rfl rfl rfl fun F z0 => ?_
  dsimp only [ir_chacha_begin]
  refine gd_e h fun Xh_key_ h => ?_
  refine gd_e h fun Xh_nonce_ h => ?_
  refine wpC_seq ?_
  refine d_reg rfl ?_
  refine d_box rfl (fun _ => trivial) rfl fun kb1 kz2 => ?_
  refine d_box rfl (fun _ => trivial) rfl fun kb3 kz4 => ?_
  refine d_alo (g := [.i .u32 (List.replicate 16 0)]) (zeros_flat _ _ _) (fun _ => trivial) fun kb5 kz6 => ?_
  refine wpI_nil ?_
  refine seqK_n ?_
  refine wpC_seq ?_
  refine d_reg rfl ?_
  refine d_bld (g := [.i .u32 [1634760805, 857760878, 2036477234, 1797285236, 0, 0, 0, 0, 0, 0, 0, 0, 0, 0, 0, 0]]) (by rfl) ?_
  refine d_alo (g := [.i .u32 (List.replicate 16 0)]) (zeros_flat _ _ _) (fun _ => trivial) fun kb7 kz8 => ?_
  refine d_sta 0 rfl rfl rfl rfl rfl rfl (by simp only [flen, List.length_replicate]) rfl rfl trivial ?_
  refine wpI_nil ?_
  refine seqK_n ?_
  refine wpC_seq ?_
  refine wpC_seq ?_
  refine d_reg rfl ?_
  refine wpI_s rfl trivial ?_
  refine wpI_nil ?_
  refine seqK_n ?_
  refine wpC_block ?_
  refine bind_e h fun o16 h hko16 => ?_
  refine d_loop (fun (z : List Int × Int × Nat) => match z with | (l9, x11, kz12) => (l9, x11)) (fun (z : List Int × Int × Nat) => (match z with | (l9, x11, kz12) => ⟨[(1, ib .u32 counter_), (3, .c (.p 100 kb1 0)), (5, .c (.p 101 kb3 0)), (6, .c (.p 102 kb5 0)), (7, .c (.p 103 kb7 0)), (11, ib .i64 x11)], [⟨100, kb1, 23, false, (0, 0), (.v (.int .u8 0)), flat [.i .u8 key_]⟩, ⟨101, kb3, 46, false, (0, 0), (.v (.int .u8 0)), flat [.i .u8 nonce_]⟩, ⟨102, kb5, 86, false, (0, 0), (.v (.int .u32 0)), flat [.i .u32 (List.replicate 16 0)]⟩, ⟨103, kb7, 86, false, (0, 0), (.v (.int .u32 0)), flat [.i .u32 l9]⟩], 104, kz12⟩ : St)) (fun (z : List Int × Int × Nat) => match z with | (l9, x11, kz12) => (l9.length = 16)) ([1634760805, 857760878, 2036477234, 1797285236, 0, 0, 0, 0, 0, 0, 0, 0, 0, 0, 0, 0], 0, kz8) [100, 101, 102, 103] h rfl (leS2_c rfl rfl (leS2_c rfl rfl (leS2_c rfl rfl (leS2_c rfl rfl (leS2_c rfl rfl (leS2_c rfl rfl leS2_n)))))) (leH2_c rfl rfl rfl rfl rfl rfl (leH2_c rfl rfl rfl rfl rfl rfl (leH2_c rfl rfl rfl rfl rfl rfl (leH2_c rfl rfl rfl rfl rfl rfl leH2_n)))) rfl rfl ?_
  rintro rec ⟨l9, x11, kz12⟩ h10 h
  show wpC _ _ _ _ _ (St.mk _ _ _ _)
  unfold fn_chacha_begin_l1 at h; try dsimp only at h
  refine wpC_seq ?_
  refine d_reg rfl ?_
  refine d_b rfl trivial h fun t17 h => ?_
  refine wpI_nil ?_
  refine seqK_n ?_
  refine wpC_seq ?_
  refine d_cond rfl h (fun h => ?_) (fun h => ?_)
  ·refine wpC_skip ?_
   refine seqK_n ?_
   refine wpC_seq ?_
   refine wpC_block ?_
   refine wpC_seq ?_
   refine d_reg rfl ?_
   refine wpI_s rfl trivial ?_
   refine wpI_s rfl trivial ?_
   refine wpI_nil ?_
   refine seqK_n ?_
   refine d_reg rfl ?_
   refine wpI_s rfl trivial ?_
   refine d_n rfl trivial h fun x18 h => ?_
   refine wpI_s rfl trivial ?_
   refine d_n rfl trivial h fun x19 h => ?_
   refine gd_e h fun g20 h => ?_
   refine d_sla rfl rfl rfl g20 fun ko21 kc22 h23 h24 => ?_
   replace h23 : 0 < (32 - x19.toNat) → 0 + x19.toNat = ko21 := by intro h0; have := h23 (by omega); omega
   replace h24 : (32 - x19.toNat) ≤ kc22 := by omega
   have h25 : x19.toNat + (32 - x19.toNat) ≤ 32 := by have := g20; omega
   refine bind_e h fun x32 ho31 h => ?_
   obtain ⟨kp26, kq27, hw28, hp29⟩ := win_eq (g := [.i .u8 key_]) (j := 0) (kd := .u8) (l := key_) (q := x19.toNat) (n := (32 - x19.toNat)) (p := 0) rfl (by rw [Xh_key_]; first | exact h25 | (rw [Nat.zero_add]; exact h25)) rfl
   refine d_call (ok_chacha_word (i0 := 100)  (X0b := kb1) (X0ty := 23) (X0pr := kp26) (X0ps := kq27) (X0o := ko21) (X0c := kc22) (X0n := (32 - x19.toNat)) (X0l := (sub_len (by rw [Xh_key_]; first | exact h25 | (rw [Nat.zero_add]; exact h25))).symm) (X0S := (fun h0 => hp29.trans (h23 h0))) (X0C := h24) (h := ho31)) rfl rfl haveRw_n (haveRo_c rfl hw28 haveRo_n) (own_of rfl) ?_
   rintro _ _ _ kz33 ⟨rfl, rfl, rfl⟩
   refine ⟨_, rfl, trivial, ?_⟩
   refine gd_e h fun g34 h => ?_
   refine wpI_s rfl g34 ?_
   refine d_st 0 (q := x18.toNat) rfl rfl rfl rfl h (ar_offi (x18) rfl) (fun _ => rfl) (fun _ => rfl) (fun _ => trivial) fun l35 h36 h => ?_
   refine wpI_nil ?_
   refine blockK_n ?_
   refine seqK_n ?_
   refine d_reg rfl ?_
   refine d_n rfl trivial h fun x37 h => ?_
   refine wpI_s rfl trivial ?_
   refine wpI_nil ?_
   refine lpK_n (l35, x37, kz33) [100, 101, 102, 103] (h36.trans h10) h (leS2_c rfl rfl (leS2_c rfl rfl (leS2_c rfl rfl (leS2_c rfl rfl (leS2_c rfl rfl (leS2_c rfl rfl leS2_n)))))) (leH2_c rfl rfl rfl rfl rfl rfl (leH2_c rfl rfl rfl rfl rfl rfl (leH2_c rfl rfl rfl rfl rfl rfl (leH2_c rfl rfl rfl rfl rfl rfl leH2_n)))) rfl rfl
  ·refine wpC_exit ?_
   refine seqK_x ?_
   obtain rfl := Option.some.inj h
   have h := hko16; clear hko16; try dsimp only at h
   refine lpK_x ?_
   refine blockK_x ?_
   refine seqK_n ?_
   refine wpC_seq ?_
   refine d_reg rfl ?_
   refine wpI_s rfl trivial ?_
   refine wpI_s rfl (by decide) ?_
   refine d_st 0 (q := 12) rfl rfl rfl rfl h (ar_offi (12) rfl) (fun _ => rfl) (fun _ => rfl) (fun _ => trivial) fun l38 h39 h => ?_
   refine wpI_nil ?_
   refine seqK_n ?_
   refine wpC_seq ?_
   refine wpC_seq ?_
   refine d_reg rfl ?_
   refine wpI_s rfl trivial ?_
   refine wpI_nil ?_
   refine seqK_n ?_
   refine wpC_block ?_
   refine bind_e h fun o47 h hko47 => ?_
   refine d_loop (fun (z : List Int × Int × Nat) => match z with | (l40, x42, kz43) => (l40, x42)) (fun (z : List Int × Int × Nat) => (match z with | (l40, x42, kz43) => ⟨[(5, .c (.p 101 kb3 0)), (6, .c (.p 102 kb5 0)), (7, .c (.p 103 kb7 0)), (24, ib .i64 x42)], [⟨101, kb3, 46, false, (0, 0), (.v (.int .u8 0)), flat [.i .u8 nonce_]⟩, ⟨102, kb5, 86, false, (0, 0), (.v (.int .u32 0)), flat [.i .u32 (List.replicate 16 0)]⟩, ⟨103, kb7, 86, false, (0, 0), (.v (.int .u32 0)), flat [.i .u32 l40]⟩], 104, kz43⟩ : St)) (fun (z : List Int × Int × Nat) => match z with | (l40, x42, kz43) => (l40.length = 16)) (l38, 0, kz12) [101, 102, 103] h (h39.trans h10) (leS2_c rfl rfl (leS2_c rfl rfl (leS2_c rfl rfl (leS2_c rfl rfl leS2_n)))) (leH2_c rfl rfl rfl rfl rfl rfl (leH2_c rfl rfl rfl rfl rfl rfl (leH2_c rfl rfl rfl rfl rfl rfl leH2_n))) rfl rfl ?_
   rintro rec ⟨l40, x42, kz43⟩ h41 h
   show wpC _ _ _ _ _ (St.mk _ _ _ _)
   unfold fn_chacha_begin_l2 at h; try dsimp only at h
   refine wpC_seq ?_
   refine d_reg rfl ?_
   refine d_b rfl trivial h fun t48 h => ?_
   refine wpI_nil ?_
   refine seqK_n ?_
   refine wpC_seq ?_
   refine d_cond rfl h (fun h => ?_) (fun h => ?_)
   ·refine wpC_skip ?_
    refine seqK_n ?_
    refine wpC_seq ?_
    refine wpC_block ?_
    refine wpC_seq ?_
    refine d_reg rfl ?_
    refine wpI_s rfl trivial ?_
    refine wpI_s rfl trivial ?_
    refine wpI_nil ?_
    refine seqK_n ?_
    refine d_reg rfl ?_
    refine wpI_s rfl trivial ?_
    refine d_n rfl trivial h fun x49 h => ?_
    refine wpI_s rfl trivial ?_
    refine d_n rfl trivial h fun x50 h => ?_
    refine gd_e h fun g51 h => ?_
    refine d_sla rfl rfl rfl g51 fun ko52 kc53 h54 h55 => ?_
    replace h54 : 0 < (12 - x50.toNat) → 0 + x50.toNat = ko52 := by intro h0; have := h54 (by omega); omega
    replace h55 : (12 - x50.toNat) ≤ kc53 := by omega
    have h56 : x50.toNat + (12 - x50.toNat) ≤ 12 := by have := g51; omega
    refine bind_e h fun x63 ho62 h => ?_
    obtain ⟨kp57, kq58, hw59, hp60⟩ := win_eq (g := [.i .u8 nonce_]) (j := 0) (kd := .u8) (l := nonce_) (q := x50.toNat) (n := (12 - x50.toNat)) (p := 0) rfl (by rw [Xh_nonce_]; first | exact h56 | (rw [Nat.zero_add]; exact h56)) rfl
    refine d_call (ok_chacha_word (i0 := 101)  (X0b := kb3) (X0ty := 46) (X0pr := kp57) (X0ps := kq58) (X0o := ko52) (X0c := kc53) (X0n := (12 - x50.toNat)) (X0l := (sub_len (by rw [Xh_nonce_]; first | exact h56 | (rw [Nat.zero_add]; exact h56))).symm) (X0S := (fun h0 => hp60.trans (h54 h0))) (X0C := h55) (h := ho62)) rfl rfl haveRw_n (haveRo_c rfl hw59 haveRo_n) (own_of rfl) ?_
    rintro _ _ _ kz64 ⟨rfl, rfl, rfl⟩
    refine ⟨_, rfl, trivial, ?_⟩
    refine gd_e h fun g65 h => ?_
    refine wpI_s rfl g65 ?_
    refine d_st 0 (q := x49.toNat) rfl rfl rfl rfl h (ar_offi (x49) rfl) (fun _ => rfl) (fun _ => rfl) (fun _ => trivial) fun l66 h67 h => ?_
    refine wpI_nil ?_
    refine blockK_n ?_
    refine seqK_n ?_
    refine d_reg rfl ?_
    refine d_n rfl trivial h fun x68 h => ?_
    refine wpI_s rfl trivial ?_
    refine wpI_nil ?_
    refine lpK_n (l66, x68, kz64) [101, 102, 103] (h67.trans h41) h (leS2_c rfl rfl (leS2_c rfl rfl (leS2_c rfl rfl (leS2_c rfl rfl leS2_n)))) (leH2_c rfl rfl rfl rfl rfl rfl (leH2_c rfl rfl rfl rfl rfl rfl (leH2_c rfl rfl rfl rfl rfl rfl leH2_n))) rfl rfl
   ·refine wpC_exit ?_
    refine seqK_x ?_
    obtain rfl := Option.some.inj h
    have h := hko47; clear hko47; try dsimp only at h
    refine lpK_x ?_
    refine blockK_x ?_
    refine seqK_n ?_
    refine wpC_seq ?_
    refine d_reg rfl ?_
    refine d_lda 0 1 rfl rfl rfl rfl (by simp only [flen, h41]) ?_
    refine d_sta 0 rfl rfl rfl rfl rfl (by simp only [flen, h41]) (by simp only [flen, List.length_replicate]) rfl rfl trivial ?_
    refine wpI_nil ?_
    refine seqK_n ?_
    refine wpC_ret ?_
    obtain rfl := Option.some.inj h
    exact d_ret2 [] [] ⟨rfl, rfl, rfl, h41⟩ (rIs_a 0 1 rfl rfl rfl rfl (by simp only [flen, h41])) leH2_n leH2_n rfl
 exact key.cong rfl blkEq_n blkEq_n

def ir_math_bits_RotateLeft32 : IFn := ⟨17, (.seq (.reg [] (.cons ⟨none, (.s 4 (.mv (.k (.int .u32 0))))⟩ .nil)) (.seq (.reg [] (.cons ⟨none, (.s 6 (.mv (.t 1)))⟩ (.cons ⟨none, (.s 7 (.cv .u64 (.t 6)))⟩ (.cons ⟨none, (.s 8 (.bin .and (.t 7) (.k (.int .u64 31))))⟩ (.cons ⟨none, (.s 5 (.mv (.t 8)))⟩ .nil))))) (.seq (.reg [] (.cons ⟨none, (.s 9 (.mv (.t 0)))⟩ (.cons ⟨none, (.s 10 (.mv (.t 5)))⟩ (.cons ⟨none, (.s 11 (.bin .shl (.t 9) (.t 10)))⟩ (.cons ⟨none, (.s 12 (.mv (.t 0)))⟩ (.cons ⟨none, (.s 13 (.mv (.t 5)))⟩ (.cons ⟨none, (.s 14 (.bin .sub (.k (.int .u64 32)) (.t 13)))⟩ (.cons ⟨none, (.s 15 (.bin .shr (.t 12) (.t 14)))⟩ (.cons ⟨none, (.s 16 (.bin .or (.t 11) (.t 15)))⟩ (.cons ⟨none, (.s 4 (.mv (.t 16)))⟩ .nil)))))))))) .ret))), [(.tmp 4)]⟩
theorem low_math_bits_RotateLeft32 : lowF Try.prog Try.f69 = some ir_math_bits_RotateLeft32.strip := by kernel_rfl
theorem ok_math_bits_RotateLeft32 {fu : Nat} {x_ : Int} {k_ : Int} {x9001 : Int} (h : fn_math_bits_RotateLeft32 fu x_ k_ = some x9001) :
  EV.Fn Try.prog 69 [ib .u32 x_, ib .i64 k_] [] [] (fun v u nw => v = ib .u32 x9001 ∧ u = [] ∧ nw = []) := by
 have key : EV.Fn Try.prog 69 [ib .u32 x_, ib .i64 k_] [] [] (fun v u nw => v = ib .u32 x9001 ∧ u = [] ∧ nw = []) := by
  unfold fn_math_bits_RotateLeft32 at h
  refine d_fn (i := ir_math_bits_RotateLeft32) (fn := Try.f69) (sl0 := [(0, ib .u32 x_), (1, ib .i64 k_)]) (hp0 := []) (by kernel_rfl) low_math_bits_RotateLeft32 mo rfl rfl rfl fun F z0 => ?_
  dsimp only [ir_math_bits_RotateLeft32]
  refine wpC_seq ?_
  refine d_reg rfl ?_
  refine wpI_s rfl trivial ?_
  refine wpI_nil ?_
  refine seqK_n ?_
  refine wpC_seq ?_
  refine d_reg rfl ?_
  refine wpI_s rfl trivial ?_
  refine d_n rfl trivial h fun x1 h => ?_
  refine d_n rfl trivial h fun x2 h => ?_
  refine wpI_s rfl trivial ?_
  refine wpI_nil ?_
  refine seqK_n ?_
  refine wpC_seq ?_
  refine d_reg rfl ?_
  refine wpI_s rfl trivial ?_
  refine wpI_s rfl trivial ?_
  refine gd_e h fun g3 h => ?_
  refine d_n rfl g3 h fun x4 h => ?_
  refine wpI_s rfl trivial ?_
  refine wpI_s rfl trivial ?_
  refine d_n rfl trivial h fun x5 h => ?_
  refine gd_e h fun g6 h => ?_
  refine d_n rfl g6 h fun x7 h => ?_
  refine d_n rfl trivial h fun x8 h => ?_
  refine wpI_s rfl trivial ?_
  refine wpI_nil ?_
  refine seqK_n ?_
  refine wpC_ret ?_
  obtain rfl := Option.some.inj h
  exact d_ret2 [] [] ⟨rfl, rfl, rfl⟩ (rIs_t rfl rfl) leH2_n leH2_n rfl
 exact key.cong rfl blkEq_n blkEq_n

def ir_chacha_quarter : IFn := ⟨126, (.seq (.reg [] (.cons ⟨none, (.s 10 (.mv (.t 0)))⟩ (.cons ⟨none, (.s 11 (.mv (.t 1)))⟩ (.cons ⟨none, (.s 12 (.nil (.t 10)))⟩ (.cons ⟨none, (.s 13 (.ia 16 1 (.t 12) (.t 11)))⟩ (.cons ⟨none, (.r 14 (.ld (.int .u32 0) (.t 13)))⟩ (.cons ⟨none, (.s 15 (.mv (.t 0)))⟩ (.cons ⟨none, (.s 16 (.mv (.t 2)))⟩ (.cons ⟨none, (.s 17 (.nil (.t 15)))⟩ (.cons ⟨none, (.s 18 (.ia 16 1 (.t 17) (.t 16)))⟩ (.cons ⟨none, (.r 19 (.ld (.int .u32 0) (.t 18)))⟩ (.cons ⟨none, (.s 20 (.bin .add (.t 14) (.t 19)))⟩ (.cons ⟨none, (.s 21 (.nil (.t 10)))⟩ (.cons ⟨none, (.s 22 (.ia 16 1 (.t 21) (.t 11)))⟩ (.cons ⟨none, (.w none (.st (.t 22) (.t 20)))⟩ .nil))))))))))))))) (.seq (.reg [] (.cons ⟨none, (.s 23 (.mv (.t 0)))⟩ (.cons ⟨none, (.s 24 (.mv (.t 4)))⟩ (.cons ⟨none, (.s 25 (.mv (.t 0)))⟩ (.cons ⟨none, (.s 26 (.mv (.t 4)))⟩ (.cons ⟨none, (.s 27 (.nil (.t 25)))⟩ (.cons ⟨none, (.s 28 (.ia 16 1 (.t 27) (.t 26)))⟩ (.cons ⟨none, (.r 29 (.ld (.int .u32 0) (.t 28)))⟩ (.cons ⟨none, (.s 30 (.mv (.t 0)))⟩ (.cons ⟨none, (.s 31 (.mv (.t 1)))⟩ (.cons ⟨none, (.s 32 (.nil (.t 30)))⟩ (.cons ⟨none, (.s 33 (.ia 16 1 (.t 32) (.t 31)))⟩ (.cons ⟨none, (.r 34 (.ld (.int .u32 0) (.t 33)))⟩ (.cons ⟨none, (.s 35 (.bin .xor (.t 29) (.t 34)))⟩ (.cons ⟨none, (.call (some 36) 69 [(.t 35), (.k (.int .i64 16))])⟩ (.cons ⟨none, (.s 37 (.nil (.t 23)))⟩ (.cons ⟨none, (.s 38 (.ia 16 1 (.t 37) (.t 24)))⟩ (.cons ⟨none, (.w none (.st (.t 38) (.t 36)))⟩ .nil)))))))))))))))))) (.seq (.reg [] (.cons ⟨none, (.s 39 (.mv (.t 0)))⟩ (.cons ⟨none, (.s 40 (.mv (.t 3)))⟩ (.cons ⟨none, (.s 41 (.nil (.t 39)))⟩ (.cons ⟨none, (.s 42 (.ia 16 1 (.t 41) (.t 40)))⟩ (.cons ⟨none, (.r 43 (.ld (.int .u32 0) (.t 42)))⟩ (.cons ⟨none, (.s 44 (.mv (.t 0)))⟩ (.cons ⟨none, (.s 45 (.mv (.t 4)))⟩ (.cons ⟨none, (.s 46 (.nil (.t 44)))⟩ (.cons ⟨none, (.s 47 (.ia 16 1 (.t 46) (.t 45)))⟩ (.cons ⟨none, (.r 48 (.ld (.int .u32 0) (.t 47)))⟩ (.cons ⟨none, (.s 49 (.bin .add (.t 43) (.t 48)))⟩ (.cons ⟨none, (.s 50 (.nil (.t 39)))⟩ (.cons ⟨none, (.s 51 (.ia 16 1 (.t 50) (.t 40)))⟩ (.cons ⟨none, (.w none (.st (.t 51) (.t 49)))⟩ .nil))))))))))))))) (.seq (.reg [] (.cons ⟨none, (.s 52 (.mv (.t 0)))⟩ (.cons ⟨none, (.s 53 (.mv (.t 2)))⟩ (.cons ⟨none, (.s 54 (.mv (.t 0)))⟩ (.cons ⟨none, (.s 55 (.mv (.t 2)))⟩ (.cons ⟨none, (.s 56 (.nil (.t 54)))⟩ (.cons ⟨none, (.s 57 (.ia 16 1 (.t 56) (.t 55)))⟩ (.cons ⟨none, (.r 58 (.ld (.int .u32 0) (.t 57)))⟩ (.cons ⟨none, (.s 59 (.mv (.t 0)))⟩ (.cons ⟨none, (.s 60 (.mv (.t 3)))⟩ (.cons ⟨none, (.s 61 (.nil (.t 59)))⟩ (.cons ⟨none, (.s 62 (.ia 16 1 (.t 61) (.t 60)))⟩ (.cons ⟨none, (.r 63 (.ld (.int .u32 0) (.t 62)))⟩ (.cons ⟨none, (.s 64 (.bin .xor (.t 58) (.t 63)))⟩ (.cons ⟨none, (.call (some 65) 69 [(.t 64), (.k (.int .i64 12))])⟩ (.cons ⟨none, (.s 66 (.nil (.t 52)))⟩ (.cons ⟨none, (.s 67 (.ia 16 1 (.t 66) (.t 53)))⟩ (.cons ⟨none, (.w none (.st (.t 67) (.t 65)))⟩ .nil)))))))))))))))))) (.seq (.reg [] (.cons ⟨none, (.s 68 (.mv (.t 0)))⟩ (.cons ⟨none, (.s 69 (.mv (.t 1)))⟩ (.cons ⟨none, (.s 70 (.nil (.t 68)))⟩ (.cons ⟨none, (.s 71 (.ia 16 1 (.t 70) (.t 69)))⟩ (.cons ⟨none, (.r 72 (.ld (.int .u32 0) (.t 71)))⟩ (.cons ⟨none, (.s 73 (.mv (.t 0)))⟩ (.cons ⟨none, (.s 74 (.mv (.t 2)))⟩ (.cons ⟨none, (.s 75 (.nil (.t 73)))⟩ (.cons ⟨none, (.s 76 (.ia 16 1 (.t 75) (.t 74)))⟩ (.cons ⟨none, (.r 77 (.ld (.int .u32 0) (.t 76)))⟩ (.cons ⟨none, (.s 78 (.bin .add (.t 72) (.t 77)))⟩ (.cons ⟨none, (.s 79 (.nil (.t 68)))⟩ (.cons ⟨none, (.s 80 (.ia 16 1 (.t 79) (.t 69)))⟩ (.cons ⟨none, (.w none (.st (.t 80) (.t 78)))⟩ .nil))))))))))))))) (.seq (.reg [] (.cons ⟨none, (.s 81 (.mv (.t 0)))⟩ (.cons ⟨none, (.s 82 (.mv (.t 4)))⟩ (.cons ⟨none, (.s 83 (.mv (.t 0)))⟩ (.cons ⟨none, (.s 84 (.mv (.t 4)))⟩ (.cons ⟨none, (.s 85 (.nil (.t 83)))⟩ (.cons ⟨none, (.s 86 (.ia 16 1 (.t 85) (.t 84)))⟩ (.cons ⟨none, (.r 87 (.ld (.int .u32 0) (.t 86)))⟩ (.cons ⟨none, (.s 88 (.mv (.t 0)))⟩ (.cons ⟨none, (.s 89 (.mv (.t 1)))⟩ (.cons ⟨none, (.s 90 (.nil (.t 88)))⟩ (.cons ⟨none, (.s 91 (.ia 16 1 (.t 90) (.t 89)))⟩ (.cons ⟨none, (.r 92 (.ld (.int .u32 0) (.t 91)))⟩ (.cons ⟨none, (.s 93 (.bin .xor (.t 87) (.t 92)))⟩ (.cons ⟨none, (.call (some 94) 69 [(.t 93), (.k (.int .i64 8))])⟩ (.cons ⟨none, (.s 95 (.nil (.t 81)))⟩ (.cons ⟨none, (.s 96 (.ia 16 1 (.t 95) (.t 82)))⟩ (.cons ⟨none, (.w none (.st (.t 96) (.t 94)))⟩ .nil)))))))))))))))))) (.seq (.reg [] (.cons ⟨none, (.s 97 (.mv (.t 0)))⟩ (.cons ⟨none, (.s 98 (.mv (.t 3)))⟩ (.cons ⟨none, (.s 99 (.nil (.t 97)))⟩ (.cons ⟨none, (.s 100 (.ia 16 1 (.t 99) (.t 98)))⟩ (.cons ⟨none, (.r 101 (.ld (.int .u32 0) (.t 100)))⟩ (.cons ⟨none, (.s 102 (.mv (.t 0)))⟩ (.cons ⟨none, (.s 103 (.mv (.t 4)))⟩ (.cons ⟨none, (.s 104 (.nil (.t 102)))⟩ (.cons ⟨none, (.s 105 (.ia 16 1 (.t 104) (.t 103)))⟩ (.cons ⟨none, (.r 106 (.ld (.int .u32 0) (.t 105)))⟩ (.cons ⟨none, (.s 107 (.bin .add (.t 101) (.t 106)))⟩ (.cons ⟨none, (.s 108 (.nil (.t 97)))⟩ (.cons ⟨none, (.s 109 (.ia 16 1 (.t 108) (.t 98)))⟩ (.cons ⟨none, (.w none (.st (.t 109) (.t 107)))⟩ .nil))))))))))))))) (.reg [] (.cons ⟨none, (.s 110 (.mv (.t 0)))⟩ (.cons ⟨none, (.s 111 (.mv (.t 2)))⟩ (.cons ⟨none, (.s 112 (.mv (.t 0)))⟩ (.cons ⟨none, (.s 113 (.mv (.t 2)))⟩ (.cons ⟨none, (.s 114 (.nil (.t 112)))⟩ (.cons ⟨none, (.s 115 (.ia 16 1 (.t 114) (.t 113)))⟩ (.cons ⟨none, (.r 116 (.ld (.int .u32 0) (.t 115)))⟩ (.cons ⟨none, (.s 117 (.mv (.t 0)))⟩ (.cons ⟨none, (.s 118 (.mv (.t 3)))⟩ (.cons ⟨none, (.s 119 (.nil (.t 117)))⟩ (.cons ⟨none, (.s 120 (.ia 16 1 (.t 119) (.t 118)))⟩ (.cons ⟨none, (.r 121 (.ld (.int .u32 0) (.t 120)))⟩ (.cons ⟨none, (.s 122 (.bin .xor (.t 116) (.t 121)))⟩ (.cons ⟨none, (.call (some 123) 69 [(.t 122), (.k (.int .i64 7))])⟩ (.cons ⟨none, (.s 124 (.nil (.t 110)))⟩ (.cons ⟨none, (.s 125 (.ia 16 1 (.t 124) (.t 111)))⟩ (.cons ⟨none, (.w none (.st (.t 125) (.t 123)))⟩ .nil))))))))))))))))))))))))), []⟩
theorem low_chacha_quarter : lowF Try.prog Try.f58 = some ir_chacha_quarter.strip := by kernel_rfl
theorem ok_chacha_quarter {fu : Nat} (i0 : Nat) {X0b : Nat} {X0ty : Nat} {s_ : List Int} {a_ : Int} {b_ : Int} {c_ : Int} {d_ : Int} {l9001 : List Int} (h : fn_chacha_quarter fu s_ a_ b_ c_ d_ = some l9001) :
  EV.Fn Try.prog 58 [.c (.p 0 X0b 0), ib .i64 a_, ib .i64 b_, ib .i64 c_, ib .i64 d_] [⟨i0, X0b, X0ty, false, (0, 0), (.v undef), flat [.i .u32 s_]⟩] [] (fun v u nw => v = .t0 ∧ u = [flat [.i .u32 l9001]] ∧ nw = [] ∧ (l9001.length = 16)) := by
 have key : EV.Fn Try.prog 58 [.c (.p 0 X0b 0), ib .i64 a_, ib .i64 b_, ib .i64 c_, ib .i64 d_] [⟨0, X0b, X0ty, false, (0, 0), (.v undef), flat [.i .u32 s_]⟩] [] (fun v u nw => v = .t0 ∧ u = [flat [.i .u32 l9001]] ∧ nw = [] ∧ (l9001.length = 16)) := by
  unfold fn_chacha_quarter at h
  refine d_fn (i := ir_chacha_quarter) (fn := Try.f58) (sl0 := [(0, .c (.p 0 X0b 0)), (1, ib .i64 a_), (2, ib .i64 b_), (3, ib .i64 c_), (4, ib .i64 d_)]) (hp0 := [⟨0, X0b, X0ty, false, (0, 0), (.v undef), flat [.i .u32 s_]⟩]) (by kernel_rfl) low_chacha_quarter mo rfl rfl rfl fun F z0 => ?_
  dsimp only [ir_chacha_quarter]
  refine gd_e h fun Xh_s_ h => ?_
  refine wpC_seq ?_
  refine d_reg rfl ?_
  refine wpI_s rfl trivial ?_
  refine wpI_s rfl trivial ?_
  refine wpI_s rfl trivial ?_
  refine gd_e h fun g1 h => ?_
  refine wpI_s rfl g1 ?_
  refine d_ld 0 (q := a_.toNat) rfl rfl rfl h (ar_offi (a_) rfl) fun x2 h => ?_
  refine wpI_s rfl trivial ?_
  refine wpI_s rfl trivial ?_
  refine wpI_s rfl trivial ?_
  refine gd_e h fun g3 h => ?_
  refine wpI_s rfl g3 ?_
  refine d_ld 0 (q := b_.toNat) rfl rfl rfl h (ar_offi (b_) rfl) fun x4 h => ?_
  refine d_n rfl trivial h fun x5 h => ?_
  refine wpI_s rfl trivial ?_
  refine gd_e h fun g6 h => ?_
  refine wpI_s rfl g6 ?_
  refine d_st 0 (q := a_.toNat) rfl rfl rfl rfl h (ar_offi (a_) rfl) (fun _ => rfl) (fun _ => rfl) (fun _ => trivial) fun l7 h8 h => ?_
  refine wpI_nil ?_
  refine seqK_n ?_
  refine wpC_seq ?_
  refine d_reg rfl ?_
  refine wpI_s rfl trivial ?_
  refine wpI_s rfl trivial ?_
  refine wpI_s rfl trivial ?_
  refine wpI_s rfl trivial ?_
  refine wpI_s rfl trivial ?_
  refine gd_e h fun g9 h => ?_
  refine wpI_s rfl g9 ?_
  refine d_ld 0 (q := d_.toNat) rfl rfl rfl h (ar_offi (d_) rfl) fun x10 h => ?_
  refine wpI_s rfl trivial ?_
  refine wpI_s rfl trivial ?_
  refine wpI_s rfl trivial ?_
  refine gd_e h fun g11 h => ?_
  refine wpI_s rfl g11 ?_
  refine d_ld 0 (q := a_.toNat) rfl rfl rfl h (ar_offi (a_) rfl) fun x12 h => ?_
  refine d_n rfl trivial h fun x13 h => ?_
  refine bind_e h fun x16 ho15 h => ?_
  refine d_call (ok_math_bits_RotateLeft32     (h := ho15)) rfl rfl haveRw_n haveRo_n (own_of rfl) ?_
  rintro _ _ _ kz17 ⟨rfl, rfl, rfl⟩
  refine ⟨_, rfl, trivial, ?_⟩
  refine wpI_s rfl trivial ?_
  refine gd_e h fun g18 h => ?_
  refine wpI_s rfl g18 ?_
  refine d_st 0 (q := d_.toNat) rfl rfl rfl rfl h (ar_offi (d_) rfl) (fun _ => rfl) (fun _ => rfl) (fun _ => trivial) fun l19 h20 h => ?_
  refine wpI_nil ?_
  refine seqK_n ?_
  refine wpC_seq ?_
  refine d_reg rfl ?_
  refine wpI_s rfl trivial ?_
  refine wpI_s rfl trivial ?_
  refine wpI_s rfl trivial ?_
  refine gd_e h fun g21 h => ?_
  refine wpI_s rfl g21 ?_
  refine d_ld 0 (q := c_.toNat) rfl rfl rfl h (ar_offi (c_) rfl) fun x22 h => ?_
  refine wpI_s rfl trivial ?_
  refine wpI_s rfl trivial ?_
  refine wpI_s rfl trivial ?_
  refine gd_e h fun g23 h => ?_
  refine wpI_s rfl g23 ?_
  refine d_ld 0 (q := d_.toNat) rfl rfl rfl h (ar_offi (d_) rfl) fun x24 h => ?_
  refine d_n rfl trivial h fun x25 h => ?_
  refine wpI_s rfl trivial ?_
  refine gd_e h fun g26 h => ?_
  refine wpI_s rfl g26 ?_
  refine d_st 0 (q := c_.toNat) rfl rfl rfl rfl h (ar_offi (c_) rfl) (fun _ => rfl) (fun _ => rfl) (fun _ => trivial) fun l27 h28 h => ?_
  refine wpI_nil ?_
  refine seqK_n ?_
  refine wpC_seq ?_
  refine d_reg rfl ?_
  refine wpI_s rfl trivial ?_
  refine wpI_s rfl trivial ?_
  refine wpI_s rfl trivial ?_
  refine wpI_s rfl trivial ?_
  refine wpI_s rfl trivial ?_
  refine gd_e h fun g29 h => ?_
  refine wpI_s rfl g29 ?_
  refine d_ld 0 (q := b_.toNat) rfl rfl rfl h (ar_offi (b_) rfl) fun x30 h => ?_
  refine wpI_s rfl trivial ?_
  refine wpI_s rfl trivial ?_
  refine wpI_s rfl trivial ?_
  refine gd_e h fun g31 h => ?_
  refine wpI_s rfl g31 ?_
  refine d_ld 0 (q := c_.toNat) rfl rfl rfl h (ar_offi (c_) rfl) fun x32 h => ?_
  refine d_n rfl trivial h fun x33 h => ?_
  refine bind_e h fun x36 ho35 h => ?_
  refine d_call (ok_math_bits_RotateLeft32     (h := ho35)) rfl rfl haveRw_n haveRo_n (own_of rfl) ?_
  rintro _ _ _ kz37 ⟨rfl, rfl, rfl⟩
  refine ⟨_, rfl, trivial, ?_⟩
  refine wpI_s rfl trivial ?_
  refine gd_e h fun g38 h => ?_
  refine wpI_s rfl g38 ?_
  refine d_st 0 (q := b_.toNat) rfl rfl rfl rfl h (ar_offi (b_) rfl) (fun _ => rfl) (fun _ => rfl) (fun _ => trivial) fun l39 h40 h => ?_
  refine wpI_nil ?_
  refine seqK_n ?_
  refine wpC_seq ?_
  refine d_reg rfl ?_
  refine wpI_s rfl trivial ?_
  refine wpI_s rfl trivial ?_
  refine wpI_s rfl trivial ?_
  refine gd_e h fun g41 h => ?_
  refine wpI_s rfl g41 ?_
  refine d_ld 0 (q := a_.toNat) rfl rfl rfl h (ar_offi (a_) rfl) fun x42 h => ?_
  refine wpI_s rfl trivial ?_
  refine wpI_s rfl trivial ?_
  refine wpI_s rfl trivial ?_
  refine gd_e h fun g43 h => ?_
  refine wpI_s rfl g43 ?_
  refine d_ld 0 (q := b_.toNat) rfl rfl rfl h (ar_offi (b_) rfl) fun x44 h => ?_
  refine d_n rfl trivial h fun x45 h => ?_
  refine wpI_s rfl trivial ?_
  refine gd_e h fun g46 h => ?_
  refine wpI_s rfl g46 ?_
  refine d_st 0 (q := a_.toNat) rfl rfl rfl rfl h (ar_offi (a_) rfl) (fun _ => rfl) (fun _ => rfl) (fun _ => trivial) fun l47 h48 h => ?_
  refine wpI_nil ?_
  refine seqK_n ?_
  refine wpC_seq ?_
  refine d_reg rfl ?_
  refine wpI_s rfl trivial ?_
  refine wpI_s rfl trivial ?_
  refine wpI_s rfl trivial ?_
  refine wpI_s rfl trivial ?_
  refine wpI_s rfl trivial ?_
  refine gd_e h fun g49 h => ?_
  refine wpI_s rfl g49 ?_
  refine d_ld 0 (q := d_.toNat) rfl rfl rfl h (ar_offi (d_) rfl) fun x50 h => ?_
  refine wpI_s rfl trivial ?_
  refine wpI_s rfl trivial ?_
  refine wpI_s rfl trivial ?_
  refine gd_e h fun g51 h => ?_
  refine wpI_s rfl g51 ?_
  refine d_ld 0 (q := a_.toNat) rfl rfl rfl h (ar_offi (a_) rfl) fun x52 h => ?_
  refine d_n rfl trivial h fun x53 h => ?_
  refine bind_e h fun x56 ho55 h => ?_
  refine d_call (ok_math_bits_RotateLeft32     (h := ho55)) rfl rfl haveRw_n haveRo_n (own_of rfl) ?_
  rintro _ _ _ kz57 ⟨rfl, rfl, rfl⟩
  refine ⟨_, rfl, trivial, ?_⟩
  refine wpI_s rfl trivial ?_
  refine gd_e h fun g58 h => ?_
  refine wpI_s rfl g58 ?_
  refine d_st 0 (q := d_.toNat) rfl rfl rfl rfl h (ar_offi (d_) rfl) (fun _ => rfl) (fun _ => rfl) (fun _ => trivial) fun l59 h60 h => ?_
  refine wpI_nil ?_
  refine seqK_n ?_
  refine wpC_seq ?_
  refine d_reg rfl ?_
  refine wpI_s rfl trivial ?_
  refine wpI_s rfl trivial ?_
  refine wpI_s rfl trivial ?_
  refine gd_e h fun g61 h => ?_
  refine wpI_s rfl g61 ?_
  refine d_ld 0 (q := c_.toNat) rfl rfl rfl h (ar_offi (c_) rfl) fun x62 h => ?_
  refine wpI_s rfl trivial ?_
  refine wpI_s rfl trivial ?_
  refine wpI_s rfl trivial ?_
  refine gd_e h fun g63 h => ?_
  refine wpI_s rfl g63 ?_
  refine d_ld 0 (q := d_.toNat) rfl rfl rfl h (ar_offi (d_) rfl) fun x64 h => ?_
  refine d_n rfl trivial h fun x65 h => ?_
  refine wpI_s rfl trivial ?_
  refine gd_e h fun g66 h => ?_
  refine wpI_s rfl g66 ?_
  refine d_st 0 (q := c_.toNat) rfl rfl rfl rfl h (ar_offi (c_) rfl) (fun _ => rfl) (fun _ => rfl) (fun _ => trivial) fun l67 h68 h => ?_
  refine wpI_nil ?_
  refine seqK_n ?_
  refine d_reg rfl ?_
  refine wpI_s rfl trivial ?_
  refine wpI_s rfl trivial ?_
  refine wpI_s rfl trivial ?_
  refine wpI_s rfl trivial ?_
  refine wpI_s rfl trivial ?_
  refine gd_e h fun g69 h => ?_
  refine wpI_s rfl g69 ?_
  refine d_ld 0 (q := b_.toNat) rfl rfl rfl h (ar_offi (b_) rfl) fun x70 h => ?_
  refine wpI_s rfl trivial ?_
  refine wpI_s rfl trivial ?_
  refine wpI_s rfl trivial ?_
  refine gd_e h fun g71 h => ?_
  refine wpI_s rfl g71 ?_
  refine d_ld 0 (q := c_.toNat) rfl rfl rfl h (ar_offi (c_) rfl) fun x72 h => ?_
  refine d_n rfl trivial h fun x73 h => ?_
  refine bind_e h fun x76 ho75 h => ?_
  refine d_call (ok_math_bits_RotateLeft32     (h := ho75)) rfl rfl haveRw_n haveRo_n (own_of rfl) ?_
  rintro _ _ _ kz77 ⟨rfl, rfl, rfl⟩
  refine ⟨_, rfl, trivial, ?_⟩
  refine wpI_s rfl trivial ?_
  refine gd_e h fun g78 h => ?_
  refine wpI_s rfl g78 ?_
  refine d_st 0 (q := b_.toNat) rfl rfl rfl rfl h (ar_offi (b_) rfl) (fun _ => rfl) (fun _ => rfl) (fun _ => trivial) fun l79 h80 h => ?_
  refine wpI_nil ?_
  obtain rfl := Option.some.inj h
  exact d_ret2n [0] [] ⟨rfl, rfl, rfl, (h80.trans (h68.trans (h60.trans (h48.trans (h40.trans (h28.trans (h20.trans (h8.trans Xh_s_))))))))⟩ rfl (leH2_c rfl rfl rfl rfl rfl rfl leH2_n) leH2_n rfl
 exact key.cong rfl (blkEq_c rfl rfl rfl rfl blkEq_n) blkEq_n

def ir_chacha_Block : IFn := ⟨73, (.seq (.reg [] (.cons ⟨none, (.w (some 3) (.box 23 32 (.int .u8 0) (.t 0)))⟩ (.cons ⟨none, (.w (some 5) (.box 46 12 (.int .u8 0) (.t 2)))⟩ (.cons ⟨none, (.w (some 6) (.alo 75 (.int .u8 0) (List.replicate 64 (.int .u8 0))))⟩ .nil)))) (.seq (.reg [] (.cons ⟨none, (.r 13 (.lda 32 (.t 3)))⟩ (.cons ⟨none, (.s 14 (.mv (.t 1)))⟩ (.cons ⟨none, (.s 15 (.cv .u32 (.t 14)))⟩ (.cons ⟨none, (.r 16 (.lda 12 (.t 5)))⟩ (.cons ⟨none, (.call (some 17) 57 [(.t 13), (.t 15), (.t 16)])⟩ (.cons ⟨none, (.w (some 7) (.alo 86 (.int .u32 0) (List.replicate 16 (.int .u32 0))))⟩ (.cons ⟨none, (.w none (.sta 16 (.t 7) (.t 17)))⟩ .nil)))))))) (.seq (.reg [] (.cons ⟨none, (.r 18 (.lda 16 (.t 7)))⟩ (.cons ⟨none, (.w (some 8) (.alo 86 (.int .u32 0) (List.replicate 16 (.int .u32 0))))⟩ (.cons ⟨none, (.w none (.sta 16 (.t 8) (.t 18)))⟩ .nil)))) (.seq (.seq (.reg [] (.cons ⟨none, (.s 19 (.mv (.k (.int .i64 0))))⟩ .nil)) (.block 0 (.loop (.seq (.reg [] (.cons ⟨none, (.s 20 (.bin .lss (.t 19) (.k (.int .i64 10))))⟩ .nil)) (.seq (.cond (.t 20) .skip (.exit 0)) (.seq (.block 1 (.seq (.seq (.reg [] (.cons ⟨none, (.s 21 (.mv (.k (.int .i64 0))))⟩ .nil)) (.block 2 (.loop (.seq (.reg [] (.cons ⟨none, (.s 22 (.bin .lss (.t 21) (.k (.int .i64 4))))⟩ .nil)) (.seq (.cond (.t 22) .skip (.exit 2)) (.seq (.block 3 (.seq (.reg [] (.cons ⟨none, (.s 23 (.mv (.t 21)))⟩ (.cons ⟨none, (.s 9 (.mv (.t 23)))⟩ .nil))) (.reg [] (.cons ⟨none, (.s 24 (.mv (.t 9)))⟩ (.cons ⟨none, (.s 25 (.mv (.t 9)))⟩ (.cons ⟨none, (.s 26 (.bin .add (.k (.int .i64 4)) (.t 25)))⟩ (.cons ⟨none, (.s 27 (.mv (.t 9)))⟩ (.cons ⟨none, (.s 28 (.bin .add (.k (.int .i64 8)) (.t 27)))⟩ (.cons ⟨none, (.s 29 (.mv (.t 9)))⟩ (.cons ⟨none, (.s 30 (.bin .add (.k (.int .i64 12)) (.t 29)))⟩ (.cons ⟨none, (.call (some 31) 58 [(.t 8), (.t 24), (.t 26), (.t 28), (.t 30)])⟩ .nil))))))))))) (.reg [] (.cons ⟨none, (.s 32 (.bin .add (.t 21) (.k (.int .i64 1))))⟩ (.cons ⟨none, (.s 21 (.mv (.t 32)))⟩ .nil))))))))) (.seq (.reg [] (.cons ⟨none, (.s 33 (.mv (.k (.int .i64 0))))⟩ .nil)) (.block 4 (.loop (.seq (.reg [] (.cons ⟨none, (.s 34 (.bin .lss (.t 33) (.k (.int .i64 4))))⟩ .nil)) (.seq (.cond (.t 34) .skip (.exit 4)) (.seq (.block 5 (.seq (.reg [] (.cons ⟨none, (.s 35 (.mv (.t 33)))⟩ (.cons ⟨none, (.s 10 (.mv (.t 35)))⟩ .nil))) (.reg [] (.cons ⟨none, (.s 36 (.mv (.t 10)))⟩ (.cons ⟨none, (.s 37 (.mv (.t 10)))⟩ (.cons ⟨none, (.s 38 (.bin .add (.t 37) (.k (.int .i64 1))))⟩ (.cons ⟨none, (.s 39 (.bin .rem (.t 38) (.k (.int .i64 4))))⟩ (.cons ⟨none, (.s 40 (.bin .add (.k (.int .i64 4)) (.t 39)))⟩ (.cons ⟨none, (.s 41 (.mv (.t 10)))⟩ (.cons ⟨none, (.s 42 (.bin .add (.t 41) (.k (.int .i64 2))))⟩ (.cons ⟨none, (.s 43 (.bin .rem (.t 42) (.k (.int .i64 4))))⟩ (.cons ⟨none, (.s 44 (.bin .add (.k (.int .i64 8)) (.t 43)))⟩ (.cons ⟨none, (.s 45 (.mv (.t 10)))⟩ (.cons ⟨none, (.s 46 (.bin .add (.t 45) (.k (.int .i64 3))))⟩ (.cons ⟨none, (.s 47 (.bin .rem (.t 46) (.k (.int .i64 4))))⟩ (.cons ⟨none, (.s 48 (.bin .add (.k (.int .i64 12)) (.t 47)))⟩ (.cons ⟨none, (.call (some 49) 58 [(.t 8), (.t 36), (.t 40), (.t 44), (.t 48)])⟩ .nil))))))))))))))))) (.reg [] (.cons ⟨none, (.s 50 (.bin .add (.t 33) (.k (.int .i64 1))))⟩ (.cons ⟨none, (.s 33 (.mv (.t 50)))⟩ .nil))))))))))) (.reg [] (.cons ⟨none, (.s 51 (.bin .add (.t 19) (.k (.int .i64 1))))⟩ (.cons ⟨none, (.s 19 (.mv (.t 51)))⟩ .nil))))))))) (.seq (.reg [] (.cons ⟨none, (.w (some 11) (.alo 75 (.int .u8 0) (List.replicate 64 (.int .u8 0))))⟩ .nil)) (.seq (.seq (.reg [] (.cons ⟨none, (.s 52 (.mv (.k (.int .i64 0))))⟩ .nil)) (.block 6 (.loop (.seq (.reg [] (.cons ⟨none, (.s 53 (.bin .lss (.t 52) (.k (.int .i64 64))))⟩ .nil)) (.seq (.cond (.t 53) .skip (.exit 6)) (.seq (.block 7 (.seq (.reg [] (.cons ⟨none, (.s 54 (.mv (.t 52)))⟩ (.cons ⟨none, (.s 12 (.mv (.t 54)))⟩ .nil))) (.reg [] (.cons ⟨none, (.s 55 (.mv (.t 12)))⟩ (.cons ⟨none, (.s 56 (.mv (.t 12)))⟩ (.cons ⟨none, (.s 57 (.bin .quo (.t 56) (.k (.int .i64 4))))⟩ (.cons ⟨none, (.s 58 (.ia 16 1 (.t 8) (.t 57)))⟩ (.cons ⟨none, (.r 59 (.ld (.int .u32 0) (.t 58)))⟩ (.cons ⟨none, (.s 60 (.mv (.t 12)))⟩ (.cons ⟨none, (.s 61 (.bin .quo (.t 60) (.k (.int .i64 4))))⟩ (.cons ⟨none, (.s 62 (.ia 16 1 (.t 7) (.t 61)))⟩ (.cons ⟨none, (.r 63 (.ld (.int .u32 0) (.t 62)))⟩ (.cons ⟨none, (.s 64 (.bin .add (.t 59) (.t 63)))⟩ (.cons ⟨none, (.s 65 (.mv (.t 12)))⟩ (.cons ⟨none, (.s 66 (.bin .rem (.t 65) (.k (.int .i64 4))))⟩ (.cons ⟨none, (.s 67 (.bin .mul (.k (.int .i64 8)) (.t 66)))⟩ (.cons ⟨none, (.s 68 (.bin .shr (.t 64) (.t 67)))⟩ (.cons ⟨none, (.s 69 (.cv .u8 (.t 68)))⟩ (.cons ⟨none, (.s 70 (.ia 64 1 (.t 11) (.t 55)))⟩ (.cons ⟨none, (.w none (.st (.t 70) (.t 69)))⟩ .nil)))))))))))))))))))) (.reg [] (.cons ⟨none, (.s 71 (.bin .add (.t 52) (.k (.int .i64 1))))⟩ (.cons ⟨none, (.s 52 (.mv (.t 71)))⟩ .nil))))))))) (.seq (.reg [] (.cons ⟨none, (.r 72 (.lda 64 (.t 11)))⟩ (.cons ⟨none, (.w none (.sta 64 (.t 6) (.t 72)))⟩ .nil))) .ret))))))), [(.cell true 64 (.bool false) 6)]⟩
theorem low_chacha_Block : lowF Try.prog Try.f51 = some ir_chacha_Block.strip := by kernel_rfl
theorem ok_chacha_Block {fu : Nat} {key_ : List Int} {counter_ : Int} {nonce_ : List Int} {l9001 : List Int} (h : fn_chacha_Block fu key_ counter_ nonce_ = some l9001) :
  EV.Fn Try.prog 51 [.g (flat [.i .u8 key_]), ib .i64 counter_, .g (flat [.i .u8 nonce_])] [] [] (fun v u nw => v = .g (flat [.i .u8 l9001]) ∧ u = [] ∧ nw = [] ∧ (l9001.length = 64)) := by
 have key : EV.Fn Try.prog 51 [.g (flat [.i .u8 key_]), ib .i64 counter_, .g (flat [.i .u8 nonce_])] [] [] (fun v u nw => v = .g (flat [.i .u8 l9001]) ∧ u = [] ∧ nw = [] ∧ (l9001.length = 64)) := by
  unfold fn_chacha_Block at h
  refine d_fn (i := ir_chacha_Block) (fn := Try.f51) (sl0 := [(0, .g (flat [.i .u8 key_])), (1, ib .i64 counter_), (2, .g (flat [.i .u8 nonce_]))]) (hp0 := []) (by kernel_rfl) low_chacha_Block mo rfl rfl rfl fun F z0 => ?_
  dsimp only [ir_chacha_Block]
  refine gd_e h fun Xh_key_ h => ?_
  refine gd_e h fun Xh_nonce_ h => ?_
  refine wpC_seq ?_
  refine d_reg rfl ?_
  refine d_box rfl (fun _ => trivial) rfl fun kb1 kz2 => ?_
  refine d_box rfl (fun _ => trivial) rfl fun kb3 kz4 => ?_
  refine d_alo (g := [.i .u8 (List.replicate 64 0)]) (zeros_flat _ _ _) (fun _ => trivial) fun kb5 kz6 => ?_
  refine wpI_nil ?_
  refine seqK_n ?_
  refine wpC_seq ?_
  refine d_reg rfl ?_
  refine d_lda 0 1 rfl rfl rfl rfl (by simp only [flen, Xh_key_]) ?_
  refine wpI_s rfl trivial ?_
  refine d_n rfl trivial h fun x7 h => ?_
  refine d_lda 0 1 rfl rfl rfl rfl (by simp only [flen, Xh_nonce_]) ?_
  refine bind_e h fun l10 ho9 h => ?_
  refine d_call (ok_chacha_begin     (h := ho9)) rfl rfl haveRw_n haveRo_n (own_of rfl) ?_
  rintro _ _ _ kz12 ⟨rfl, rfl, rfl, h11⟩
  refine ⟨_, rfl, trivial, ?_⟩
  refine gd_e h fun g13 h => ?_
  refine d_alo (g := [.i .u32 (List.replicate 16 0)]) (zeros_flat _ _ _) (fun _ => trivial) fun kb14 kz15 => ?_
  refine d_sta 0 rfl rfl rfl rfl rfl (by simp only [flen, g13]) (by simp only [flen, List.length_replicate]) rfl rfl trivial ?_
  refine wpI_nil ?_
  refine seqK_n ?_
  refine wpC_seq ?_
  refine d_reg rfl ?_
  refine d_lda 0 1 rfl rfl rfl rfl (by simp only [flen, g13]) ?_
  refine d_alo (g := [.i .u32 (List.replicate 16 0)]) (zeros_flat _ _ _) (fun _ => trivial) fun kb16 kz17 => ?_
  refine d_sta 0 rfl rfl rfl rfl rfl (by simp only [flen, g13]) (by simp only [flen, List.length_replicate]) rfl rfl trivial ?_
  refine wpI_nil ?_
  refine seqK_n ?_
  refine wpC_seq ?_
  refine wpC_seq ?_
  refine d_reg rfl ?_
  refine wpI_s rfl trivial ?_
  refine wpI_nil ?_
  refine seqK_n ?_
  refine wpC_block ?_
  refine bind_e h fun o25 h hko25 => ?_
  refine d_loop (fun (z : List Int × Int × Nat) => match z with | (l18, x20, kz21) => (l18, x20)) (fun (z : List Int × Int × Nat) => (match z with | (l18, x20, kz21) => ⟨[(6, .c (.p 102 kb5 0)), (7, .c (.p 103 kb14 0)), (8, .c (.p 104 kb16 0)), (19, ib .i64 x20)], [⟨102, kb5, 75, false, (0, 0), (.v (.int .u8 0)), flat [.i .u8 (List.replicate 64 0)]⟩, ⟨103, kb14, 86, false, (0, 0), (.v (.int .u32 0)), flat [.i .u32 l10]⟩, ⟨104, kb16, 86, false, (0, 0), (.v (.int .u32 0)), flat [.i .u32 l18]⟩], 105, kz21⟩ : St)) (fun (z : List Int × Int × Nat) => match z with | (l18, x20, kz21) => (l18.length = 16)) (l10, 0, kz17) [102, 103, 104] h g13 (leS2_c rfl rfl (leS2_c rfl rfl (leS2_c rfl rfl (leS2_c rfl rfl leS2_n)))) (leH2_c rfl rfl rfl rfl rfl rfl (leH2_c rfl rfl rfl rfl rfl rfl (leH2_c rfl rfl rfl rfl rfl rfl leH2_n))) rfl rfl ?_
  rintro rec ⟨l18, x20, kz21⟩ h19 h
  show wpC _ _ _ _ _ (St.mk _ _ _ _)
  unfold fn_chacha_Block_l3 at h; try dsimp only at h
  refine wpC_seq ?_
  refine d_reg rfl ?_
  refine d_b rfl trivial h fun t26 h => ?_
  refine wpI_nil ?_
  refine seqK_n ?_
  refine wpC_seq ?_
  refine d_cond rfl h (fun h => ?_) (fun h => ?_)
  ·refine wpC_skip ?_
   refine seqK_n ?_
   refine wpC_seq ?_
   refine wpC_block ?_
   refine wpC_seq ?_
   refine wpC_seq ?_
   refine d_reg rfl ?_
   refine wpI_s rfl trivial ?_
   refine wpI_nil ?_
   refine seqK_n ?_
   refine wpC_block ?_
   refine bind_e h fun o34 h hko34 => ?_
   refine d_loop (fun (z : List Int × Int × Nat) => match z with | (l27, x29, kz30) => (l27, x29)) (fun (z : List Int × Int × Nat) => (match z with | (l27, x29, kz30) => ⟨[(6, .c (.p 102 kb5 0)), (7, .c (.p 103 kb14 0)), (8, .c (.p 104 kb16 0)), (19, ib .i64 x20), (21, ib .i64 x29)], [⟨102, kb5, 75, false, (0, 0), (.v (.int .u8 0)), flat [.i .u8 (List.replicate 64 0)]⟩, ⟨103, kb14, 86, false, (0, 0), (.v (.int .u32 0)), flat [.i .u32 l10]⟩, ⟨104, kb16, 86, false, (0, 0), (.v (.int .u32 0)), flat [.i .u32 l27]⟩], 105, kz30⟩ : St)) (fun (z : List Int × Int × Nat) => match z with | (l27, x29, kz30) => (l27.length = 16)) (l18, 0, kz21) [102, 103, 104] h h19 (leS2_c rfl rfl (leS2_c rfl rfl (leS2_c rfl rfl (leS2_c rfl rfl (leS2_c rfl rfl leS2_n))))) (leH2_c rfl rfl rfl rfl rfl rfl (leH2_c rfl rfl rfl rfl rfl rfl (leH2_c rfl rfl rfl rfl rfl rfl leH2_n))) rfl rfl ?_
   rintro rec ⟨l27, x29, kz30⟩ h28 h
   show wpC _ _ _ _ _ (St.mk _ _ _ _)
   unfold fn_chacha_Block_l1 at h; try dsimp only at h
   refine wpC_seq ?_
   refine d_reg rfl ?_
   refine d_b rfl trivial h fun t35 h => ?_
   refine wpI_nil ?_
   refine seqK_n ?_
   refine wpC_seq ?_
   refine d_cond rfl h (fun h => ?_) (fun h => ?_)
   ·refine wpC_skip ?_
    refine seqK_n ?_
    refine wpC_seq ?_
    refine wpC_block ?_
    refine wpC_seq ?_
    refine d_reg rfl ?_
    refine wpI_s rfl trivial ?_
    refine wpI_s rfl trivial ?_
    refine wpI_nil ?_
    refine seqK_n ?_
    refine d_reg rfl ?_
    refine wpI_s rfl trivial ?_
    refine wpI_s rfl trivial ?_
    refine d_n rfl trivial h fun x36 h => ?_
    refine wpI_s rfl trivial ?_
    refine d_n rfl trivial h fun x37 h => ?_
    refine wpI_s rfl trivial ?_
    refine d_n rfl trivial h fun x38 h => ?_
    refine bind_e h fun l41 ho40 h => ?_
    refine d_call (ok_chacha_quarter (i0 := 104)  (X0b := kb16) (X0ty := 86)  (h := ho40)) rfl rfl (haveRw_c rfl haveRw_n) haveRo_n (own_of rfl) ?_
    rintro _ _ _ kz43 ⟨rfl, rfl, rfl, h42⟩
    refine ⟨_, rfl, trivial, ?_⟩
    refine gd_e h fun g44 h => ?_
    refine wpI_nil ?_
    refine blockK_n ?_
    refine seqK_n ?_
    refine d_reg rfl ?_
    refine d_n rfl trivial h fun x45 h => ?_
    refine wpI_s rfl trivial ?_
    refine wpI_nil ?_
    refine lpK_n (l41, x45, kz43) [102, 103, 104] g44 h (leS2_c rfl rfl (leS2_c rfl rfl (leS2_c rfl rfl (leS2_c rfl rfl (leS2_c rfl rfl leS2_n))))) (leH2_c rfl rfl rfl rfl rfl rfl (leH2_c rfl rfl rfl rfl rfl rfl (leH2_c rfl rfl rfl rfl rfl rfl leH2_n))) rfl rfl
   ·refine wpC_exit ?_
    refine seqK_x ?_
    obtain rfl := Option.some.inj h
    have h := hko34; clear hko34; try dsimp only at h
    refine lpK_x ?_
    refine blockK_x ?_
    refine seqK_n ?_
    refine wpC_seq ?_
    refine d_reg rfl ?_
    refine wpI_s rfl trivial ?_
    refine wpI_nil ?_
    refine seqK_n ?_
    refine wpC_block ?_
    refine bind_e h fun o53 h hko53 => ?_
    refine d_loop (fun (z : List Int × Int × Nat) => match z with | (l46, x48, kz49) => (l46, x48)) (fun (z : List Int × Int × Nat) => (match z with | (l46, x48, kz49) => ⟨[(6, .c (.p 102 kb5 0)), (7, .c (.p 103 kb14 0)), (8, .c (.p 104 kb16 0)), (19, ib .i64 x20), (33, ib .i64 x48)], [⟨102, kb5, 75, false, (0, 0), (.v (.int .u8 0)), flat [.i .u8 (List.replicate 64 0)]⟩, ⟨103, kb14, 86, false, (0, 0), (.v (.int .u32 0)), flat [.i .u32 l10]⟩, ⟨104, kb16, 86, false, (0, 0), (.v (.int .u32 0)), flat [.i .u32 l46]⟩], 105, kz49⟩ : St)) (fun (z : List Int × Int × Nat) => match z with | (l46, x48, kz49) => (l46.length = 16)) (l27, 0, kz30) [102, 103, 104] h h28 (leS2_c rfl rfl (leS2_c rfl rfl (leS2_c rfl rfl (leS2_c rfl rfl (leS2_c rfl rfl leS2_n))))) (leH2_c rfl rfl rfl rfl rfl rfl (leH2_c rfl rfl rfl rfl rfl rfl (leH2_c rfl rfl rfl rfl rfl rfl leH2_n))) rfl rfl ?_
    rintro rec ⟨l46, x48, kz49⟩ h47 h
    show wpC _ _ _ _ _ (St.mk _ _ _ _)
    unfold fn_chacha_Block_l2 at h; try dsimp only at h
    refine wpC_seq ?_
    refine d_reg rfl ?_
    refine d_b rfl trivial h fun t54 h => ?_
    refine wpI_nil ?_
    refine seqK_n ?_
    refine wpC_seq ?_
    refine d_cond rfl h (fun h => ?_) (fun h => ?_)
    ·refine wpC_skip ?_
     refine seqK_n ?_
     refine wpC_seq ?_
     refine wpC_block ?_
     refine wpC_seq ?_
     refine d_reg rfl ?_
     refine wpI_s rfl trivial ?_
     refine wpI_s rfl trivial ?_
     refine wpI_nil ?_
     refine seqK_n ?_
     refine d_reg rfl ?_
     refine wpI_s rfl trivial ?_
     refine wpI_s rfl trivial ?_
     refine d_n rfl trivial h fun x55 h => ?_
     refine d_n rfl (by decide) h fun x56 h => ?_
     refine d_n rfl trivial h fun x57 h => ?_
     refine wpI_s rfl trivial ?_
     refine d_n rfl trivial h fun x58 h => ?_
     refine d_n rfl (by decide) h fun x59 h => ?_
     refine d_n rfl trivial h fun x60 h => ?_
     refine wpI_s rfl trivial ?_
     refine d_n rfl trivial h fun x61 h => ?_
     refine d_n rfl (by decide) h fun x62 h => ?_
     refine d_n rfl trivial h fun x63 h => ?_
     refine bind_e h fun l66 ho65 h => ?_
     refine d_call (ok_chacha_quarter (i0 := 104)  (X0b := kb16) (X0ty := 86)  (h := ho65)) rfl rfl (haveRw_c rfl haveRw_n) haveRo_n (own_of rfl) ?_
     rintro _ _ _ kz68 ⟨rfl, rfl, rfl, h67⟩
     refine ⟨_, rfl, trivial, ?_⟩
     refine gd_e h fun g69 h => ?_
     refine wpI_nil ?_
     refine blockK_n ?_
     refine seqK_n ?_
     refine d_reg rfl ?_
     refine d_n rfl trivial h fun x70 h => ?_
     refine wpI_s rfl trivial ?_
     refine wpI_nil ?_
     refine lpK_n (l66, x70, kz68) [102, 103, 104] g69 h (leS2_c rfl rfl (leS2_c rfl rfl (leS2_c rfl rfl (leS2_c rfl rfl (leS2_c rfl rfl leS2_n))))) (leH2_c rfl rfl rfl rfl rfl rfl (leH2_c rfl rfl rfl rfl rfl rfl (leH2_c rfl rfl rfl rfl rfl rfl leH2_n))) rfl rfl
    ·refine wpC_exit ?_
     refine seqK_x ?_
     obtain rfl := Option.some.inj h
     have h := hko53; clear hko53; try dsimp only at h
     refine lpK_x ?_
     refine blockK_x ?_
     refine blockK_n ?_
     refine seqK_n ?_
     refine d_reg rfl ?_
     refine d_n rfl trivial h fun x71 h => ?_
     refine wpI_s rfl trivial ?_
     refine wpI_nil ?_
     refine lpK_n (l46, x71, kz49) [102, 103, 104] h47 h (leS2_c rfl rfl (leS2_c rfl rfl (leS2_c rfl rfl (leS2_c rfl rfl leS2_n)))) (leH2_c rfl rfl rfl rfl rfl rfl (leH2_c rfl rfl rfl rfl rfl rfl (leH2_c rfl rfl rfl rfl rfl rfl leH2_n))) rfl rfl
  ·refine wpC_exit ?_
   refine seqK_x ?_
   obtain rfl := Option.some.inj h
   have h := hko25; clear hko25; try dsimp only at h
   refine lpK_x ?_
   refine blockK_x ?_
   refine seqK_n ?_
   refine wpC_seq ?_
   refine d_reg rfl ?_
   refine d_alo (g := [.i .u8 (List.replicate 64 0)]) (zeros_flat _ _ _) (fun _ => trivial) fun kb72 kz73 => ?_
   refine wpI_nil ?_
   refine seqK_n ?_
   refine wpC_seq ?_
   refine wpC_seq ?_
   refine d_reg rfl ?_
   refine wpI_s rfl trivial ?_
   refine wpI_nil ?_
   refine seqK_n ?_
   refine wpC_block ?_
   refine bind_e h fun o81 h hko81 => ?_
   refine d_loop (fun (z : List Int × Int × Nat) => match z with | (l74, x76, kz77) => (l74, x76)) (fun (z : List Int × Int × Nat) => (match z with | (l74, x76, kz77) => ⟨[(6, .c (.p 102 kb5 0)), (7, .c (.p 103 kb14 0)), (8, .c (.p 104 kb16 0)), (11, .c (.p 105 kb72 0)), (52, ib .i64 x76)], [⟨102, kb5, 75, false, (0, 0), (.v (.int .u8 0)), flat [.i .u8 (List.replicate 64 0)]⟩, ⟨103, kb14, 86, false, (0, 0), (.v (.int .u32 0)), flat [.i .u32 l10]⟩, ⟨104, kb16, 86, false, (0, 0), (.v (.int .u32 0)), flat [.i .u32 l18]⟩, ⟨105, kb72, 75, false, (0, 0), (.v (.int .u8 0)), flat [.i .u8 l74]⟩], 106, kz77⟩ : St)) (fun (z : List Int × Int × Nat) => match z with | (l74, x76, kz77) => (l74.length = 64)) ((List.replicate 64 0), 0, kz73) [102, 103, 104, 105] h List.length_replicate (leS2_c rfl rfl (leS2_c rfl rfl (leS2_c rfl rfl (leS2_c rfl rfl (leS2_c rfl rfl leS2_n))))) (leH2_c rfl rfl rfl rfl rfl rfl (leH2_c rfl rfl rfl rfl rfl rfl (leH2_c rfl rfl rfl rfl rfl rfl (leH2_c rfl rfl rfl rfl rfl rfl leH2_n)))) rfl rfl ?_
   rintro rec ⟨l74, x76, kz77⟩ h75 h
   show wpC _ _ _ _ _ (St.mk _ _ _ _)
   unfold fn_chacha_Block_l4 at h; try dsimp only at h
   refine wpC_seq ?_
   refine d_reg rfl ?_
   refine d_b rfl trivial h fun t82 h => ?_
   refine wpI_nil ?_
   refine seqK_n ?_
   refine wpC_seq ?_
   refine d_cond rfl h (fun h => ?_) (fun h => ?_)
   ·refine wpC_skip ?_
    refine seqK_n ?_
    refine wpC_seq ?_
    refine wpC_block ?_
    refine wpC_seq ?_
    refine d_reg rfl ?_
    refine wpI_s rfl trivial ?_
    refine wpI_s rfl trivial ?_
    refine wpI_nil ?_
    refine seqK_n ?_
    refine d_reg rfl ?_
    refine wpI_s rfl trivial ?_
    refine wpI_s rfl trivial ?_
    refine d_n rfl (by decide) h fun x83 h => ?_
    refine gd_e h fun g84 h => ?_
    refine wpI_s rfl g84 ?_
    refine d_ld 0 (q := x83.toNat) rfl rfl rfl h (ar_offi (x83) rfl) fun x85 h => ?_
    refine wpI_s rfl trivial ?_
    refine d_n rfl (by decide) h fun x86 h => ?_
    refine gd_e h fun g87 h => ?_
    refine wpI_s rfl g87 ?_
    refine d_ld 0 (q := x86.toNat) rfl rfl rfl h (ar_offi (x86) rfl) fun x88 h => ?_
    refine d_n rfl trivial h fun x89 h => ?_
    refine wpI_s rfl trivial ?_
    refine d_n rfl (by decide) h fun x90 h => ?_
    refine d_n rfl trivial h fun x91 h => ?_
    refine gd_e h fun g92 h => ?_
    refine d_n rfl g92 h fun x93 h => ?_
    refine d_n rfl trivial h fun x94 h => ?_
    refine gd_e h fun g95 h => ?_
    refine wpI_s rfl g95 ?_
    refine d_st 0 (q := x76.toNat) rfl rfl rfl rfl h (ar_offi (x76) rfl) (fun _ => rfl) (fun _ => rfl) (fun _ => trivial) fun l96 h97 h => ?_
    refine wpI_nil ?_
    refine blockK_n ?_
    refine seqK_n ?_
    refine d_reg rfl ?_
    refine d_n rfl trivial h fun x98 h => ?_
    refine wpI_s rfl trivial ?_
    refine wpI_nil ?_
    refine lpK_n (l96, x98, kz77) [102, 103, 104, 105] (h97.trans h75) h (leS2_c rfl rfl (leS2_c rfl rfl (leS2_c rfl rfl (leS2_c rfl rfl (leS2_c rfl rfl leS2_n))))) (leH2_c rfl rfl rfl rfl rfl rfl (leH2_c rfl rfl rfl rfl rfl rfl (leH2_c rfl rfl rfl rfl rfl rfl (leH2_c rfl rfl rfl rfl rfl rfl leH2_n)))) rfl rfl
   ·refine wpC_exit ?_
    refine seqK_x ?_
    obtain rfl := Option.some.inj h
    have h := hko81; clear hko81; try dsimp only at h
    refine lpK_x ?_
    refine blockK_x ?_
    refine seqK_n ?_
    refine wpC_seq ?_
    refine d_reg rfl ?_
    refine d_lda 0 1 rfl rfl rfl rfl (by simp only [flen, h75]) ?_
    refine d_sta 0 rfl rfl rfl rfl rfl (by simp only [flen, h75]) (by simp only [flen, List.length_replicate]) rfl rfl trivial ?_
    refine wpI_nil ?_
    refine seqK_n ?_
    refine wpC_ret ?_
    obtain rfl := Option.some.inj h
    exact d_ret2 [] [] ⟨rfl, rfl, rfl, h75⟩ (rIs_a 0 1 rfl rfl rfl rfl (by simp only [flen, h75])) leH2_n leH2_n rfl
 exact key.cong rfl blkEq_n blkEq_n

def ir_aead_rest : IFn := ⟨8, (.seq (.reg [] (.cons ⟨none, (.s 2 (.mv (.k (.slice none 0 0))))⟩ .nil)) (.seq (.reg [] (.cons ⟨none, (.s 3 (.mv (.t 0)))⟩ (.cons ⟨none, (.s 4 (.bin .rem (.t 3) (.k (.int .i64 16))))⟩ (.cons ⟨none, (.s 5 (.bin .sub (.k (.int .i64 16)) (.t 4)))⟩ (.cons ⟨none, (.s 6 (.bin .rem (.t 5) (.k (.int .i64 16))))⟩ (.cons ⟨none, (.w (some 7) (.mks 5 1 (.int .u8 0) (.t 6) (.t 6)))⟩ (.cons ⟨none, (.s 2 (.mv (.t 7)))⟩ .nil))))))) .ret)), [(.tmp 2)]⟩
theorem low_aead_rest : lowF Try.prog Try.f53 = some ir_aead_rest.strip := by kernel_rfl
theorem ok_aead_rest {fu : Nat} (n0 : Nat) {n_ : Int} {l9002 : List Int} (h : fn_aead_rest fu n_ = some l9002) :
  EV.Fn Try.prog 53 [ib .i64 n_] [] [] (fun v u nw => ∃ (kn9001 : Nat) (kn9003 : Nat), v = .c (.s n0 kn9001 0 l9002.length kn9003) ∧ u = [] ∧ nw = [⟨n0, kn9001, 5, false, (0, 0), .v undef, flat [.r [], .i .u8 l9002, .r []]⟩] ∧ (kn9003 ≤ l9002.length + 0) ∧ (l9002.length ≤ kn9003)) := by
 have key : EV.Fn Try.prog 53 [ib .i64 n_] [] [] (fun v u nw => ∃ (kn9001 : Nat) (kn9003 : Nat), v = .c (.s n0 kn9001 0 l9002.length kn9003) ∧ u = [] ∧ nw = [⟨n0, kn9001, 5, false, (0, 0), .v undef, flat [.r [], .i .u8 l9002, .r []]⟩] ∧ (kn9003 ≤ l9002.length + 0) ∧ (l9002.length ≤ kn9003)) := by
  unfold fn_aead_rest at h
  refine d_fn (i := ir_aead_rest) (fn := Try.f53) (sl0 := [(0, ib .i64 n_)]) (hp0 := []) (by kernel_rfl) low_aead_rest mo rfl rfl rfl fun F z0 => ?_
  dsimp only [ir_aead_rest]
  refine wpC_seq ?_
  refine d_reg rfl ?_
  refine wpI_s rfl trivial ?_
  refine wpI_nil ?_
  refine seqK_n ?_
  refine wpC_seq ?_
  refine d_reg rfl ?_
  refine wpI_s rfl trivial ?_
  refine d_n rfl (by decide) h fun x1 h => ?_
  refine d_n rfl trivial h fun x2 h => ?_
  refine d_n rfl (by decide) h fun x3 h => ?_
  refine gd_e h fun g4 h => ?_
  refine d_mksw rfl rfl g4 (fun _ => trivial) fun kb5 kz6 => ?_
  refine wpI_s rfl trivial ?_
  refine wpI_nil ?_
  refine seqK_n ?_
  refine wpC_ret ?_
  obtain rfl := Option.some.inj h
  exact d_ret2 [] [100] ⟨kb5, x3.toNat, rfl, rfl, rfl, (le_lenp List.length_replicate (Nat.le_refl _)), (le_lenl List.length_replicate (Nat.le_refl _))⟩ (rIs_t rfl (den_s (List.length_replicate).symm)) leH2_n (leH2_c rfl rfl rfl rfl rfl rfl leH2_n) rfl
 exact key.cong rfl blkEq_n blkEq_n

def ir_aead_eight : IFn := ⟨21, (.seq (.reg [] (.cons ⟨none, (.s 2 (.mv (.k (.slice none 0 0))))⟩ .nil)) (.seq (.reg [] (.cons ⟨none, (.w (some 5) (.mks 5 1 (.int .u8 0) (.k (.int .i64 8)) (.k (.int .i64 8))))⟩ (.cons ⟨none, (.s 3 (.mv (.t 5)))⟩ .nil))) (.seq (.seq (.reg [] (.cons ⟨none, (.s 6 (.mv (.t 3)))⟩ (.cons ⟨none, (.s 7 (.len (.t 6)))⟩ (.cons ⟨none, (.s 8 (.mv (.k (.int .i64 0))))⟩ .nil)))) (.block 0 (.loop (.seq (.reg [] (.cons ⟨none, (.s 9 (.bin .lss (.t 8) (.t 7)))⟩ .nil)) (.seq (.cond (.t 9) .skip (.exit 0)) (.seq (.block 1 (.seq (.reg [] (.cons ⟨none, (.s 10 (.mv (.t 8)))⟩ (.cons ⟨none, (.s 4 (.mv (.t 10)))⟩ .nil))) (.reg [] (.cons ⟨none, (.s 11 (.mv (.t 3)))⟩ (.cons ⟨none, (.s 12 (.mv (.t 4)))⟩ (.cons ⟨none, (.s 13 (.mv (.t 0)))⟩ (.cons ⟨none, (.s 14 (.mv (.t 4)))⟩ (.cons ⟨none, (.s 15 (.bin .mul (.k (.int .i64 8)) (.t 14)))⟩ (.cons ⟨none, (.s 16 (.bin .shr (.t 13) (.t 15)))⟩ (.cons ⟨none, (.s 17 (.cv .u8 (.t 16)))⟩ (.cons ⟨none, (.s 18 (.is 1 (.t 11) (.t 12)))⟩ (.cons ⟨none, (.w none (.st (.t 18) (.t 17)))⟩ .nil)))))))))))) (.reg [] (.cons ⟨none, (.s 19 (.bin .add (.t 8) (.k (.int .i64 1))))⟩ (.cons ⟨none, (.s 8 (.mv (.t 19)))⟩ .nil))))))))) (.seq (.reg [] (.cons ⟨none, (.s 20 (.mv (.t 3)))⟩ (.cons ⟨none, (.s 2 (.mv (.t 20)))⟩ .nil))) .ret)))), [(.tmp 2)]⟩
theorem low_aead_eight : lowF Try.prog Try.f54 = some ir_aead_eight.strip := by kernel_rfl
theorem ok_aead_eight {fu : Nat} (n0 : Nat) {n_ : Int} {l9002 : List Int} (h : fn_aead_eight fu n_ = some l9002) :
  EV.Fn Try.prog 54 [ib .i64 n_] [] [] (fun v u nw => ∃ (kn9001 : Nat), v = .c (.s n0 kn9001 0 l9002.length 8) ∧ u = [] ∧ nw = [⟨n0, kn9001, 5, false, (0, 0), .v undef, flat [.r [], .i .u8 l9002, .r []]⟩] ∧ (8 ≤ l9002.length + 0) ∧ (l9002.length ≤ 8)) := by
 have key : EV.Fn Try.prog 54 [ib .i64 n_] [] [] (fun v u nw => ∃ (kn9001 : Nat), v = .c (.s n0 kn9001 0 l9002.length 8) ∧ u = [] ∧ nw = [⟨n0, kn9001, 5, false, (0, 0), .v undef, flat [.r [], .i .u8 l9002, .r []]⟩] ∧ (8 ≤ l9002.length + 0) ∧ (l9002.length ≤ 8)) := by
  unfold fn_aead_eight at h
  refine d_fn (i := ir_aead_eight) (fn := Try.f54) (sl0 := [(0, ib .i64 n_)]) (hp0 := []) (by kernel_rfl) low_aead_eight mo rfl rfl rfl fun F z0 => ?_
  dsimp only [ir_aead_eight]
  refine wpC_seq ?_
  refine d_reg rfl ?_
  refine wpI_s rfl trivial ?_
  refine wpI_nil ?_
  refine seqK_n ?_
  refine wpC_seq ?_
  refine d_reg rfl ?_
  refine d_mksw rfl rfl (by decide) (fun _ => trivial) fun kb1 kz2 => ?_
  refine wpI_s rfl trivial ?_
  refine wpI_nil ?_
  refine seqK_n ?_
  refine wpC_seq ?_
  refine wpC_seq ?_
  refine d_reg rfl ?_
  refine wpI_s rfl trivial ?_
  refine wpI_s rfl trivial ?_
  refine wpI_s rfl trivial ?_
  refine wpI_nil ?_
  refine seqK_n ?_
  refine wpC_block ?_
  refine bind_e h fun o10 h hko10 => ?_
  refine d_loop (fun (z : List Int × Int × Nat) => match z with | (l3, x5, kz6) => (l3, x5)) (fun (z : List Int × Int × Nat) => (match z with | (l3, x5, kz6) => ⟨[(0, ib .i64 n_), (3, .c (.s 100 kb1 0 8 8)), (7, ib .i64 ((8 : Nat) : Int)), (8, ib .i64 x5)], [⟨100, kb1, 5, false, (0, 0), (.v (.int .u8 0)), flat [.r [], .i .u8 l3, .r []]⟩], 101, kz6⟩ : St)) (fun (z : List Int × Int × Nat) => match z with | (l3, x5, kz6) => (l3.length = 8)) ((List.replicate 8 0), 0, kz2) [100] h List.length_replicate (leS2_c rfl rfl (leS2_c rfl rfl (leS2_c rfl rfl (leS2_c rfl rfl leS2_n)))) (leH2_c rfl rfl rfl rfl rfl rfl leH2_n) rfl rfl ?_
  rintro rec ⟨l3, x5, kz6⟩ h4 h
  show wpC _ _ _ _ _ (St.mk _ _ _ _)
  unfold fn_aead_eight_l1 at h; try dsimp only at h
  refine wpC_seq ?_
  refine d_reg rfl ?_
  refine d_b rfl trivial h fun t11 h => ?_
  refine wpI_nil ?_
  refine seqK_n ?_
  refine wpC_seq ?_
  refine d_cond rfl h (fun h => ?_) (fun h => ?_)
  ·refine wpC_skip ?_
   refine seqK_n ?_
   refine wpC_seq ?_
   refine wpC_block ?_
   refine wpC_seq ?_
   refine d_reg rfl ?_
   refine wpI_s rfl trivial ?_
   refine wpI_s rfl trivial ?_
   refine wpI_nil ?_
   refine seqK_n ?_
   refine d_reg rfl ?_
   refine wpI_s rfl trivial ?_
   refine wpI_s rfl trivial ?_
   refine wpI_s rfl trivial ?_
   refine wpI_s rfl trivial ?_
   refine d_n rfl trivial h fun x12 h => ?_
   refine gd_e h fun g13 h => ?_
   refine d_n rfl g13 h fun x14 h => ?_
   refine d_n rfl trivial h fun x15 h => ?_
   refine gd_e h fun g16 h => ?_
   refine wpI_s rfl g16 ?_
   refine d_st 1 (q := x5.toNat) rfl rfl rfl rfl h (sl_offP0 (i := x5) rfl (fun _ => rfl) g16) (fun _ => rfl) (fun _ => rfl) (fun _ => trivial) fun l17 h18 h => ?_
   refine wpI_nil ?_
   refine blockK_n ?_
   refine seqK_n ?_
   refine d_reg rfl ?_
   refine d_n rfl trivial h fun x19 h => ?_
   refine wpI_s rfl trivial ?_
   refine wpI_nil ?_
   refine lpK_n (l17, x19, kz6) [100] (h18.trans h4) h (leS2_c rfl rfl (leS2_c rfl rfl (leS2_c rfl rfl (leS2_c rfl rfl leS2_n)))) (leH2_c rfl rfl rfl rfl rfl rfl leH2_n) rfl rfl
  ·refine wpC_exit ?_
   refine seqK_x ?_
   obtain rfl := Option.some.inj h
   have h := hko10; clear hko10; try dsimp only at h
   refine lpK_x ?_
   refine blockK_x ?_
   refine seqK_n ?_
   refine wpC_seq ?_
   refine d_reg rfl ?_
   refine wpI_s rfl trivial ?_
   refine wpI_s rfl trivial ?_
   refine wpI_nil ?_
   refine seqK_n ?_
   refine wpC_ret ?_
   obtain rfl := Option.some.inj h
   exact d_ret2 [] [100] ⟨kb1, rfl, rfl, rfl, (le_lenp h4 (Nat.le_refl _)), (le_lenl h4 (Nat.le_refl _))⟩ (rIs_t rfl (den_s (h4).symm)) leH2_n (leH2_c rfl rfl rfl rfl rfl rfl leH2_n) rfl
 exact key.cong rfl blkEq_n blkEq_n

def ir_limb_Of : IFn := ⟨25, (.seq (.reg [] (.cons ⟨none, (.w (some 1) (.box 23 32 (.int .u8 0) (.t 0)))⟩ (.cons ⟨none, (.w (some 2) (.alo 99 (.int .u64 0) (List.replicate 4 (.int .u64 0))))⟩ .nil))) (.seq (.reg [] (.cons ⟨none, (.w (some 3) (.alo 99 (.int .u64 0) (List.replicate 4 (.int .u64 0))))⟩ .nil)) (.seq (.seq (.reg [] (.cons ⟨none, (.r 6 (.lda 32 (.t 1)))⟩ (.cons ⟨none, (.s 7 (.mv (.k (.int .i64 0))))⟩ .nil))) (.block 0 (.loop (.seq (.reg [] (.cons ⟨none, (.s 8 (.bin .lss (.t 7) (.k (.int .i64 32))))⟩ .nil)) (.seq (.cond (.t 8) .skip (.exit 0)) (.seq (.block 1 (.seq (.reg [] (.cons ⟨none, (.s 9 (.mv (.t 7)))⟩ (.cons ⟨none, (.s 10 (.ix 32 1 false (.int .u8 0) (.t 6) (.t 7)))⟩ (.cons ⟨none, (.s 4 (.mv (.t 9)))⟩ (.cons ⟨none, (.s 5 (.mv (.t 10)))⟩ .nil))))) (.reg [] (.cons ⟨none, (.s 11 (.mv (.t 4)))⟩ (.cons ⟨none, (.s 12 (.bin .quo (.t 11) (.k (.int .i64 8))))⟩ (.cons ⟨none, (.s 13 (.ia 4 1 (.t 3) (.t 12)))⟩ (.cons ⟨none, (.r 14 (.ld (.int .u64 0) (.t 13)))⟩ (.cons ⟨none, (.s 15 (.mv (.t 5)))⟩ (.cons ⟨none, (.s 16 (.cv .u64 (.t 15)))⟩ (.cons ⟨none, (.s 17 (.mv (.t 4)))⟩ (.cons ⟨none, (.s 18 (.bin .rem (.t 17) (.k (.int .i64 8))))⟩ (.cons ⟨none, (.s 19 (.bin .mul (.k (.int .i64 8)) (.t 18)))⟩ (.cons ⟨none, (.s 20 (.bin .shl (.t 16) (.t 19)))⟩ (.cons ⟨none, (.s 21 (.bin .or (.t 14) (.t 20)))⟩ (.cons ⟨none, (.s 22 (.ia 4 1 (.t 3) (.t 12)))⟩ (.cons ⟨none, (.w none (.st (.t 22) (.t 21)))⟩ .nil)))))))))))))))) (.reg [] (.cons ⟨none, (.s 23 (.bin .add (.t 7) (.k (.int .i64 1))))⟩ (.cons ⟨none, (.s 7 (.mv (.t 23)))⟩ .nil))))))))) (.seq (.reg [] (.cons ⟨none, (.r 24 (.lda 4 (.t 3)))⟩ (.cons ⟨none, (.w none (.sta 4 (.t 2) (.t 24)))⟩ .nil))) .ret)))), [(.cell true 4 (.bool false) 2)]⟩
theorem low_limb_Of : lowF Try.prog Try.f65 = some ir_limb_Of.strip := by kernel_rfl
theorem ok_limb_Of {fu : Nat} {a_ : List Int} {l9001 : List Int} (h : fn_limb_Of fu a_ = some l9001) :
  EV.Fn Try.prog 65 [.g (flat [.i .u8 a_])] [] [] (fun v u nw => v = .g (flat [.i .u64 l9001]) ∧ u = [] ∧ nw = [] ∧ (l9001.length = 4)) := by
 have key : EV.Fn Try.prog 65 [.g (flat [.i .u8 a_])] [] [] (fun v u nw => v = .g (flat [.i .u64 l9001]) ∧ u = [] ∧ nw = [] ∧ (l9001.length = 4)) := by
  unfold fn_limb_Of at h
  refine d_fn (i := ir_limb_Of) (fn := Try.f65) (sl0 := [(0, .g (flat [.i .u8 a_]))]) (hp0 := []) (by kernel_rfl) low_limb_Of mo rfl rfl rfl fun F z0 => ?_
  dsimp only [ir_limb_Of]
  refine gd_e h fun Xh_a_ h => ?_
  refine wpC_seq ?_
  refine d_reg rfl ?_
  refine d_box rfl (fun _ => trivial) rfl fun kb1 kz2 => ?_
  refine d_alo (g := [.i .u64 (List.replicate 4 0)]) (zeros_flat _ _ _) (fun _ => trivial) fun kb3 kz4 => ?_
  refine wpI_nil ?_
  refine seqK_n ?_
  refine wpC_seq ?_
  refine d_reg rfl ?_
  refine d_alo (g := [.i .u64 (List.replicate 4 0)]) (zeros_flat _ _ _) (fun _ => trivial) fun kb5 kz6 => ?_
  refine wpI_nil ?_
  refine seqK_n ?_
  refine wpC_seq ?_
  refine wpC_seq ?_
  refine d_reg rfl ?_
  refine d_lda 0 1 rfl rfl rfl rfl (by simp only [flen, Xh_a_]) ?_
  refine wpI_s rfl trivial ?_
  refine wpI_nil ?_
  refine seqK_n ?_
  refine wpC_block ?_
  refine bind_e h fun o14 h hko14 => ?_
  refine d_loop (fun (z : List Int × Int × Nat) => match z with | (l7, x9, kz10) => (l7, x9)) (fun (z : List Int × Int × Nat) => (match z with | (l7, x9, kz10) => ⟨[(2, .c (.p 101 kb3 0)), (3, .c (.p 102 kb5 0)), (6, .g (flat [.i .u8 a_])), (7, ib .i64 x9)], [⟨101, kb3, 99, false, (0, 0), (.v (.int .u64 0)), flat [.i .u64 (List.replicate 4 0)]⟩, ⟨102, kb5, 99, false, (0, 0), (.v (.int .u64 0)), flat [.i .u64 l7]⟩], 103, kz10⟩ : St)) (fun (z : List Int × Int × Nat) => match z with | (l7, x9, kz10) => (l7.length = 4)) ((List.replicate 4 0), 0, kz6) [101, 102] h List.length_replicate (leS2_c rfl rfl (leS2_c rfl rfl (leS2_c rfl rfl (leS2_c rfl rfl leS2_n)))) (leH2_c rfl rfl rfl rfl rfl rfl (leH2_c rfl rfl rfl rfl rfl rfl leH2_n)) rfl rfl ?_
  rintro rec ⟨l7, x9, kz10⟩ h8 h
  show wpC _ _ _ _ _ (St.mk _ _ _ _)
  unfold fn_limb_Of_l1 at h; try dsimp only at h
  refine wpC_seq ?_
  refine d_reg rfl ?_
  refine d_b rfl trivial h fun t15 h => ?_
  refine wpI_nil ?_
  refine seqK_n ?_
  refine wpC_seq ?_
  refine d_cond rfl h (fun h => ?_) (fun h => ?_)
  ·refine wpC_skip ?_
   refine seqK_n ?_
   refine wpC_seq ?_
   refine wpC_block ?_
   refine wpC_seq ?_
   refine d_reg rfl ?_
   refine wpI_s rfl trivial ?_
   refine gd_e h fun g16 h => ?_
   refine d_ix rfl rfl g16 h fun x17 h => ?_
   refine wpI_s rfl trivial ?_
   refine wpI_s rfl trivial ?_
   refine wpI_nil ?_
   refine seqK_n ?_
   refine d_reg rfl ?_
   refine wpI_s rfl trivial ?_
   refine d_n rfl (by decide) h fun x18 h => ?_
   refine gd_e h fun g19 h => ?_
   refine wpI_s rfl g19 ?_
   refine d_ld 0 (q := x18.toNat) rfl rfl rfl h (ar_offi (x18) rfl) fun x20 h => ?_
   refine wpI_s rfl trivial ?_
   refine d_n rfl trivial h fun x21 h => ?_
   refine wpI_s rfl trivial ?_
   refine d_n rfl (by decide) h fun x22 h => ?_
   refine d_n rfl trivial h fun x23 h => ?_
   refine gd_e h fun g24 h => ?_
   refine d_n rfl g24 h fun x25 h => ?_
   refine d_n rfl trivial h fun x26 h => ?_
   refine gd_e h fun g27 h => ?_
   refine wpI_s rfl g27 ?_
   refine d_st 0 (q := x18.toNat) rfl rfl rfl rfl h (ar_offi (x18) rfl) (fun _ => rfl) (fun _ => rfl) (fun _ => trivial) fun l28 h29 h => ?_
   refine wpI_nil ?_
   refine blockK_n ?_
   refine seqK_n ?_
   refine d_reg rfl ?_
   refine d_n rfl trivial h fun x30 h => ?_
   refine wpI_s rfl trivial ?_
   refine wpI_nil ?_
   refine lpK_n (l28, x30, kz10) [101, 102] (h29.trans h8) h (leS2_c rfl rfl (leS2_c rfl rfl (leS2_c rfl rfl (leS2_c rfl rfl leS2_n)))) (leH2_c rfl rfl rfl rfl rfl rfl (leH2_c rfl rfl rfl rfl rfl rfl leH2_n)) rfl rfl
  ·refine wpC_exit ?_
   refine seqK_x ?_
   obtain rfl := Option.some.inj h
   have h := hko14; clear hko14; try dsimp only at h
   refine lpK_x ?_
   refine blockK_x ?_
   refine seqK_n ?_
   refine wpC_seq ?_
   refine d_reg rfl ?_
   refine d_lda 0 1 rfl rfl rfl rfl (by simp only [flen, h8]) ?_
   refine d_sta 0 rfl rfl rfl rfl rfl (by simp only [flen, h8]) (by simp only [flen, List.length_replicate]) rfl rfl trivial ?_
   refine wpI_nil ?_
   refine seqK_n ?_
   refine wpC_ret ?_
   obtain rfl := Option.some.inj h
   exact d_ret2 [] [] ⟨rfl, rfl, rfl, h8⟩ (rIs_a 0 1 rfl rfl rfl rfl (by simp only [flen, h8])) leH2_n leH2_n rfl
 exact key.cong rfl blkEq_n blkEq_n

def ir_poly_clamped : IFn := ⟨13, (.seq (.reg [] (.cons ⟨none, (.w (some 1) (.box 23 32 (.int .u8 0) (.t 0)))⟩ (.cons ⟨none, (.w (some 2) (.alo 99 (.int .u64 0) (List.replicate 4 (.int .u64 0))))⟩ .nil))) (.seq (.reg [] (.cons ⟨none, (.r 4 (.lda 32 (.t 1)))⟩ (.cons ⟨none, (.call (some 5) 65 [(.t 4)])⟩ (.cons ⟨none, (.w (some 3) (.alo 99 (.int .u64 0) (List.replicate 4 (.int .u64 0))))⟩ (.cons ⟨none, (.w none (.sta 4 (.t 3) (.t 5)))⟩ .nil))))) (.seq (.reg [] (.cons ⟨none, (.s 6 (.ia 4 1 (.t 3) (.k (.int .i64 0))))⟩ (.cons ⟨none, (.r 7 (.ld (.int .u64 0) (.t 6)))⟩ (.cons ⟨none, (.s 8 (.bin .and (.t 7) (.k (.int .u64 1152921487695413247))))⟩ (.cons ⟨none, (.s 9 (.ia 4 1 (.t 3) (.k (.int .i64 1))))⟩ (.cons ⟨none, (.r 10 (.ld (.int .u64 0) (.t 9)))⟩ (.cons ⟨none, (.s 11 (.bin .and (.t 10) (.k (.int .u64 1152921487695413244))))⟩ (.cons ⟨none, (.s 12 (.bld (List.replicate 4 (.int .u64 0)) [(0, (1, (.t 8))), (1, (1, (.t 11))), (2, (1, (.k (.int .u64 0)))), (3, (1, (.k (.int .u64 0))))]))⟩ (.cons ⟨none, (.w none (.sta 4 (.t 2) (.t 12)))⟩ .nil))))))))) .ret))), [(.cell true 4 (.bool false) 2)]⟩
theorem low_poly_clamped : lowF Try.prog Try.f59 = some ir_poly_clamped.strip := by kernel_rfl
theorem ok_poly_clamped {fu : Nat} {key_ : List Int} {l9001 : List Int} (h : fn_poly_clamped fu key_ = some l9001) :
  EV.Fn Try.prog 59 [.g (flat [.i .u8 key_])] [] [] (fun v u nw => v = .g (flat [.i .u64 l9001]) ∧ u = [] ∧ nw = [] ∧ (l9001.length = 4)) := by
 have key : EV.Fn Try.prog 59 [.g (flat [.i .u8 key_])] [] [] (fun v u nw => v = .g (flat [.i .u64 l9001]) ∧ u = [] ∧ nw = [] ∧ (l9001.length = 4)) := by
  unfold fn_poly_clamped at h
  refine d_fn (i := ir_poly_clamped) (fn := Try.f59) (sl0 := [(0, .g (flat [.i .u8 key_]))]) (hp0 := []) (by kernel_rfl) low_poly_clamped mo rfl rfl rfl fun F z0 => ?_
  dsimp only [ir_poly_clamped]
  refine gd_e h fun Xh_key_ h => ?_
  refine wpC_seq ?_
  refine d_reg rfl ?_
  refine d_box rfl (fun _ => trivial) rfl fun kb1 kz2 => ?_
  refine d_alo (g := [.i .u64 (List.replicate 4 0)]) (zeros_flat _ _ _) (fun _ => trivial) fun kb3 kz4 => ?_
  refine wpI_nil ?_
  refine seqK_n ?_
  refine wpC_seq ?_
  refine d_reg rfl ?_
  refine d_lda 0 1 rfl rfl rfl rfl (by simp only [flen, Xh_key_]) ?_
  refine bind_e h fun l7 ho6 h => ?_
  refine d_call (ok_limb_Of     (h := ho6)) rfl rfl haveRw_n haveRo_n (own_of rfl) ?_
  rintro _ _ _ kz9 ⟨rfl, rfl, rfl, h8⟩
  refine ⟨_, rfl, trivial, ?_⟩
  refine gd_e h fun g10 h => ?_
  refine d_alo (g := [.i .u64 (List.replicate 4 0)]) (zeros_flat _ _ _) (fun _ => trivial) fun kb11 kz12 => ?_
  refine d_sta 0 rfl rfl rfl rfl rfl (by simp only [flen, g10]) (by simp only [flen, List.length_replicate]) rfl rfl trivial ?_
  refine wpI_nil ?_
  refine seqK_n ?_
  refine wpC_seq ?_
  refine d_reg rfl ?_
  refine wpI_s rfl (by decide) ?_
  refine d_ld 0 (q := 0) rfl rfl rfl h (ar_offi (0) rfl) fun x13 h => ?_
  refine d_n rfl trivial h fun x14 h => ?_
  refine wpI_s rfl (by decide) ?_
  refine d_ld 0 (q := 1) rfl rfl rfl h (ar_offi (1) rfl) fun x15 h => ?_
  refine d_n rfl trivial h fun x16 h => ?_
  refine d_bld (g := [.i .u64 [x14, x16, 0, 0]]) (by rfl) ?_
  refine d_sta 0 rfl rfl rfl rfl rfl rfl (by simp only [flen, List.length_replicate]) rfl rfl trivial ?_
  refine wpI_nil ?_
  refine seqK_n ?_
  refine wpC_ret ?_
  obtain rfl := Option.some.inj h
  exact d_ret2 [] [] ⟨rfl, rfl, rfl, rfl⟩ (rIs_a 0 1 rfl rfl rfl rfl rfl) leH2_n leH2_n rfl
 exact key.cong rfl blkEq_n blkEq_n

def ir_limb_N_Add : IFn := ⟨28, (.seq (.reg [] (.cons ⟨none, (.w (some 2) (.box 99 4 (.int .u64 0) (.t 0)))⟩ (.cons ⟨none, (.w (some 3) (.box 99 4 (.int .u64 0) (.t 1)))⟩ (.cons ⟨none, (.w (some 4) (.alo 99 (.int .u64 0) (List.replicate 4 (.int .u64 0))))⟩ (.cons ⟨none, (.s 5 (.mv (.k (.int .u64 0))))⟩ .nil))))) (.seq (.reg [] (.cons ⟨none, (.w (some 6) (.alo 99 (.int .u64 0) (List.replicate 4 (.int .u64 0))))⟩ .nil)) (.seq (.reg [] (.cons ⟨none, (.s 7 (.mv (.k (.int .u64 0))))⟩ .nil)) (.seq (.seq (.reg [] (.cons ⟨none, (.s 9 (.mv (.k (.int .i64 0))))⟩ .nil)) (.block 0 (.loop (.seq (.reg [] (.cons ⟨none, (.s 10 (.bin .lss (.t 9) (.k (.int .i64 4))))⟩ .nil)) (.seq (.cond (.t 10) .skip (.exit 0)) (.seq (.block 1 (.seq (.reg [] (.cons ⟨none, (.s 11 (.mv (.t 9)))⟩ (.cons ⟨none, (.s 8 (.mv (.t 11)))⟩ .nil))) (.reg [] (.cons ⟨none, (.s 13 (.mv (.t 8)))⟩ (.cons ⟨none, (.s 14 (.mv (.t 8)))⟩ (.cons ⟨none, (.s 15 (.ia 4 1 (.t 2) (.t 14)))⟩ (.cons ⟨none, (.r 16 (.ld (.int .u64 0) (.t 15)))⟩ (.cons ⟨none, (.s 17 (.mv (.t 8)))⟩ (.cons ⟨none, (.s 18 (.ia 4 1 (.t 3) (.t 17)))⟩ (.cons ⟨none, (.r 19 (.ld (.int .u64 0) (.t 18)))⟩ (.cons ⟨none, (.s 20 (.mv (.t 7)))⟩ (.cons ⟨none, (.call (some 21) 71 [(.t 16), (.t 19), (.t 20)])⟩ (.cons ⟨none, (.s 12 (.mv (.t 21)))⟩ (.cons ⟨none, (.s 22 (.ext (.t 12) 0))⟩ (.cons ⟨none, (.s 23 (.ext (.t 12) 1))⟩ (.cons ⟨none, (.s 24 (.ia 4 1 (.t 6) (.t 13)))⟩ (.cons ⟨none, (.w none (.st (.t 24) (.t 22)))⟩ (.cons ⟨none, (.s 7 (.mv (.t 23)))⟩ .nil)))))))))))))))))) (.reg [] (.cons ⟨none, (.s 25 (.bin .add (.t 9) (.k (.int .i64 1))))⟩ (.cons ⟨none, (.s 9 (.mv (.t 25)))⟩ .nil))))))))) (.seq (.reg [] (.cons ⟨none, (.r 26 (.lda 4 (.t 6)))⟩ (.cons ⟨none, (.s 27 (.mv (.t 7)))⟩ (.cons ⟨none, (.w none (.sta 4 (.t 4) (.t 26)))⟩ (.cons ⟨none, (.s 5 (.mv (.t 27)))⟩ .nil))))) .ret))))), [(.cell true 4 (.bool false) 4), (.tmp 5)]⟩
theorem low_limb_N_Add : lowF Try.prog Try.f66 = some ir_limb_N_Add.strip := by kernel_rfl
theorem ok_limb_N_Add {fu : Nat} {n_ : List Int} {m_ : List Int} {r : List Int × Int} (h : fn_limb_N_Add fu n_ m_ = some r) :
  EV.Fn Try.prog 66 [.g (flat [.i .u64 n_]), .g (flat [.i .u64 m_])] [] [] (fun v u nw => match r with | (l9001, x9003) => (v = .t2 (.g (flat [.i .u64 l9001])) (ib .u64 x9003) ∧ u = [] ∧ nw = [] ∧ (l9001.length = 4))) := by
 have key : EV.Fn Try.prog 66 [.g (flat [.i .u64 n_]), .g (flat [.i .u64 m_])] [] [] (fun v u nw => match r with | (l9001, x9003) => (v = .t2 (.g (flat [.i .u64 l9001])) (ib .u64 x9003) ∧ u = [] ∧ nw = [] ∧ (l9001.length = 4))) := by
  unfold fn_limb_N_Add at h
  refine d_fn (i := ir_limb_N_Add) (fn := Try.f66) (sl0 := [(0, .g (flat [.i .u64 n_])), (1, .g (flat [.i .u64 m_]))]) (hp0 := []) (by kernel_rfl) low_limb_N_Add mo rfl rfl rfl fun F z0 => ?_
  dsimp only [ir_limb_N_Add]
  refine gd_e h fun Xh_n_ h => ?_
  refine gd_e h fun Xh_m_ h => ?_
  refine wpC_seq ?_
  refine d_reg rfl ?_
  refine d_box rfl (fun _ => trivial) rfl fun kb1 kz2 => ?_
  refine d_box rfl (fun _ => trivial) rfl fun kb3 kz4 => ?_
  refine d_alo (g := [.i .u64 (List.replicate 4 0)]) (zeros_flat _ _ _) (fun _ => trivial) fun kb5 kz6 => ?_
  refine wpI_s rfl trivial ?_
  refine wpI_nil ?_
  refine seqK_n ?_
  refine wpC_seq ?_
  refine d_reg rfl ?_
  refine d_alo (g := [.i .u64 (List.replicate 4 0)]) (zeros_flat _ _ _) (fun _ => trivial) fun kb7 kz8 => ?_
  refine wpI_nil ?_
  refine seqK_n ?_
  refine wpC_seq ?_
  refine d_reg rfl ?_
  refine wpI_s rfl trivial ?_
  refine wpI_nil ?_
  refine seqK_n ?_
  refine wpC_seq ?_
  refine wpC_seq ?_
  refine d_reg rfl ?_
  refine wpI_s rfl trivial ?_
  refine wpI_nil ?_
  refine seqK_n ?_
  refine wpC_block ?_
  refine bind_e h fun o18 h hko18 => ?_
  refine d_loop (fun (z : List Int × Int × Int × Nat) => match z with | (l9, x11, x12, kz13) => (l9, x11, x12)) (fun (z : List Int × Int × Int × Nat) => (match z with | (l9, x11, x12, kz13) => ⟨[(2, .c (.p 100 kb1 0)), (3, .c (.p 101 kb3 0)), (4, .c (.p 102 kb5 0)), (6, .c (.p 103 kb7 0)), (7, ib .u64 x11), (9, ib .i64 x12)], [⟨100, kb1, 99, false, (0, 0), (.v (.int .u64 0)), flat [.i .u64 n_]⟩, ⟨101, kb3, 99, false, (0, 0), (.v (.int .u64 0)), flat [.i .u64 m_]⟩, ⟨102, kb5, 99, false, (0, 0), (.v (.int .u64 0)), flat [.i .u64 (List.replicate 4 0)]⟩, ⟨103, kb7, 99, false, (0, 0), (.v (.int .u64 0)), flat [.i .u64 l9]⟩], 104, kz13⟩ : St)) (fun (z : List Int × Int × Int × Nat) => match z with | (l9, x11, x12, kz13) => (l9.length = 4)) ((List.replicate 4 0), 0, 0, kz8) [100, 101, 102, 103] h List.length_replicate (leS2_c rfl rfl (leS2_c rfl rfl (leS2_c rfl rfl (leS2_c rfl rfl (leS2_c rfl rfl (leS2_c rfl rfl leS2_n)))))) (leH2_c rfl rfl rfl rfl rfl rfl (leH2_c rfl rfl rfl rfl rfl rfl (leH2_c rfl rfl rfl rfl rfl rfl (leH2_c rfl rfl rfl rfl rfl rfl leH2_n)))) rfl rfl ?_
  rintro rec ⟨l9, x11, x12, kz13⟩ h10 h
  show wpC _ _ _ _ _ (St.mk _ _ _ _)
  unfold fn_limb_N_Add_l1 at h; try dsimp only at h
  refine wpC_seq ?_
  refine d_reg rfl ?_
  refine d_b rfl trivial h fun t19 h => ?_
  refine wpI_nil ?_
  refine seqK_n ?_
  refine wpC_seq ?_
  refine d_cond rfl h (fun h => ?_) (fun h => ?_)
  ·refine wpC_skip ?_
   refine seqK_n ?_
   refine wpC_seq ?_
   refine wpC_block ?_
   refine wpC_seq ?_
   refine d_reg rfl ?_
   refine wpI_s rfl trivial ?_
   refine wpI_s rfl trivial ?_
   refine wpI_nil ?_
   refine seqK_n ?_
   refine d_reg rfl ?_
   refine wpI_s rfl trivial ?_
   refine wpI_s rfl trivial ?_
   refine gd_e h fun g20 h => ?_
   refine wpI_s rfl g20 ?_
   refine d_ld 0 (q := x12.toNat) rfl rfl rfl h (ar_offi (x12) rfl) fun x21 h => ?_
   refine wpI_s rfl trivial ?_
   refine gd_e h fun g22 h => ?_
   refine wpI_s rfl g22 ?_
   refine d_ld 0 (q := x12.toNat) rfl rfl rfl h (ar_offi (x12) rfl) fun x23 h => ?_
   refine wpI_s rfl trivial ?_
   refine gd_e h fun g24 h => ?_
   refine nm_e h fun x25 q_x25 h => ?_
   refine nm_e h fun x26 q_x26 h => ?_
   refine d_call (fn_add64 (hf := (by kernel_rfl : Try.prog.funcs[71]? = some Try.f71)) (by kernel_rfl) (by kernel_rfl) (by kernel_rfl) (by kernel_rfl) g24) rfl rfl haveRw_n haveRo_n (own_of rfl) ?_
   rintro _ _ _ kz27 ⟨rfl, rfl, rfl⟩
   refine ⟨_, rfl, trivial, ?_⟩
   rw [q_x25, q_x26]
   refine wpI_s rfl trivial ?_
   refine wpI_s rfl trivial ?_
   refine wpI_s rfl trivial ?_
   refine gd_e h fun g28 h => ?_
   refine wpI_s rfl g28 ?_
   refine d_st 0 (q := x12.toNat) rfl rfl rfl rfl h (ar_offi (x12) rfl) (fun _ => rfl) (fun _ => rfl) (fun _ => trivial) fun l29 h30 h => ?_
   refine wpI_s rfl trivial ?_
   refine wpI_nil ?_
   refine blockK_n ?_
   refine seqK_n ?_
   refine d_reg rfl ?_
   refine d_n rfl trivial h fun x31 h => ?_
   refine wpI_s rfl trivial ?_
   refine wpI_nil ?_
   refine lpK_n (l29, x26, x31, kz27) [100, 101, 102, 103] (h30.trans h10) h (leS2_c rfl rfl (leS2_c rfl rfl (leS2_c rfl rfl (leS2_c rfl rfl (leS2_c rfl rfl (leS2_c rfl rfl leS2_n)))))) (leH2_c rfl rfl rfl rfl rfl rfl (leH2_c rfl rfl rfl rfl rfl rfl (leH2_c rfl rfl rfl rfl rfl rfl (leH2_c rfl rfl rfl rfl rfl rfl leH2_n)))) rfl rfl
  ·refine wpC_exit ?_
   refine seqK_x ?_
   obtain rfl := Option.some.inj h
   have h := hko18; clear hko18; try dsimp only at h
   refine lpK_x ?_
   refine blockK_x ?_
   refine seqK_n ?_
   refine wpC_seq ?_
   refine d_reg rfl ?_
   refine d_lda 0 1 rfl rfl rfl rfl (by simp only [flen, h10]) ?_
   refine wpI_s rfl trivial ?_
   refine d_sta 0 rfl rfl rfl rfl rfl (by simp only [flen, h10]) (by simp only [flen, List.length_replicate]) rfl rfl trivial ?_
   refine wpI_s rfl trivial ?_
   refine wpI_nil ?_
   refine seqK_n ?_
   refine wpC_ret ?_
   obtain rfl := Option.some.inj h
   exact d_ret2 [] [] ⟨rfl, rfl, rfl, h10⟩ ⟨(rIs_a 0 1 rfl rfl rfl rfl (by simp only [flen, h10])), (rIs_t rfl rfl)⟩ leH2_n leH2_n rfl
 exact key.cong rfl blkEq_n blkEq_n

def ir_limb_N_Mul : IFn := ⟨62, (.seq (.reg [] (.cons ⟨none, (.w (some 2) (.box 99 4 (.int .u64 0) (.t 0)))⟩ (.cons ⟨none, (.w (some 3) (.box 99 4 (.int .u64 0) (.t 1)))⟩ (.cons ⟨none, (.w (some 4) (.alo 110 (.int .u64 0) (List.replicate 8 (.int .u64 0))))⟩ .nil)))) (.seq (.reg [] (.cons ⟨none, (.w (some 5) (.alo 110 (.int .u64 0) (List.replicate 8 (.int .u64 0))))⟩ .nil)) (.seq (.seq (.reg [] (.cons ⟨none, (.s 12 (.mv (.k (.int .i64 0))))⟩ .nil)) (.block 0 (.loop (.seq (.reg [] (.cons ⟨none, (.s 13 (.bin .lss (.t 12) (.k (.int .i64 4))))⟩ .nil)) (.seq (.cond (.t 13) .skip (.exit 0)) (.seq (.block 1 (.seq (.reg [] (.cons ⟨none, (.s 14 (.mv (.t 12)))⟩ (.cons ⟨none, (.s 6 (.mv (.t 14)))⟩ .nil))) (.seq (.reg [] (.cons ⟨none, (.s 7 (.mv (.k (.int .u64 0))))⟩ .nil)) (.seq (.seq (.reg [] (.cons ⟨none, (.s 15 (.mv (.k (.int .i64 0))))⟩ .nil)) (.block 2 (.loop (.seq (.reg [] (.cons ⟨none, (.s 16 (.bin .lss (.t 15) (.k (.int .i64 4))))⟩ .nil)) (.seq (.cond (.t 16) .skip (.exit 2)) (.seq (.block 3 (.seq (.reg [] (.cons ⟨none, (.s 17 (.mv (.t 15)))⟩ (.cons ⟨none, (.s 8 (.mv (.t 17)))⟩ .nil))) (.seq (.reg [] (.cons ⟨none, (.s 19 (.mv (.t 6)))⟩ (.cons ⟨none, (.s 20 (.ia 4 1 (.t 2) (.t 19)))⟩ (.cons ⟨none, (.r 21 (.ld (.int .u64 0) (.t 20)))⟩ (.cons ⟨none, (.s 22 (.mv (.t 8)))⟩ (.cons ⟨none, (.s 23 (.ia 4 1 (.t 3) (.t 22)))⟩ (.cons ⟨none, (.r 24 (.ld (.int .u64 0) (.t 23)))⟩ (.cons ⟨none, (.call (some 25) 43 [(.t 21), (.t 24)])⟩ (.cons ⟨none, (.s 18 (.mv (.t 25)))⟩ (.cons ⟨none, (.s 26 (.ext (.t 18) 0))⟩ (.cons ⟨none, (.s 27 (.ext (.t 18) 1))⟩ (.cons ⟨none, (.s 9 (.mv (.t 26)))⟩ (.cons ⟨none, (.s 10 (.mv (.t 27)))⟩ .nil))))))))))))) (.seq (.reg [] (.cons ⟨none, (.s 11 (.mv (.k (.int .u64 0))))⟩ .nil)) (.seq (.reg [] (.cons ⟨none, (.s 29 (.mv (.t 10)))⟩ (.cons ⟨none, (.s 30 (.mv (.t 6)))⟩ (.cons ⟨none, (.s 31 (.mv (.t 8)))⟩ (.cons ⟨none, (.s 32 (.bin .add (.t 30) (.t 31)))⟩ (.cons ⟨none, (.s 33 (.ia 8 1 (.t 5) (.t 32)))⟩ (.cons ⟨none, (.r 34 (.ld (.int .u64 0) (.t 33)))⟩ (.cons ⟨none, (.call (some 35) 71 [(.t 29), (.t 34), (.k (.int .u64 0))])⟩ (.cons ⟨none, (.s 28 (.mv (.t 35)))⟩ (.cons ⟨none, (.s 36 (.ext (.t 28) 0))⟩ (.cons ⟨none, (.s 37 (.ext (.t 28) 1))⟩ (.cons ⟨none, (.s 10 (.mv (.t 36)))⟩ (.cons ⟨none, (.s 11 (.mv (.t 37)))⟩ .nil))))))))))))) (.seq (.reg [] (.cons ⟨none, (.s 38 (.mv (.t 9)))⟩ (.cons ⟨none, (.s 39 (.mv (.t 11)))⟩ (.cons ⟨none, (.s 40 (.bin .add (.t 38) (.t 39)))⟩ (.cons ⟨none, (.s 9 (.mv (.t 40)))⟩ .nil))))) (.seq (.reg [] (.cons ⟨none, (.s 42 (.mv (.t 10)))⟩ (.cons ⟨none, (.s 43 (.mv (.t 7)))⟩ (.cons ⟨none, (.call (some 44) 71 [(.t 42), (.t 43), (.k (.int .u64 0))])⟩ (.cons ⟨none, (.s 41 (.mv (.t 44)))⟩ (.cons ⟨none, (.s 45 (.ext (.t 41) 0))⟩ (.cons ⟨none, (.s 46 (.ext (.t 41) 1))⟩ (.cons ⟨none, (.s 10 (.mv (.t 45)))⟩ (.cons ⟨none, (.s 11 (.mv (.t 46)))⟩ .nil))))))))) (.reg [] (.cons ⟨none, (.s 47 (.mv (.t 6)))⟩ (.cons ⟨none, (.s 48 (.mv (.t 8)))⟩ (.cons ⟨none, (.s 49 (.bin .add (.t 47) (.t 48)))⟩ (.cons ⟨none, (.s 50 (.mv (.t 10)))⟩ (.cons ⟨none, (.s 51 (.mv (.t 9)))⟩ (.cons ⟨none, (.s 52 (.mv (.t 11)))⟩ (.cons ⟨none, (.s 53 (.bin .add (.t 51) (.t 52)))⟩ (.cons ⟨none, (.s 54 (.ia 8 1 (.t 5) (.t 49)))⟩ (.cons ⟨none, (.w none (.st (.t 54) (.t 50)))⟩ (.cons ⟨none, (.s 7 (.mv (.t 53)))⟩ .nil)))))))))))))))))) (.reg [] (.cons ⟨none, (.s 55 (.bin .add (.t 15) (.k (.int .i64 1))))⟩ (.cons ⟨none, (.s 15 (.mv (.t 55)))⟩ .nil))))))))) (.reg [] (.cons ⟨none, (.s 56 (.mv (.t 6)))⟩ (.cons ⟨none, (.s 57 (.bin .add (.t 56) (.k (.int .i64 4))))⟩ (.cons ⟨none, (.s 58 (.mv (.t 7)))⟩ (.cons ⟨none, (.s 59 (.ia 8 1 (.t 5) (.t 57)))⟩ (.cons ⟨none, (.w none (.st (.t 59) (.t 58)))⟩ .nil)))))))))) (.reg [] (.cons ⟨none, (.s 60 (.bin .add (.t 12) (.k (.int .i64 1))))⟩ (.cons ⟨none, (.s 12 (.mv (.t 60)))⟩ .nil))))))))) (.seq (.reg [] (.cons ⟨none, (.r 61 (.lda 8 (.t 5)))⟩ (.cons ⟨none, (.w none (.sta 8 (.t 4) (.t 61)))⟩ .nil))) .ret)))), [(.cell true 8 (.bool false) 4)]⟩
theorem low_limb_N_Mul : lowF Try.prog Try.f70 = some ir_limb_N_Mul.strip := by kernel_rfl
theorem ok_limb_N_Mul {fu : Nat} {n_ : List Int} {m_ : List Int} {l9001 : List Int} (h : fn_limb_N_Mul fu n_ m_ = some l9001) :
  EV.Fn Try.prog 70 [.g (flat [.i .u64 n_]), .g (flat [.i .u64 m_])] [] [] (fun v u nw => v = .g (flat [.i .u64 l9001]) ∧ u = [] ∧ nw = [] ∧ (l9001.length = 8)) := by
 have key : EV.Fn Try.prog 70 [.g (flat [.i .u64 n_]), .g (flat [.i .u64 m_])] [] [] (fun v u nw => v = .g (flat [.i .u64 l9001]) ∧ u = [] ∧ nw = [] ∧ (l9001.length = 8)) := by
  unfold fn_limb_N_Mul at h
  refine d_fn (i := ir_limb_N_Mul) (fn := Try.f70) (sl0 := [(0, .g (flat [.i .u64 n_])), (1, .g (flat [.i .u64 m_]))]) (hp0 := []) (by kernel_rfl) low_limb_N_Mul mo rfl rfl rfl fun F z0 => ?_
  dsimp only [ir_limb_N_Mul]
  refine gd_e h fun Xh_n_ h => ?_
  refine gd_e h fun Xh_m_ h => ?_
  refine wpC_seq ?_
  refine d_reg rfl ?_
  refine d_box rfl (fun _ => trivial) rfl fun kb1 kz2 => ?_
  refine d_box rfl (fun _ => trivial) rfl fun kb3 kz4 => ?_
  refine d_alo (g := [.i .u64 (List.replicate 8 0)]) (zeros_flat _ _ _) (fun _ => trivial) fun kb5 kz6 => ?_
  refine wpI_nil ?_
  refine seqK_n ?_
  refine wpC_seq ?_
  refine d_reg rfl ?_
  refine d_alo (g := [.i .u64 (List.replicate 8 0)]) (zeros_flat _ _ _) (fun _ => trivial) fun kb7 kz8 => ?_
  refine wpI_nil ?_
  refine seqK_n ?_
  refine wpC_seq ?_
  refine wpC_seq ?_
  refine d_reg rfl ?_
  refine wpI_s rfl trivial ?_
  refine wpI_nil ?_
  refine seqK_n ?_
  refine wpC_block ?_
  refine bind_e h fun o16 h hko16 => ?_
  refine d_loop (fun (z : List Int × Int × Nat) => match z with | (l9, x11, kz12) => (l9, x11)) (fun (z : List Int × Int × Nat) => (match z with | (l9, x11, kz12) => ⟨[(2, .c (.p 100 kb1 0)), (3, .c (.p 101 kb3 0)), (4, .c (.p 102 kb5 0)), (5, .c (.p 103 kb7 0)), (12, ib .i64 x11)], [⟨100, kb1, 99, false, (0, 0), (.v (.int .u64 0)), flat [.i .u64 n_]⟩, ⟨101, kb3, 99, false, (0, 0), (.v (.int .u64 0)), flat [.i .u64 m_]⟩, ⟨102, kb5, 110, false, (0, 0), (.v (.int .u64 0)), flat [.i .u64 (List.replicate 8 0)]⟩, ⟨103, kb7, 110, false, (0, 0), (.v (.int .u64 0)), flat [.i .u64 l9]⟩], 104, kz12⟩ : St)) (fun (z : List Int × Int × Nat) => match z with | (l9, x11, kz12) => (l9.length = 8)) ((List.replicate 8 0), 0, kz8) [100, 101, 102, 103] h List.length_replicate (leS2_c rfl rfl (leS2_c rfl rfl (leS2_c rfl rfl (leS2_c rfl rfl (leS2_c rfl rfl leS2_n))))) (leH2_c rfl rfl rfl rfl rfl rfl (leH2_c rfl rfl rfl rfl rfl rfl (leH2_c rfl rfl rfl rfl rfl rfl (leH2_c rfl rfl rfl rfl rfl rfl leH2_n)))) rfl rfl ?_
  rintro rec ⟨l9, x11, kz12⟩ h10 h
  show wpC _ _ _ _ _ (St.mk _ _ _ _)
  unfold fn_limb_N_Mul_l2 at h; try dsimp only at h
  refine wpC_seq ?_
  refine d_reg rfl ?_
  refine d_b rfl trivial h fun t17 h => ?_
  refine wpI_nil ?_
  refine seqK_n ?_
  refine wpC_seq ?_
  refine d_cond rfl h (fun h => ?_) (fun h => ?_)
  ·refine wpC_skip ?_
   refine seqK_n ?_
   refine wpC_seq ?_
   refine wpC_block ?_
   refine wpC_seq ?_
   refine d_reg rfl ?_
   refine wpI_s rfl trivial ?_
   refine wpI_s rfl trivial ?_
   refine wpI_nil ?_
   refine seqK_n ?_
   refine wpC_seq ?_
   refine d_reg rfl ?_
   refine wpI_s rfl trivial ?_
   refine wpI_nil ?_
   refine seqK_n ?_
   refine wpC_seq ?_
   refine wpC_seq ?_
   refine d_reg rfl ?_
   refine wpI_s rfl trivial ?_
   refine wpI_nil ?_
   refine seqK_n ?_
   refine wpC_block ?_
   refine bind_e h fun o27 h hko27 => ?_
   refine d_loop (fun (z : List Int × Int × Int × Nat) => match z with | (l18, x20, x21, kz22) => (l18, x20, x21)) (fun (z : List Int × Int × Int × Nat) => (match z with | (l18, x20, x21, kz22) => ⟨[(2, .c (.p 100 kb1 0)), (3, .c (.p 101 kb3 0)), (4, .c (.p 102 kb5 0)), (5, .c (.p 103 kb7 0)), (6, ib .i64 x11), (7, ib .u64 x20), (12, ib .i64 x11), (15, ib .i64 x21)], [⟨100, kb1, 99, false, (0, 0), (.v (.int .u64 0)), flat [.i .u64 n_]⟩, ⟨101, kb3, 99, false, (0, 0), (.v (.int .u64 0)), flat [.i .u64 m_]⟩, ⟨102, kb5, 110, false, (0, 0), (.v (.int .u64 0)), flat [.i .u64 (List.replicate 8 0)]⟩, ⟨103, kb7, 110, false, (0, 0), (.v (.int .u64 0)), flat [.i .u64 l18]⟩], 104, kz22⟩ : St)) (fun (z : List Int × Int × Int × Nat) => match z with | (l18, x20, x21, kz22) => (l18.length = 8)) (l9, 0, 0, kz12) [100, 101, 102, 103] h h10 (leS2_c rfl rfl (leS2_c rfl rfl (leS2_c rfl rfl (leS2_c rfl rfl (leS2_c rfl rfl (leS2_c rfl rfl (leS2_c rfl rfl (leS2_c rfl rfl leS2_n)))))))) (leH2_c rfl rfl rfl rfl rfl rfl (leH2_c rfl rfl rfl rfl rfl rfl (leH2_c rfl rfl rfl rfl rfl rfl (leH2_c rfl rfl rfl rfl rfl rfl leH2_n)))) rfl rfl ?_
   rintro rec ⟨l18, x20, x21, kz22⟩ h19 h
   show wpC _ _ _ _ _ (St.mk _ _ _ _)
   unfold fn_limb_N_Mul_l1 at h; try dsimp only at h
   refine wpC_seq ?_
   refine d_reg rfl ?_
   refine d_b rfl trivial h fun t28 h => ?_
   refine wpI_nil ?_
   refine seqK_n ?_
   refine wpC_seq ?_
   refine d_cond rfl h (fun h => ?_) (fun h => ?_)
   ·refine wpC_skip ?_
    refine seqK_n ?_
    refine wpC_seq ?_
    refine wpC_block ?_
    refine wpC_seq ?_
    refine d_reg rfl ?_
    refine wpI_s rfl trivial ?_
    refine wpI_s rfl trivial ?_
    refine wpI_nil ?_
    refine seqK_n ?_
    refine wpC_seq ?_
    refine d_reg rfl ?_
    refine wpI_s rfl trivial ?_
    refine gd_e h fun g29 h => ?_
    refine wpI_s rfl g29 ?_
    refine d_ld 0 (q := x11.toNat) rfl rfl rfl h (ar_offi (x11) rfl) fun x30 h => ?_
    refine wpI_s rfl trivial ?_
    refine gd_e h fun g31 h => ?_
    refine wpI_s rfl g31 ?_
    refine d_ld 0 (q := x21.toNat) rfl rfl rfl h (ar_offi (x21) rfl) fun x32 h => ?_
    refine bind_e h fun o33 ho34 h => ?_
    obtain ⟨x35, x36⟩ := o33
    try dsimp only at h
    refine d_call (ok_math_bits_Mul64     (h := ho34)) rfl rfl haveRw_n haveRo_n (own_of rfl) ?_
    rintro _ _ _ kz37 ⟨rfl, rfl, rfl⟩
    refine ⟨_, rfl, trivial, ?_⟩
    refine wpI_s rfl trivial ?_
    refine wpI_s rfl trivial ?_
    refine wpI_s rfl trivial ?_
    refine wpI_s rfl trivial ?_
    refine wpI_s rfl trivial ?_
    refine wpI_nil ?_
    refine seqK_n ?_
    refine wpC_seq ?_
    refine d_reg rfl ?_
    refine wpI_s rfl trivial ?_
    refine wpI_nil ?_
    refine seqK_n ?_
    refine wpC_seq ?_
    refine d_reg rfl ?_
    refine wpI_s rfl trivial ?_
    refine wpI_s rfl trivial ?_
    refine wpI_s rfl trivial ?_
    refine d_n rfl trivial h fun x38 h => ?_
    refine gd_e h fun g39 h => ?_
    refine wpI_s rfl g39 ?_
    refine d_ld 0 (q := x38.toNat) rfl rfl rfl h (ar_offi (x38) rfl) fun x40 h => ?_
    refine gd_e h fun g41 h => ?_
    refine nm_e h fun x42 q_x42 h => ?_
    refine nm_e h fun x43 q_x43 h => ?_
    refine d_call (fn_add64 (hf := (by kernel_rfl : Try.prog.funcs[71]? = some Try.f71)) (by kernel_rfl) (by kernel_rfl) (by kernel_rfl) (by kernel_rfl) g41) rfl rfl haveRw_n haveRo_n (own_of rfl) ?_
    rintro _ _ _ kz44 ⟨rfl, rfl, rfl⟩
    refine ⟨_, rfl, trivial, ?_⟩
    rw [q_x42, q_x43]
    refine wpI_s rfl trivial ?_
    refine wpI_s rfl trivial ?_
    refine wpI_s rfl trivial ?_
    refine wpI_s rfl trivial ?_
    refine wpI_s rfl trivial ?_
    refine wpI_nil ?_
    refine seqK_n ?_
    refine wpC_seq ?_
    refine d_reg rfl ?_
    refine wpI_s rfl trivial ?_
    refine wpI_s rfl trivial ?_
    refine d_n rfl trivial h fun x45 h => ?_
    refine wpI_s rfl trivial ?_
    refine wpI_nil ?_
    refine seqK_n ?_
    refine wpC_seq ?_
    refine d_reg rfl ?_
    refine wpI_s rfl trivial ?_
    refine wpI_s rfl trivial ?_
    refine gd_e h fun g46 h => ?_
    refine nm_e h fun x47 q_x47 h => ?_
    refine nm_e h fun x48 q_x48 h => ?_
    refine d_call (fn_add64 (hf := (by kernel_rfl : Try.prog.funcs[71]? = some Try.f71)) (by kernel_rfl) (by kernel_rfl) (by kernel_rfl) (by kernel_rfl) g46) rfl rfl haveRw_n haveRo_n (own_of rfl) ?_
    rintro _ _ _ kz49 ⟨rfl, rfl, rfl⟩
    refine ⟨_, rfl, trivial, ?_⟩
    rw [q_x47, q_x48]
    refine wpI_s rfl trivial ?_
    refine wpI_s rfl trivial ?_
    refine wpI_s rfl trivial ?_
    refine wpI_s rfl trivial ?_
    refine wpI_s rfl trivial ?_
    refine wpI_nil ?_
    refine seqK_n ?_
    refine d_reg rfl ?_
    refine wpI_s rfl trivial ?_
    refine wpI_s rfl trivial ?_
    refine d_n rfl trivial h fun x50 h => ?_
    refine wpI_s rfl trivial ?_
    refine wpI_s rfl trivial ?_
    refine wpI_s rfl trivial ?_
    refine d_n rfl trivial h fun x51 h => ?_
    refine gd_e h fun g52 h => ?_
    refine wpI_s rfl g52 ?_
    refine d_st 0 (q := x50.toNat) rfl rfl rfl rfl h (ar_offi (x50) rfl) (fun _ => rfl) (fun _ => rfl) (fun _ => trivial) fun l53 h54 h => ?_
    refine wpI_s rfl trivial ?_
    refine wpI_nil ?_
    refine blockK_n ?_
    refine seqK_n ?_
    refine d_reg rfl ?_
    refine d_n rfl trivial h fun x55 h => ?_
    refine wpI_s rfl trivial ?_
    refine wpI_nil ?_
    refine lpK_n (l53, x51, x55, kz49) [100, 101, 102, 103] (h54.trans h19) h (leS2_c rfl rfl (leS2_c rfl rfl (leS2_c rfl rfl (leS2_c rfl rfl (leS2_c rfl rfl (leS2_c rfl rfl (leS2_c rfl rfl (leS2_c rfl rfl leS2_n)))))))) (leH2_c rfl rfl rfl rfl rfl rfl (leH2_c rfl rfl rfl rfl rfl rfl (leH2_c rfl rfl rfl rfl rfl rfl (leH2_c rfl rfl rfl rfl rfl rfl leH2_n)))) rfl rfl
   ·refine wpC_exit ?_
    refine seqK_x ?_
    obtain rfl := Option.some.inj h
    have h := hko27; clear hko27; try dsimp only at h
    refine lpK_x ?_
    refine blockK_x ?_
    refine seqK_n ?_
    refine d_reg rfl ?_
    refine wpI_s rfl trivial ?_
    refine d_n rfl trivial h fun x56 h => ?_
    refine wpI_s rfl trivial ?_
    refine gd_e h fun g57 h => ?_
    refine wpI_s rfl g57 ?_
    refine d_st 0 (q := x56.toNat) rfl rfl rfl rfl h (ar_offi (x56) rfl) (fun _ => rfl) (fun _ => rfl) (fun _ => trivial) fun l58 h59 h => ?_
    refine wpI_nil ?_
    refine blockK_n ?_
    refine seqK_n ?_
    refine d_reg rfl ?_
    refine d_n rfl trivial h fun x60 h => ?_
    refine wpI_s rfl trivial ?_
    refine wpI_nil ?_
    refine lpK_n (l58, x60, kz22) [100, 101, 102, 103] (h59.trans h19) h (leS2_c rfl rfl (leS2_c rfl rfl (leS2_c rfl rfl (leS2_c rfl rfl (leS2_c rfl rfl leS2_n))))) (leH2_c rfl rfl rfl rfl rfl rfl (leH2_c rfl rfl rfl rfl rfl rfl (leH2_c rfl rfl rfl rfl rfl rfl (leH2_c rfl rfl rfl rfl rfl rfl leH2_n)))) rfl rfl
  ·refine wpC_exit ?_
   refine seqK_x ?_
   obtain rfl := Option.some.inj h
   have h := hko16; clear hko16; try dsimp only at h
   refine lpK_x ?_
   refine blockK_x ?_
   refine seqK_n ?_
   refine wpC_seq ?_
   refine d_reg rfl ?_
   refine d_lda 0 1 rfl rfl rfl rfl (by simp only [flen, h10]) ?_
   refine d_sta 0 rfl rfl rfl rfl rfl (by simp only [flen, h10]) (by simp only [flen, List.length_replicate]) rfl rfl trivial ?_
   refine wpI_nil ?_
   refine seqK_n ?_
   refine wpC_ret ?_
   obtain rfl := Option.some.inj h
   exact d_ret2 [] [] ⟨rfl, rfl, rfl, h10⟩ (rIs_a 0 1 rfl rfl rfl rfl (by simp only [flen, h10])) leH2_n leH2_n rfl
 exact key.cong rfl blkEq_n blkEq_n

def ir_poly_fold : IFn := ⟨55, (.seq (.reg [] (.cons ⟨none, (.w (some 1) (.box 99 4 (.int .u64 0) (.t 0)))⟩ (.cons ⟨none, (.w (some 2) (.alo 99 (.int .u64 0) (List.replicate 4 (.int .u64 0))))⟩ .nil))) (.seq (.reg [] (.cons ⟨none, (.s 11 (.ia 4 1 (.t 1) (.k (.int .i64 0))))⟩ (.cons ⟨none, (.r 12 (.ld (.int .u64 0) (.t 11)))⟩ (.cons ⟨none, (.s 13 (.ia 4 1 (.t 1) (.k (.int .i64 1))))⟩ (.cons ⟨none, (.r 14 (.ld (.int .u64 0) (.t 13)))⟩ (.cons ⟨none, (.s 15 (.ia 4 1 (.t 1) (.k (.int .i64 2))))⟩ (.cons ⟨none, (.r 16 (.ld (.int .u64 0) (.t 15)))⟩ (.cons ⟨none, (.s 17 (.bin .and (.t 16) (.k (.int .u64 3))))⟩ (.cons ⟨none, (.s 18 (.bld (List.replicate 4 (.int .u64 0)) [(0, (1, (.t 12))), (1, (1, (.t 14))), (2, (1, (.t 17))), (3, (1, (.k (.int .u64 0))))]))⟩ (.cons ⟨none, (.w (some 3) (.alo 99 (.int .u64 0) (List.replicate 4 (.int .u64 0))))⟩ (.cons ⟨none, (.w none (.sta 4 (.t 3) (.t 18)))⟩ .nil))))))))))) (.seq (.reg [] (.cons ⟨none, (.s 20 (.ia 4 1 (.t 1) (.k (.int .i64 2))))⟩ (.cons ⟨none, (.r 21 (.ld (.int .u64 0) (.t 20)))⟩ (.cons ⟨none, (.s 22 (.bin .shr (.t 21) (.k (.int .u64 2))))⟩ (.cons ⟨none, (.s 23 (.ia 4 1 (.t 1) (.k (.int .i64 3))))⟩ (.cons ⟨none, (.r 24 (.ld (.int .u64 0) (.t 23)))⟩ (.cons ⟨none, (.s 25 (.bin .shl (.t 24) (.k (.int .u64 62))))⟩ (.cons ⟨none, (.s 26 (.bin .or (.t 22) (.t 25)))⟩ (.cons ⟨none, (.call (some 27) 43 [(.t 26), (.k (.int .u64 5))])⟩ (.cons ⟨none, (.s 19 (.mv (.t 27)))⟩ (.cons ⟨none, (.s 28 (.ext (.t 19) 0))⟩ (.cons ⟨none, (.s 29 (.ext (.t 19) 1))⟩ (.cons ⟨none, (.s 4 (.mv (.t 28)))⟩ (.cons ⟨none, (.s 5 (.mv (.t 29)))⟩ .nil)))))))))))))) (.seq (.reg [] (.cons ⟨none, (.s 31 (.ia 4 1 (.t 1) (.k (.int .i64 3))))⟩ (.cons ⟨none, (.r 32 (.ld (.int .u64 0) (.t 31)))⟩ (.cons ⟨none, (.s 33 (.bin .shr (.t 32) (.k (.int .u64 2))))⟩ (.cons ⟨none, (.call (some 34) 43 [(.t 33), (.k (.int .u64 5))])⟩ (.cons ⟨none, (.s 30 (.mv (.t 34)))⟩ (.cons ⟨none, (.s 35 (.ext (.t 30) 0))⟩ (.cons ⟨none, (.s 36 (.ext (.t 30) 1))⟩ (.cons ⟨none, (.s 6 (.mv (.t 35)))⟩ (.cons ⟨none, (.s 7 (.mv (.t 36)))⟩ .nil)))))))))) (.seq (.reg [] (.cons ⟨none, (.s 38 (.mv (.t 7)))⟩ (.cons ⟨none, (.s 39 (.mv (.t 4)))⟩ (.cons ⟨none, (.call (some 40) 71 [(.t 38), (.t 39), (.k (.int .u64 0))])⟩ (.cons ⟨none, (.s 37 (.mv (.t 40)))⟩ (.cons ⟨none, (.s 41 (.ext (.t 37) 0))⟩ (.cons ⟨none, (.s 42 (.ext (.t 37) 1))⟩ (.cons ⟨none, (.s 7 (.mv (.t 41)))⟩ (.cons ⟨none, (.s 8 (.mv (.t 42)))⟩ .nil))))))))) (.seq (.reg [] (.cons ⟨none, (.r 44 (.lda 4 (.t 3)))⟩ (.cons ⟨none, (.s 45 (.mv (.t 5)))⟩ (.cons ⟨none, (.s 46 (.mv (.t 7)))⟩ (.cons ⟨none, (.s 47 (.mv (.t 6)))⟩ (.cons ⟨none, (.s 48 (.mv (.t 8)))⟩ (.cons ⟨none, (.s 49 (.bin .add (.t 47) (.t 48)))⟩ (.cons ⟨none, (.s 50 (.bld (List.replicate 4 (.int .u64 0)) [(0, (1, (.t 45))), (1, (1, (.t 46))), (2, (1, (.t 49))), (3, (1, (.k (.int .u64 0))))]))⟩ (.cons ⟨none, (.call (some 51) 66 [(.t 44), (.t 50)])⟩ (.cons ⟨none, (.s 43 (.mv (.t 51)))⟩ (.cons ⟨none, (.s 52 (.ext (.t 43) 0))⟩ (.cons ⟨none, (.s 53 (.ext (.t 43) 1))⟩ (.cons ⟨none, (.w (some 9) (.alo 99 (.int .u64 0) (List.replicate 4 (.int .u64 0))))⟩ (.cons ⟨none, (.w none (.sta 4 (.t 9) (.t 52)))⟩ (.cons ⟨none, (.s 10 (.mv (.t 53)))⟩ .nil))))))))))))))) (.seq (.reg [] (.cons ⟨none, (.r 54 (.lda 4 (.t 9)))⟩ (.cons ⟨none, (.w none (.sta 4 (.t 2) (.t 54)))⟩ .nil))) .ret))))))), [(.cell true 4 (.bool false) 2)]⟩
theorem low_poly_fold : lowF Try.prog Try.f62 = some ir_poly_fold.strip := by kernel_rfl
theorem ok_poly_fold {fu : Nat} {n_ : List Int} {l9001 : List Int} (h : fn_poly_fold fu n_ = some l9001) :
  EV.Fn Try.prog 62 [.g (flat [.i .u64 n_])] [] [] (fun v u nw => v = .g (flat [.i .u64 l9001]) ∧ u = [] ∧ nw = [] ∧ (l9001.length = 4)) := by
 have key : EV.Fn Try.prog 62 [.g (flat [.i .u64 n_])] [] [] (fun v u nw => v = .g (flat [.i .u64 l9001]) ∧ u = [] ∧ nw = [] ∧ (l9001.length = 4)) := by
  unfold fn_poly_fold at h
  refine d_fn (i := ir_poly_fold) (fn := Try.f62) (sl0 := [(0, .g (flat [.i .u64 n_]))]) (hp0 := []) (by kernel_rfl) low_poly_fold mo rfl rfl rfl fun F z0 => ?_
  dsimp only [ir_poly_fold]
  refine gd_e h fun Xh_n_ h => ?_
  refine wpC_seq ?_
  refine d_reg rfl ?_
  refine d_box rfl (fun _ => trivial) rfl fun kb1 kz2 => ?_
  refine d_alo (g := [.i .u64 (List.replicate 4 0)]) (zeros_flat _ _ _) (fun _ => trivial) fun kb3 kz4 => ?_
  refine wpI_nil ?_
  refine seqK_n ?_
  refine wpC_seq ?_
  refine d_reg rfl ?_
  refine wpI_s rfl (by decide) ?_
  refine d_ld 0 (q := 0) rfl rfl rfl h (ar_offi (0) rfl) fun x5 h => ?_
  refine wpI_s rfl (by decide) ?_
  refine d_ld 0 (q := 1) rfl rfl rfl h (ar_offi (1) rfl) fun x6 h => ?_
  refine wpI_s rfl (by decide) ?_
  refine d_ld 0 (q := 2) rfl rfl rfl h (ar_offi (2) rfl) fun x7 h => ?_
  refine d_n rfl trivial h fun x8 h => ?_
  refine d_bld (g := [.i .u64 [x5, x6, x8, 0]]) (by rfl) ?_
  refine d_alo (g := [.i .u64 (List.replicate 4 0)]) (zeros_flat _ _ _) (fun _ => trivial) fun kb9 kz10 => ?_
  refine d_sta 0 rfl rfl rfl rfl rfl rfl (by simp only [flen, List.length_replicate]) rfl rfl trivial ?_
  refine wpI_nil ?_
  refine seqK_n ?_
  refine wpC_seq ?_
  refine d_reg rfl ?_
  refine wpI_s rfl (by decide) ?_
  refine d_ld 0 (q := 2) rfl rfl rfl h (ar_offi (2) rfl) fun x11 h => ?_
  refine d_n rfl (by decide) h fun x12 h => ?_
  refine wpI_s rfl (by decide) ?_
  refine d_ld 0 (q := 3) rfl rfl rfl h (ar_offi (3) rfl) fun x13 h => ?_
  refine d_n rfl (by decide) h fun x14 h => ?_
  refine d_n rfl trivial h fun x15 h => ?_
  refine bind_e h fun o16 ho17 h => ?_
  obtain ⟨x18, x19⟩ := o16
  try dsimp only at h
  refine d_call (ok_math_bits_Mul64     (h := ho17)) rfl rfl haveRw_n haveRo_n (own_of rfl) ?_
  rintro _ _ _ kz20 ⟨rfl, rfl, rfl⟩
  refine ⟨_, rfl, trivial, ?_⟩
  refine wpI_s rfl trivial ?_
  refine wpI_s rfl trivial ?_
  refine wpI_s rfl trivial ?_
  refine wpI_s rfl trivial ?_
  refine wpI_s rfl trivial ?_
  refine wpI_nil ?_
  refine seqK_n ?_
  refine wpC_seq ?_
  refine d_reg rfl ?_
  refine wpI_s rfl (by decide) ?_
  refine d_ld 0 (q := 3) rfl rfl rfl h (ar_offi (3) rfl) fun x21 h => ?_
  refine d_n rfl (by decide) h fun x22 h => ?_
  refine bind_e h fun o23 ho24 h => ?_
  obtain ⟨x25, x26⟩ := o23
  try dsimp only at h
  refine d_call (ok_math_bits_Mul64     (h := ho24)) rfl rfl haveRw_n haveRo_n (own_of rfl) ?_
  rintro _ _ _ kz27 ⟨rfl, rfl, rfl⟩
  refine ⟨_, rfl, trivial, ?_⟩
  refine wpI_s rfl trivial ?_
  refine wpI_s rfl trivial ?_
  refine wpI_s rfl trivial ?_
  refine wpI_s rfl trivial ?_
  refine wpI_s rfl trivial ?_
  refine wpI_nil ?_
  refine seqK_n ?_
  refine wpC_seq ?_
  refine d_reg rfl ?_
  refine wpI_s rfl trivial ?_
  refine wpI_s rfl trivial ?_
  refine gd_e h fun g28 h => ?_
  refine nm_e h fun x29 q_x29 h => ?_
  refine nm_e h fun x30 q_x30 h => ?_
  refine d_call (fn_add64 (hf := (by kernel_rfl : Try.prog.funcs[71]? = some Try.f71)) (by kernel_rfl) (by kernel_rfl) (by kernel_rfl) (by kernel_rfl) g28) rfl rfl haveRw_n haveRo_n (own_of rfl) ?_
  rintro _ _ _ kz31 ⟨rfl, rfl, rfl⟩
  refine ⟨_, rfl, trivial, ?_⟩
  rw [q_x29, q_x30]
  refine wpI_s rfl trivial ?_
  refine wpI_s rfl trivial ?_
  refine wpI_s rfl trivial ?_
  refine wpI_s rfl trivial ?_
  refine wpI_s rfl trivial ?_
  refine wpI_nil ?_
  refine seqK_n ?_
  refine wpC_seq ?_
  refine d_reg rfl ?_
  refine d_lda 0 1 rfl rfl rfl rfl rfl ?_
  refine wpI_s rfl trivial ?_
  refine wpI_s rfl trivial ?_
  refine wpI_s rfl trivial ?_
  refine wpI_s rfl trivial ?_
  refine d_n rfl trivial h fun x32 h => ?_
  refine d_bld (g := [.i .u64 [x19, x29, x32, 0]]) (by rfl) ?_
  refine bind_e h fun o33 ho34 h => ?_
  obtain ⟨l35, x36⟩ := o33
  try dsimp only at h
  refine d_call (ok_limb_N_Add     (h := ho34)) rfl rfl haveRw_n haveRo_n (own_of rfl) ?_
  rintro _ _ _ kz38 ⟨rfl, rfl, rfl, h37⟩
  refine ⟨_, rfl, trivial, ?_⟩
  refine gd_e h fun g39 h => ?_
  refine wpI_s rfl trivial ?_
  refine wpI_s rfl trivial ?_
  refine wpI_s rfl trivial ?_
  refine d_alo (g := [.i .u64 (List.replicate 4 0)]) (zeros_flat _ _ _) (fun _ => trivial) fun kb40 kz41 => ?_
  refine d_sta 0 rfl rfl rfl rfl rfl (by simp only [flen, g39]) (by simp only [flen, List.length_replicate]) rfl rfl trivial ?_
  refine wpI_s rfl trivial ?_
  refine wpI_nil ?_
  refine seqK_n ?_
  refine wpC_seq ?_
  refine d_reg rfl ?_
  refine d_lda 0 1 rfl rfl rfl rfl (by simp only [flen, g39]) ?_
  refine d_sta 0 rfl rfl rfl rfl rfl (by simp only [flen, g39]) (by simp only [flen, List.length_replicate]) rfl rfl trivial ?_
  refine wpI_nil ?_
  refine seqK_n ?_
  refine wpC_ret ?_
  obtain rfl := Option.some.inj h
  exact d_ret2 [] [] ⟨rfl, rfl, rfl, g39⟩ (rIs_a 0 1 rfl rfl rfl rfl (by simp only [flen, g39])) leH2_n leH2_n rfl
 exact key.cong rfl blkEq_n blkEq_n

def ir_poly_state_turn : IFn := ⟨47, (.seq (.reg [] (.cons ⟨none, (.w (some 2) (.alo 23 (.int .u8 0) (List.replicate 32 (.int .u8 0))))⟩ .nil)) (.seq (.reg [] (.cons ⟨none, (.s 6 (.sla 32 1 (.t 2) none none none))⟩ (.cons ⟨none, (.s 7 (.mv (.t 0)))⟩ (.cons ⟨none, (.s 8 (.nil (.t 7)))⟩ (.cons ⟨none, (.s 9 (.fa 8 (.t 8)))⟩ (.cons ⟨none, (.s 10 (.mv (.t 0)))⟩ (.cons ⟨none, (.s 11 (.nil (.t 10)))⟩ (.cons ⟨none, (.s 12 (.fa 24 (.t 11)))⟩ (.cons ⟨none, (.r 13 (.ld (.int .i64 0) (.t 12)))⟩ (.cons ⟨none, (.s 14 (.sla 16 1 (.t 9) none (some (.t 13)) none))⟩ (.cons ⟨none, (.w (some 15) (.cpy 1 (.t 6) (.t 14)))⟩ .nil))))))))))) (.seq (.reg [] (.cons ⟨none, (.s 16 (.mv (.t 0)))⟩ (.cons ⟨none, (.s 17 (.nil (.t 16)))⟩ (.cons ⟨none, (.s 18 (.fa 24 (.t 17)))⟩ (.cons ⟨none, (.r 19 (.ld (.int .i64 0) (.t 18)))⟩ (.cons ⟨none, (.s 20 (.ia 32 1 (.t 2) (.t 19)))⟩ (.cons ⟨none, (.w none (.st (.t 20) (.k (.int .u8 1))))⟩ .nil))))))) (.seqJ (.reg [0, 2] (.cons ⟨none, (.s 22 (.mv (.t 0)))⟩ (.cons ⟨none, (.s 23 (.nil (.t 22)))⟩ (.cons ⟨none, (.s 24 (.fa 0 (.t 23)))⟩ (.cons ⟨none, (.q 25 (.lda 4 (.t 24)))⟩ (.cons ⟨none, (.q 26 (.lda 32 (.t 2)))⟩ (.alt (.cons ⟨none, (.call (some 27) 65 [(.t 26)])⟩ (.alt (.cons ⟨none, (.call (some 28) 66 [(.t 25), (.t 27)])⟩ (.cons ⟨none, (.s 21 (.mv (.t 28)))⟩ (.cons ⟨none, (.s 29 (.ext (.t 21) 0))⟩ (.cons ⟨none, (.s 30 (.ext (.t 21) 1))⟩ (.cons ⟨none, (.w (some 3) (.alo 99 (.int .u64 0) (List.replicate 4 (.int .u64 0))))⟩ (.cons ⟨none, (.w none (.sta 4 (.t 3) (.t 29)))⟩ (.cons ⟨none, (.s 4 (.mv (.t 30)))⟩ .nil))))))) (.cons ⟨none, (.w (some 3) (.alo 99 (.int .u64 0) (List.replicate 4 (.int .u64 0))))⟩ (.cons ⟨none, (.call (some 28) 66 [(.t 25), (.t 27)])⟩ (.cons ⟨none, (.s 21 (.mv (.t 28)))⟩ (.cons ⟨none, (.s 29 (.ext (.t 21) 0))⟩ (.cons ⟨none, (.s 30 (.ext (.t 21) 1))⟩ (.cons ⟨none, (.w none (.sta 4 (.t 3) (.t 29)))⟩ (.cons ⟨none, (.s 4 (.mv (.t 30)))⟩ .nil))))))))) (.cons ⟨none, (.w (some 3) (.alo 99 (.int .u64 0) (List.replicate 4 (.int .u64 0))))⟩ (.cons ⟨none, (.call (some 27) 65 [(.t 26)])⟩ (.cons ⟨none, (.call (some 28) 66 [(.t 25), (.t 27)])⟩ (.cons ⟨none, (.s 21 (.mv (.t 28)))⟩ (.cons ⟨none, (.s 29 (.ext (.t 21) 0))⟩ (.cons ⟨none, (.s 30 (.ext (.t 21) 1))⟩ (.cons ⟨none, (.w none (.sta 4 (.t 3) (.t 29)))⟩ (.cons ⟨none, (.s 4 (.mv (.t 30)))⟩ .nil))))))))))))))) (.seqJ (.reg [3, 0] (.cons ⟨none, (.q 31 (.lda 4 (.t 3)))⟩ (.cons ⟨none, (.s 32 (.mv (.t 0)))⟩ (.cons ⟨none, (.s 33 (.nil (.t 32)))⟩ (.cons ⟨none, (.s 34 (.fa 4 (.t 33)))⟩ (.cons ⟨none, (.q 35 (.lda 4 (.t 34)))⟩ (.alt (.cons ⟨none, (.call (some 36) 70 [(.t 31), (.t 35)])⟩ (.cons ⟨none, (.w (some 5) (.alo 110 (.int .u64 0) (List.replicate 8 (.int .u64 0))))⟩ (.cons ⟨none, (.w none (.sta 8 (.t 5) (.t 36)))⟩ .nil))) (.cons ⟨none, (.w (some 5) (.alo 110 (.int .u64 0) (List.replicate 8 (.int .u64 0))))⟩ (.cons ⟨none, (.call (some 36) 70 [(.t 31), (.t 35)])⟩ (.cons ⟨none, (.w none (.sta 8 (.t 5) (.t 36)))⟩ .nil)))))))))) (.seq (.reg [] (.cons ⟨none, (.s 37 (.mv (.t 0)))⟩ (.cons ⟨none, (.s 38 (.sla 8 1 (.t 5) none (some (.k (.int .i64 4))) none))⟩ (.cons ⟨none, (.s 39 (.sap 4 (.t 38)))⟩ (.cons ⟨none, (.r 40 (.lda 4 (.t 39)))⟩ (.cons ⟨none, (.call (some 41) 62 [(.t 40)])⟩ (.cons ⟨none, (.s 42 (.nil (.t 37)))⟩ (.cons ⟨none, (.s 43 (.fa 0 (.t 42)))⟩ (.cons ⟨none, (.w none (.sta 4 (.t 43) (.t 41)))⟩ .nil))))))))) (.reg [] (.cons ⟨none, (.s 44 (.mv (.t 0)))⟩ (.cons ⟨none, (.s 45 (.nil (.t 44)))⟩ (.cons ⟨none, (.s 46 (.fa 24 (.t 45)))⟩ (.cons ⟨none, (.w none (.st (.t 46) (.k (.int .i64 0))))⟩ .nil))))))))))), []⟩
theorem low_poly_state_turn : lowF Try.prog Try.f61 = some ir_poly_state_turn.strip := by kernel_rfl
theorem ok_poly_state_turn {fu : Nat} (i0 : Nat) {X0b : Nat} {X0ty : Nat} {s_0 : List Int} {s_1 : List Int} {s_2 : List Int} {s_3 : Int} {l9001 : List Int} (h : fn_poly_state_turn fu s_0 s_1 s_2 s_3 = some l9001) :
  EV.Fn Try.prog 61 [.c (.p 0 X0b 0)] [⟨i0, X0b, X0ty, false, (0, 0), (.v undef), flat [.i .u64 s_0, .i .u64 s_1, .i .u8 s_2, .c (.v (.int .i64 s_3))]⟩] [] (fun v u nw => v = .t0 ∧ u = [flat [.i .u64 l9001, .i .u64 s_1, .i .u8 s_2, .c (.v (.int .i64 0))]] ∧ nw = [] ∧ (l9001.length = 4)) := by
 have key : EV.Fn Try.prog 61 [.c (.p 0 X0b 0)] [⟨0, X0b, X0ty, false, (0, 0), (.v undef), flat [.i .u64 s_0, .i .u64 s_1, .i .u8 s_2, .c (.v (.int .i64 s_3))]⟩] [] (fun v u nw => v = .t0 ∧ u = [flat [.i .u64 l9001, .i .u64 s_1, .i .u8 s_2, .c (.v (.int .i64 0))]] ∧ nw = [] ∧ (l9001.length = 4)) := by
  unfold fn_poly_state_turn at h
  refine d_fn (i := ir_poly_state_turn) (fn := Try.f61) (sl0 := [(0, .c (.p 0 X0b 0))]) (hp0 := [⟨0, X0b, X0ty, false, (0, 0), (.v undef), flat [.i .u64 s_0, .i .u64 s_1, .i .u8 s_2, .c (.v (.int .i64 s_3))]⟩]) (by kernel_rfl) low_poly_state_turn mo rfl rfl rfl fun F z0 => ?_
  dsimp only [ir_poly_state_turn]
  refine gd_e h fun Xh_s_0 h => ?_
  refine gd_e h fun Xh_s_1 h => ?_
  refine gd_e h fun Xh_s_2 h => ?_
  refine wpC_seq ?_
  refine d_reg rfl ?_
  refine d_alo (g := [.i .u8 (List.replicate 32 0)]) (zeros_flat _ _ _) (fun _ => trivial) fun kb1 kz2 => ?_
  refine wpI_nil ?_
  refine seqK_n ?_
  refine wpC_seq ?_
  refine d_reg rfl ?_
  refine d_sla rfl rfl rfl (by decide) fun ko3 kc4 h5 h6 => ?_
  replace h5 : 0 < 32 → 0 = ko3 := by intro h0; have := h5 (by omega); omega
  replace h6 : 32 ≤ kc4 := by omega
  have h7 : 32 ≤ 32 := by omega
  refine wpI_s rfl trivial ?_
  refine wpI_s rfl trivial ?_
  refine wpI_s rfl trivial ?_
  refine wpI_s rfl trivial ?_
  refine wpI_s rfl trivial ?_
  refine wpI_s rfl trivial ?_
  refine d_ldc 3 rfl rfl rfl (by simp only [sgPos, Xh_s_0, Xh_s_1, Xh_s_2]) rfl ?_
  refine gd_e h fun g8 h => ?_
  refine d_sla rfl rfl rfl g8 fun ko9 kc10 h11 h12 => ?_
  replace h11 : 0 < s_3.toNat → 8 = ko9 := by intro h0; have := h11 (by omega); omega
  replace h12 : s_3.toNat ≤ kc10 := by omega
  have h13 : s_3.toNat ≤ 16 := by have := g8; omega
  refine d_cpy (j2 := 2) 0 (p := 0) (p2 := 8) (q0 := 0) (q2 := 0) rfl rfl rfl rfl rfl rfl h rfl (by simp only [sgPos, Xh_s_0, Xh_s_1]) (hs_zero h5) (hs_zero h11) (by rw [Xh_s_2]; first | exact h13 | (rw [Nat.zero_add]; exact h13)) (fun _ => rfl) (fun _ => rfl) (fun _ => trivial) fun l14 h15 h => ?_
  refine wpI_nil ?_
  refine seqK_n ?_
  refine wpC_seq ?_
  refine d_reg rfl ?_
  refine wpI_s rfl trivial ?_
  refine wpI_s rfl trivial ?_
  refine wpI_s rfl trivial ?_
  refine d_ldc 3 rfl rfl rfl (by simp only [sgPos, Xh_s_0, Xh_s_1, Xh_s_2]) rfl ?_
  refine gd_e h fun g16 h => ?_
  refine wpI_s rfl g16 ?_
  refine d_st 0 (q := s_3.toNat) rfl rfl rfl rfl h (ar_offi (s_3) rfl) (fun _ => rfl) (fun _ => rfl) (fun _ => trivial) fun l17 h18 h => ?_
  refine wpI_nil ?_
  refine seqK_n ?_
  refine bind_e h fun o23 h hko23 => ?_
  refine d_join (fun (z : List Int × Nat × Nat) => (match z with | (l20, kn19, kz22) => ⟨[(0, .c (.p 0 X0b 0)), (3, .c (.p 101 kn19 0))], [⟨0, X0b, X0ty, false, (0, 0), (.v undef), flat [.i .u64 s_0, .i .u64 s_1, .i .u8 s_2, .c (.v (.int .i64 s_3))]⟩, ⟨101, kn19, 99, false, (0, 0), (.v (.int .u64 0)), flat [.i .u64 l20]⟩], 102, kz22⟩ : St)) (fun (z : List Int × Nat × Nat) => match z with | (l20, kn19, kz22) => ((l20.length = 4)) ∧ l20 = o23) ?_ ?_
  ·refine d_reg rfl ?_
   refine wpI_s rfl trivial ?_
   refine wpI_s rfl trivial ?_
   refine wpI_s rfl trivial ?_
   refine d_qlda 0 1 rfl rfl rfl rfl (by simp only [flen, Xh_s_0]) ?_
   refine d_qlda 0 1 rfl rfl rfl rfl (by simp only [flen, (h18.trans (h15.trans List.length_replicate))]) ?_
   refine wpI_alt ?_ ?_
   ·refine bind_e h fun l26 ho25 h => ?_
    refine d_call (ok_limb_Of     (h := ho25)) rfl rfl haveRw_n haveRo_n (own_of rfl) ?_
    rintro _ _ _ kz28 ⟨rfl, rfl, rfl, h27⟩
    refine ⟨_, rfl, (pin_c rfl rfl rfl rfl rfl (pin_c rfl rfl rfl rfl rfl trivial)), ?_⟩
    refine gd_e h fun g29 h => ?_
    refine wpI_alt ?_ ?_
    ·refine bind_e h fun o30 ho31 h => ?_
     obtain ⟨l32, x33⟩ := o30
     try dsimp only at h
     refine d_call (ok_limb_N_Add     (h := ho31)) rfl rfl haveRw_n haveRo_n (own_of rfl) ?_
     rintro _ _ _ kz35 ⟨rfl, rfl, rfl, h34⟩
     refine ⟨_, rfl, (pin_c rfl rfl rfl rfl rfl (pin_c rfl rfl rfl rfl rfl trivial)), ?_⟩
     refine gd_e h fun g36 h => ?_
     refine wpI_s rfl trivial ?_
     refine wpI_s rfl trivial ?_
     refine wpI_s rfl trivial ?_
     refine d_alo (g := [.i .u64 (List.replicate 4 0)]) (zeros_flat _ _ _) (fun _ => (pin_c rfl rfl rfl rfl rfl (pin_c rfl rfl rfl rfl rfl trivial))) fun kb37 kz38 => ?_
     refine d_sta 0 rfl rfl rfl rfl rfl (by simp only [flen, g36]) (by simp only [flen, List.length_replicate]) rfl rfl (pin_c rfl rfl rfl rfl rfl (pin_c rfl rfl rfl rfl rfl trivial)) ?_
     refine wpI_s rfl trivial ?_
     refine wpI_nil ?_
     refine jnK_n (l32, kb37, kz38) [0, 101] ⟨g36, Option.some.inj h⟩ (leS2_c rfl rfl (leS2_c rfl rfl leS2_n)) (leH2_c rfl rfl rfl rfl rfl rfl (leH2_c rfl rfl rfl rfl rfl rfl leH2_n)) rfl rfl
    ·refine d_alo (g := [.i .u64 (List.replicate 4 0)]) (zeros_flat _ _ _) (fun _ => (pin_c rfl rfl rfl rfl rfl (pin_c rfl rfl rfl rfl rfl trivial))) fun kb39 kz40 => ?_
     refine bind_e h fun o41 ho42 h => ?_
     obtain ⟨l43, x44⟩ := o41
     try dsimp only at h
     refine d_call (ok_limb_N_Add     (h := ho42)) rfl rfl haveRw_n haveRo_n (own_of rfl) ?_
     rintro _ _ _ kz46 ⟨rfl, rfl, rfl, h45⟩
     refine ⟨_, rfl, (pin_c rfl rfl rfl rfl rfl (pin_c rfl rfl rfl rfl rfl trivial)), ?_⟩
     refine gd_e h fun g47 h => ?_
     refine wpI_s rfl trivial ?_
     refine wpI_s rfl trivial ?_
     refine wpI_s rfl trivial ?_
     refine d_sta 0 rfl rfl rfl rfl rfl (by simp only [flen, g47]) (by simp only [flen, List.length_replicate]) rfl rfl (pin_c rfl rfl rfl rfl rfl (pin_c rfl rfl rfl rfl rfl trivial)) ?_
     refine wpI_s rfl trivial ?_
     refine wpI_nil ?_
     refine jnK_n (l43, kb39, kz46) [0, 101] ⟨g47, Option.some.inj h⟩ (leS2_c rfl rfl (leS2_c rfl rfl leS2_n)) (leH2_c rfl rfl rfl rfl rfl rfl (leH2_c rfl rfl rfl rfl rfl rfl leH2_n)) rfl rfl
   ·refine d_alo (g := [.i .u64 (List.replicate 4 0)]) (zeros_flat _ _ _) (fun _ => (pin_c rfl rfl rfl rfl rfl (pin_c rfl rfl rfl rfl rfl trivial))) fun kb48 kz49 => ?_
    refine bind_e h fun l52 ho51 h => ?_
    refine d_call (ok_limb_Of     (h := ho51)) rfl rfl haveRw_n haveRo_n (own_of rfl) ?_
    rintro _ _ _ kz54 ⟨rfl, rfl, rfl, h53⟩
    refine ⟨_, rfl, (pin_c rfl rfl rfl rfl rfl (pin_c rfl rfl rfl rfl rfl trivial)), ?_⟩
    refine gd_e h fun g55 h => ?_
    refine bind_e h fun o56 ho57 h => ?_
    obtain ⟨l58, x59⟩ := o56
    try dsimp only at h
    refine d_call (ok_limb_N_Add     (h := ho57)) rfl rfl haveRw_n haveRo_n (own_of rfl) ?_
    rintro _ _ _ kz61 ⟨rfl, rfl, rfl, h60⟩
    refine ⟨_, rfl, (pin_c rfl rfl rfl rfl rfl (pin_c rfl rfl rfl rfl rfl trivial)), ?_⟩
    refine gd_e h fun g62 h => ?_
    refine wpI_s rfl trivial ?_
    refine wpI_s rfl trivial ?_
    refine wpI_s rfl trivial ?_
    refine d_sta 0 rfl rfl rfl rfl rfl (by simp only [flen, g62]) (by simp only [flen, List.length_replicate]) rfl rfl (pin_c rfl rfl rfl rfl rfl (pin_c rfl rfl rfl rfl rfl trivial)) ?_
    refine wpI_s rfl trivial ?_
    refine wpI_nil ?_
    refine jnK_n (l58, kb48, kz61) [0, 101] ⟨g62, Option.some.inj h⟩ (leS2_c rfl rfl (leS2_c rfl rfl leS2_n)) (leH2_c rfl rfl rfl rfl rfl rfl (leH2_c rfl rfl rfl rfl rfl rfl leH2_n)) rfl rfl
  ·rintro ⟨l20, kn19, kz22⟩ ⟨h21, rfl⟩
   show wpC _ _ _ _ _ (St.mk _ _ _ _)
   have h := hko23; clear hko23; try dsimp only at h
   refine bind_e h fun o67 h hko67 => ?_
   refine d_join (fun (z : List Int × Nat × Nat) => (match z with | (l64, kn63, kz66) => ⟨[(0, .c (.p 0 X0b 0)), (5, .c (.p 102 kn63 0))], [⟨0, X0b, X0ty, false, (0, 0), (.v undef), flat [.i .u64 s_0, .i .u64 s_1, .i .u8 s_2, .c (.v (.int .i64 s_3))]⟩, ⟨102, kn63, 110, false, (0, 0), (.v (.int .u64 0)), flat [.i .u64 l64]⟩], 103, kz66⟩ : St)) (fun (z : List Int × Nat × Nat) => match z with | (l64, kn63, kz66) => ((l64.length = 8)) ∧ l64 = o67) ?_ ?_
   ·refine d_reg rfl ?_
    refine d_qlda 0 1 rfl rfl rfl rfl (by simp only [flen, h21]) ?_
    refine wpI_s rfl trivial ?_
    refine wpI_s rfl trivial ?_
    refine wpI_s rfl trivial ?_
    refine d_qlda 1 1 rfl rfl rfl (by simp only [sgPos, Xh_s_0]) (by simp only [flen, Xh_s_1]) ?_
    refine wpI_alt ?_ ?_
    ·refine bind_e h fun l70 ho69 h => ?_
     refine d_call (ok_limb_N_Mul     (h := ho69)) rfl rfl haveRw_n haveRo_n (own_of rfl) ?_
     rintro _ _ _ kz72 ⟨rfl, rfl, rfl, h71⟩
     refine ⟨_, rfl, (pin_c rfl rfl rfl rfl rfl (pin_c rfl rfl rfl rfl rfl trivial)), ?_⟩
     refine gd_e h fun g73 h => ?_
     refine d_alo (g := [.i .u64 (List.replicate 8 0)]) (zeros_flat _ _ _) (fun _ => (pin_c rfl rfl rfl rfl rfl (pin_c rfl rfl rfl rfl rfl trivial))) fun kb74 kz75 => ?_
     refine d_sta 0 rfl rfl rfl rfl rfl (by simp only [flen, g73]) (by simp only [flen, List.length_replicate]) rfl rfl (pin_c rfl rfl rfl rfl rfl (pin_c rfl rfl rfl rfl rfl trivial)) ?_
     refine wpI_nil ?_
     refine jnK_n (l70, kb74, kz75) [0, 102] ⟨g73, Option.some.inj h⟩ (leS2_c rfl rfl (leS2_c rfl rfl leS2_n)) (leH2_c rfl rfl rfl rfl rfl rfl (leH2_c rfl rfl rfl rfl rfl rfl leH2_n)) rfl rfl
    ·refine d_alo (g := [.i .u64 (List.replicate 8 0)]) (zeros_flat _ _ _) (fun _ => (pin_c rfl rfl rfl rfl rfl (pin_c rfl rfl rfl rfl rfl trivial))) fun kb76 kz77 => ?_
     refine bind_e h fun l80 ho79 h => ?_
     refine d_call (ok_limb_N_Mul     (h := ho79)) rfl rfl haveRw_n haveRo_n (own_of rfl) ?_
     rintro _ _ _ kz82 ⟨rfl, rfl, rfl, h81⟩
     refine ⟨_, rfl, (pin_c rfl rfl rfl rfl rfl (pin_c rfl rfl rfl rfl rfl trivial)), ?_⟩
     refine gd_e h fun g83 h => ?_
     refine d_sta 0 rfl rfl rfl rfl rfl (by simp only [flen, g83]) (by simp only [flen, List.length_replicate]) rfl rfl (pin_c rfl rfl rfl rfl rfl (pin_c rfl rfl rfl rfl rfl trivial)) ?_
     refine wpI_nil ?_
     refine jnK_n (l80, kb76, kz82) [0, 102] ⟨g83, Option.some.inj h⟩ (leS2_c rfl rfl (leS2_c rfl rfl leS2_n)) (leH2_c rfl rfl rfl rfl rfl rfl (leH2_c rfl rfl rfl rfl rfl rfl leH2_n)) rfl rfl
   ·rintro ⟨l64, kn63, kz66⟩ ⟨h65, rfl⟩
    show wpC _ _ _ _ _ (St.mk _ _ _ _)
    have h := hko67; clear hko67; try dsimp only at h
    refine wpC_seq ?_
    refine d_reg rfl ?_
    refine wpI_s rfl trivial ?_
    refine d_sla rfl rfl rfl (by decide) fun ko84 kc85 h86 h87 => ?_
    replace h86 : 0 < 4 → 0 = ko84 := by intro h0; have := h86 (by omega); omega
    replace h87 : 4 ≤ kc85 := by omega
    have h88 : 4 ≤ 8 := by omega
    refine wpI_s rfl (by decide) ?_
    have hp_l89 : 0 = ko84 := by have := h86 (Nat.lt_of_lt_of_le (show 0 < 4 by decide) (show 4 ≤ 4 by decide)); omega
    have hq_l89 : 0 + 4 ≤ 8 := by have := h88; have := (show 4 ≤ 4 from (by decide)); omega
    refine d_ldas 0 (q := 0) rfl rfl rfl (by first | exact hp_l89 | (have e : sgPos _ _ = 0 := rfl; rw [e]; exact hp_l89)) (by rw [h65]; exact hq_l89) h fun l89 h90 h => ?_
    refine bind_e h fun l93 ho92 h => ?_
    refine d_call (ok_poly_fold     (h := ho92)) rfl rfl haveRw_n haveRo_n (own_of rfl) ?_
    rintro _ _ _ kz95 ⟨rfl, rfl, rfl, h94⟩
    refine ⟨_, rfl, trivial, ?_⟩
    refine gd_e h fun g96 h => ?_
    refine wpI_s rfl trivial ?_
    refine wpI_s rfl trivial ?_
    refine d_sta 0 rfl rfl rfl rfl rfl (by simp only [flen, g96]) (by simp only [flen, Xh_s_0]) rfl rfl trivial ?_
    refine wpI_nil ?_
    refine seqK_n ?_
    refine d_reg rfl ?_
    refine wpI_s rfl trivial ?_
    refine wpI_s rfl trivial ?_
    refine wpI_s rfl trivial ?_
    refine d_stc 3 rfl rfl rfl rfl rfl (by simp only [sgPos, g96, Xh_s_1, Xh_s_2]) rfl rfl trivial ?_
    refine wpI_nil ?_
    obtain rfl := Option.some.inj h
    exact d_ret2n [0] [] ⟨rfl, rfl, rfl, g96⟩ rfl (leH2_c rfl rfl rfl rfl rfl rfl leH2_n) leH2_n rfl
 exact key.cong rfl (blkEq_c rfl rfl rfl rfl blkEq_n) blkEq_n

def ir_poly_state_take : IFn := ⟨27, (.seq (.reg [] (.cons ⟨none, (.s 4 (.mv (.t 0)))⟩ (.cons ⟨none, (.s 5 (.mv (.t 0)))⟩ (.cons ⟨none, (.s 6 (.nil (.t 5)))⟩ (.cons ⟨none, (.s 7 (.fa 24 (.t 6)))⟩ (.cons ⟨none, (.r 8 (.ld (.int .i64 0) (.t 7)))⟩ (.cons ⟨none, (.s 9 (.mv (.t 1)))⟩ (.cons ⟨none, (.s 10 (.nil (.t 4)))⟩ (.cons ⟨none, (.s 11 (.fa 8 (.t 10)))⟩ (.cons ⟨none, (.s 12 (.ia 16 1 (.t 11) (.t 8)))⟩ (.cons ⟨none, (.w none (.st (.t 12) (.t 9)))⟩ .nil))))))))))) (.seq (.reg [] (.cons ⟨none, (.s 13 (.mv (.t 0)))⟩ (.cons ⟨none, (.s 14 (.nil (.t 13)))⟩ (.cons ⟨none, (.s 15 (.fa 24 (.t 14)))⟩ (.cons ⟨none, (.r 16 (.ld (.int .i64 0) (.t 15)))⟩ (.cons ⟨none, (.s 17 (.bin .add (.t 16) (.k (.int .i64 1))))⟩ (.cons ⟨none, (.s 18 (.nil (.t 13)))⟩ (.cons ⟨none, (.s 19 (.fa 24 (.t 18)))⟩ (.cons ⟨none, (.w none (.st (.t 19) (.t 17)))⟩ .nil))))))))) (.seq (.reg [] (.cons ⟨none, (.s 20 (.mv (.t 0)))⟩ (.cons ⟨none, (.s 21 (.nil (.t 20)))⟩ (.cons ⟨none, (.s 22 (.fa 24 (.t 21)))⟩ (.cons ⟨none, (.r 23 (.ld (.int .i64 0) (.t 22)))⟩ (.cons ⟨none, (.s 24 (.bin .eql (.t 23) (.k (.int .i64 16))))⟩ .nil)))))) (.cond (.t 24) (.reg [] (.cons ⟨none, (.s 25 (.mv (.t 0)))⟩ (.cons ⟨none, (.call (some 26) 61 [(.t 25)])⟩ .nil))) .skip)))), []⟩
theorem low_poly_state_take : lowF Try.prog Try.f60 = some ir_poly_state_take.strip := by kernel_rfl
theorem ok_poly_state_take {fu : Nat} (i0 : Nat) {X0b : Nat} {X0ty : Nat} {s_0 : List Int} {s_1 : List Int} {s_2 : List Int} {s_3 : Int} {x_ : Int} {r : List Int × List Int × Int} (h : fn_poly_state_take fu s_0 s_1 s_2 s_3 x_ = some r) :
  EV.Fn Try.prog 60 [.c (.p 0 X0b 0), ib .u8 x_] [⟨i0, X0b, X0ty, false, (0, 0), (.v undef), flat [.i .u64 s_0, .i .u64 s_1, .i .u8 s_2, .c (.v (.int .i64 s_3))]⟩] [] (fun v u nw => match r with | (l9001, l9003, x9005) => (v = .t0 ∧ u = [flat [.i .u64 l9001, .i .u64 s_1, .i .u8 l9003, .c (.v (.int .i64 x9005))]] ∧ nw = [] ∧ (l9001.length = 4) ∧ (l9003.length = 16))) := by
 have key : EV.Fn Try.prog 60 [.c (.p 0 X0b 0), ib .u8 x_] [⟨0, X0b, X0ty, false, (0, 0), (.v undef), flat [.i .u64 s_0, .i .u64 s_1, .i .u8 s_2, .c (.v (.int .i64 s_3))]⟩] [] (fun v u nw => match r with | (l9001, l9003, x9005) => (v = .t0 ∧ u = [flat [.i .u64 l9001, .i .u64 s_1, .i .u8 l9003, .c (.v (.int .i64 x9005))]] ∧ nw = [] ∧ (l9001.length = 4) ∧ (l9003.length = 16))) := by
  unfold fn_poly_state_take at h
  refine d_fn (i := ir_poly_state_take) (fn := Try.f60) (sl0 := [(0, .c (.p 0 X0b 0)), (1, ib .u8 x_)]) (hp0 := [⟨0, X0b, X0ty, false, (0, 0), (.v undef), flat [.i .u64 s_0, .i .u64 s_1, .i .u8 s_2, .c (.v (.int .i64 s_3))]⟩]) (by kernel_rfl) low_poly_state_take mo rfl rfl rfl fun F z0 => ?_
  dsimp only [ir_poly_state_take]
  refine gd_e h fun Xh_s_0 h => ?_
  refine gd_e h fun Xh_s_1 h => ?_
  refine gd_e h fun Xh_s_2 h => ?_
  refine wpC_seq ?_
  refine d_reg rfl ?_
  refine wpI_s rfl trivial ?_
  refine wpI_s rfl trivial ?_
  refine wpI_s rfl trivial ?_
  refine wpI_s rfl trivial ?_
  refine d_ldc 3 rfl rfl rfl (by simp only [sgPos, Xh_s_0, Xh_s_1, Xh_s_2]) rfl ?_
  refine wpI_s rfl trivial ?_
  refine wpI_s rfl trivial ?_
  refine wpI_s rfl trivial ?_
  refine gd_e h fun g1 h => ?_
  refine wpI_s rfl g1 ?_
  refine d_st 2 (q := s_3.toNat) rfl rfl rfl rfl h (ar_offi (s_3) (by simp only [sgPos, Xh_s_0, Xh_s_1])) (fun _ => rfl) (fun _ => rfl) (fun _ => trivial) fun l2 h3 h => ?_
  refine wpI_nil ?_
  refine seqK_n ?_
  refine wpC_seq ?_
  refine d_reg rfl ?_
  refine wpI_s rfl trivial ?_
  refine wpI_s rfl trivial ?_
  refine wpI_s rfl trivial ?_
  refine d_ldc 3 rfl rfl rfl (by simp only [sgPos, Xh_s_0, Xh_s_1, (h3.trans Xh_s_2)]) rfl ?_
  refine d_n rfl trivial h fun x4 h => ?_
  refine wpI_s rfl trivial ?_
  refine wpI_s rfl trivial ?_
  refine d_stc 3 rfl rfl rfl rfl rfl (by simp only [sgPos, Xh_s_0, Xh_s_1, (h3.trans Xh_s_2)]) rfl rfl trivial ?_
  refine wpI_nil ?_
  refine seqK_n ?_
  refine wpC_seq ?_
  refine d_reg rfl ?_
  refine wpI_s rfl trivial ?_
  refine wpI_s rfl trivial ?_
  refine wpI_s rfl trivial ?_
  refine d_ldc 3 rfl rfl rfl (by simp only [sgPos, Xh_s_0, Xh_s_1, (h3.trans Xh_s_2)]) rfl ?_
  refine d_b rfl trivial h fun t5 h => ?_
  refine wpI_nil ?_
  refine seqK_n ?_
  refine d_cond rfl h (fun h => ?_) (fun h => ?_)
  ·refine d_reg rfl ?_
   refine wpI_s rfl trivial ?_
   refine bind_e h fun l8 ho7 h => ?_
   refine d_call (ok_poly_state_turn (i0 := 0)  (X0b := X0b) (X0ty := X0ty)  (h := ho7)) rfl rfl (haveRw_c rfl haveRw_n) haveRo_n (own_of rfl) ?_
   rintro _ _ _ kz10 ⟨rfl, rfl, rfl, h9⟩
   refine ⟨_, rfl, trivial, ?_⟩
   refine gd_e h fun g11 h => ?_
   refine wpI_nil ?_
   obtain rfl := Option.some.inj h
   exact d_ret2n [0] [] ⟨rfl, rfl, rfl, g11, (h3.trans Xh_s_2)⟩ rfl (leH2_c rfl rfl rfl rfl rfl rfl leH2_n) leH2_n rfl
  ·refine wpC_skip ?_
   obtain rfl := Option.some.inj h
   exact d_ret2n [0] [] ⟨rfl, rfl, rfl, Xh_s_0, (h3.trans Xh_s_2)⟩ rfl (leH2_c rfl rfl rfl rfl rfl rfl leH2_n) leH2_n rfl
 exact key.cong rfl (blkEq_c rfl rfl rfl rfl blkEq_n) blkEq_n

def ir_poly_prime : IFn := ⟨2, (.seq (.reg [] (.cons ⟨none, (.w (some 0) (.alo 99 (.int .u64 0) (List.replicate 4 (.int .u64 0))))⟩ .nil)) (.seq (.reg [] (.cons ⟨none, (.s 1 (.bld (List.replicate 4 (.int .u64 0)) [(0, (1, (.k (.int .u64 18446744073709551611)))), (1, (1, (.k (.int .u64 18446744073709551615)))), (2, (1, (.k (.int .u64 3)))), (3, (1, (.k (.int .u64 0))))]))⟩ (.cons ⟨none, (.w none (.sta 4 (.t 0) (.t 1)))⟩ .nil))) .ret)), [(.cell true 4 (.bool false) 0)]⟩
theorem low_poly_prime : lowF Try.prog Try.f64 = some ir_poly_prime.strip := by kernel_rfl
theorem ok_poly_prime {fu : Nat} {r : Unit} (h : fn_poly_prime fu = some r) :
  EV.Fn Try.prog 64 [] [] [] (fun v u nw => v = .g (flat [.i .u64 [18446744073709551611, 18446744073709551615, 3, 0]]) ∧ u = [] ∧ nw = []) := by
 have key : EV.Fn Try.prog 64 [] [] [] (fun v u nw => v = .g (flat [.i .u64 [18446744073709551611, 18446744073709551615, 3, 0]]) ∧ u = [] ∧ nw = []) := by
  unfold fn_poly_prime at h
  refine d_fn (i := ir_poly_prime) (fn := Try.f64) (sl0 := []) (hp0 := []) (by kernel_rfl) low_poly_prime mo rfl rfl rfl fun F z0 => ?_
  dsimp only [ir_poly_prime]
  refine wpC_seq ?_
  refine d_reg rfl ?_
  refine d_alo (g := [.i .u64 (List.replicate 4 0)]) (zeros_flat _ _ _) (fun _ => trivial) fun kb1 kz2 => ?_
  refine wpI_nil ?_
  refine seqK_n ?_
  refine wpC_seq ?_
  refine d_reg rfl ?_
  refine d_bld (g := [.i .u64 [18446744073709551611, 18446744073709551615, 3, 0]]) (by rfl) ?_
  refine d_sta 0 rfl rfl rfl rfl rfl rfl (by simp only [flen, List.length_replicate]) rfl rfl trivial ?_
  refine wpI_nil ?_
  refine seqK_n ?_
  refine wpC_ret ?_
  clear h
  exact d_ret2 [] [] ⟨rfl, rfl, rfl⟩ (rIs_a 0 1 rfl rfl rfl rfl rfl) leH2_n leH2_n rfl
 exact key.cong rfl blkEq_n blkEq_n

def ir_limb_N_Sub : IFn := ⟨28, (.seq (.reg [] (.cons ⟨none, (.w (some 2) (.box 99 4 (.int .u64 0) (.t 0)))⟩ (.cons ⟨none, (.w (some 3) (.box 99 4 (.int .u64 0) (.t 1)))⟩ (.cons ⟨none, (.w (some 4) (.alo 99 (.int .u64 0) (List.replicate 4 (.int .u64 0))))⟩ (.cons ⟨none, (.s 5 (.mv (.k (.int .u64 0))))⟩ .nil))))) (.seq (.reg [] (.cons ⟨none, (.w (some 6) (.alo 99 (.int .u64 0) (List.replicate 4 (.int .u64 0))))⟩ .nil)) (.seq (.reg [] (.cons ⟨none, (.s 7 (.mv (.k (.int .u64 0))))⟩ .nil)) (.seq (.seq (.reg [] (.cons ⟨none, (.s 9 (.mv (.k (.int .i64 0))))⟩ .nil)) (.block 0 (.loop (.seq (.reg [] (.cons ⟨none, (.s 10 (.bin .lss (.t 9) (.k (.int .i64 4))))⟩ .nil)) (.seq (.cond (.t 10) .skip (.exit 0)) (.seq (.block 1 (.seq (.reg [] (.cons ⟨none, (.s 11 (.mv (.t 9)))⟩ (.cons ⟨none, (.s 8 (.mv (.t 11)))⟩ .nil))) (.reg [] (.cons ⟨none, (.s 13 (.mv (.t 8)))⟩ (.cons ⟨none, (.s 14 (.mv (.t 8)))⟩ (.cons ⟨none, (.s 15 (.ia 4 1 (.t 2) (.t 14)))⟩ (.cons ⟨none, (.r 16 (.ld (.int .u64 0) (.t 15)))⟩ (.cons ⟨none, (.s 17 (.mv (.t 8)))⟩ (.cons ⟨none, (.s 18 (.ia 4 1 (.t 3) (.t 17)))⟩ (.cons ⟨none, (.r 19 (.ld (.int .u64 0) (.t 18)))⟩ (.cons ⟨none, (.s 20 (.mv (.t 7)))⟩ (.cons ⟨none, (.call (some 21) 72 [(.t 16), (.t 19), (.t 20)])⟩ (.cons ⟨none, (.s 12 (.mv (.t 21)))⟩ (.cons ⟨none, (.s 22 (.ext (.t 12) 0))⟩ (.cons ⟨none, (.s 23 (.ext (.t 12) 1))⟩ (.cons ⟨none, (.s 24 (.ia 4 1 (.t 6) (.t 13)))⟩ (.cons ⟨none, (.w none (.st (.t 24) (.t 22)))⟩ (.cons ⟨none, (.s 7 (.mv (.t 23)))⟩ .nil)))))))))))))))))) (.reg [] (.cons ⟨none, (.s 25 (.bin .add (.t 9) (.k (.int .i64 1))))⟩ (.cons ⟨none, (.s 9 (.mv (.t 25)))⟩ .nil))))))))) (.seq (.reg [] (.cons ⟨none, (.r 26 (.lda 4 (.t 6)))⟩ (.cons ⟨none, (.s 27 (.mv (.t 7)))⟩ (.cons ⟨none, (.w none (.sta 4 (.t 4) (.t 26)))⟩ (.cons ⟨none, (.s 5 (.mv (.t 27)))⟩ .nil))))) .ret))))), [(.cell true 4 (.bool false) 4), (.tmp 5)]⟩
theorem low_limb_N_Sub : lowF Try.prog Try.f63 = some ir_limb_N_Sub.strip := by kernel_rfl
theorem ok_limb_N_Sub {fu : Nat} {n_ : List Int} {m_ : List Int} {r : List Int × Int} (h : fn_limb_N_Sub fu n_ m_ = some r) :
  EV.Fn Try.prog 63 [.g (flat [.i .u64 n_]), .g (flat [.i .u64 m_])] [] [] (fun v u nw => match r with | (l9001, x9003) => (v = .t2 (.g (flat [.i .u64 l9001])) (ib .u64 x9003) ∧ u = [] ∧ nw = [] ∧ (l9001.length = 4))) := by
 have key : EV.Fn Try.prog 63 [.g (flat [.i .u64 n_]), .g (flat [.i .u64 m_])] [] [] (fun v u nw => match r with | (l9001, x9003) => (v = .t2 (.g (flat [.i .u64 l9001])) (ib .u64 x9003) ∧ u = [] ∧ nw = [] ∧ (l9001.length = 4))) := by
  unfold fn_limb_N_Sub at h
  refine d_fn (i := ir_limb_N_Sub) (fn := Try.f63) (sl0 := [(0, .g (flat [.i .u64 n_])), (1, .g (flat [.i .u64 m_]))]) (hp0 := []) (by kernel_rfl) low_limb_N_Sub mo rfl rfl rfl fun F z0 => ?_
  dsimp only [ir_limb_N_Sub]
  refine gd_e h fun Xh_n_ h => ?_
  refine gd_e h fun Xh_m_ h => ?_
  refine wpC_seq ?_
  refine d_reg rfl ?_
  refine d_box rfl (fun _ => trivial) rfl fun kb1 kz2 => ?_
  refine d_box rfl (fun _ => trivial) rfl fun kb3 kz4 => ?_
  refine d_alo (g := [.i .u64 (List.replicate 4 0)]) (zeros_flat _ _ _) (fun _ => trivial) fun kb5 kz6 => ?_
  refine wpI_s rfl trivial ?_
  refine wpI_nil ?_
  refine seqK_n ?_
  refine wpC_seq ?_
  refine d_reg rfl ?_
  refine d_alo (g := [.i .u64 (List.replicate 4 0)]) (zeros_flat _ _ _) (fun _ => trivial) fun kb7 kz8 => ?_
  refine wpI_nil ?_
  refine seqK_n ?_
  refine wpC_seq ?_
  refine d_reg rfl ?_
  refine wpI_s rfl trivial ?_
  refine wpI_nil ?_
  refine seqK_n ?_
  refine wpC_seq ?_
  refine wpC_seq ?_
  refine d_reg rfl ?_
  refine wpI_s rfl trivial ?_
  refine wpI_nil ?_
  refine seqK_n ?_
  refine wpC_block ?_
  refine bind_e h fun o18 h hko18 => ?_
  refine d_loop (fun (z : List Int × Int × Int × Nat) => match z with | (l9, x11, x12, kz13) => (l9, x11, x12)) (fun (z : List Int × Int × Int × Nat) => (match z with | (l9, x11, x12, kz13) => ⟨[(2, .c (.p 100 kb1 0)), (3, .c (.p 101 kb3 0)), (4, .c (.p 102 kb5 0)), (6, .c (.p 103 kb7 0)), (7, ib .u64 x11), (9, ib .i64 x12)], [⟨100, kb1, 99, false, (0, 0), (.v (.int .u64 0)), flat [.i .u64 n_]⟩, ⟨101, kb3, 99, false, (0, 0), (.v (.int .u64 0)), flat [.i .u64 m_]⟩, ⟨102, kb5, 99, false, (0, 0), (.v (.int .u64 0)), flat [.i .u64 (List.replicate 4 0)]⟩, ⟨103, kb7, 99, false, (0, 0), (.v (.int .u64 0)), flat [.i .u64 l9]⟩], 104, kz13⟩ : St)) (fun (z : List Int × Int × Int × Nat) => match z with | (l9, x11, x12, kz13) => (l9.length = 4)) ((List.replicate 4 0), 0, 0, kz8) [100, 101, 102, 103] h List.length_replicate (leS2_c rfl rfl (leS2_c rfl rfl (leS2_c rfl rfl (leS2_c rfl rfl (leS2_c rfl rfl (leS2_c rfl rfl leS2_n)))))) (leH2_c rfl rfl rfl rfl rfl rfl (leH2_c rfl rfl rfl rfl rfl rfl (leH2_c rfl rfl rfl rfl rfl rfl (leH2_c rfl rfl rfl rfl rfl rfl leH2_n)))) rfl rfl ?_
  rintro rec ⟨l9, x11, x12, kz13⟩ h10 h
  show wpC _ _ _ _ _ (St.mk _ _ _ _)
  unfold fn_limb_N_Sub_l1 at h; try dsimp only at h
  refine wpC_seq ?_
  refine d_reg rfl ?_
  refine d_b rfl trivial h fun t19 h => ?_
  refine wpI_nil ?_
  refine seqK_n ?_
  refine wpC_seq ?_
  refine d_cond rfl h (fun h => ?_) (fun h => ?_)
  ·refine wpC_skip ?_
   refine seqK_n ?_
   refine wpC_seq ?_
   refine wpC_block ?_
   refine wpC_seq ?_
   refine d_reg rfl ?_
   refine wpI_s rfl trivial ?_
   refine wpI_s rfl trivial ?_
   refine wpI_nil ?_
   refine seqK_n ?_
   refine d_reg rfl ?_
   refine wpI_s rfl trivial ?_
   refine wpI_s rfl trivial ?_
   refine gd_e h fun g20 h => ?_
   refine wpI_s rfl g20 ?_
   refine d_ld 0 (q := x12.toNat) rfl rfl rfl h (ar_offi (x12) rfl) fun x21 h => ?_
   refine wpI_s rfl trivial ?_
   refine gd_e h fun g22 h => ?_
   refine wpI_s rfl g22 ?_
   refine d_ld 0 (q := x12.toNat) rfl rfl rfl h (ar_offi (x12) rfl) fun x23 h => ?_
   refine wpI_s rfl trivial ?_
   refine gd_e h fun g24 h => ?_
   refine nm_e h fun x25 q_x25 h => ?_
   refine nm_e h fun x26 q_x26 h => ?_
   refine d_call (fn_sub64 (hf := (by kernel_rfl : Try.prog.funcs[72]? = some Try.f72)) (by kernel_rfl) (by kernel_rfl) (by kernel_rfl) (by kernel_rfl) g24) rfl rfl haveRw_n haveRo_n (own_of rfl) ?_
   rintro _ _ _ kz27 ⟨rfl, rfl, rfl⟩
   refine ⟨_, rfl, trivial, ?_⟩
   rw [q_x25, q_x26]
   refine wpI_s rfl trivial ?_
   refine wpI_s rfl trivial ?_
   refine wpI_s rfl trivial ?_
   refine gd_e h fun g28 h => ?_
   refine wpI_s rfl g28 ?_
   refine d_st 0 (q := x12.toNat) rfl rfl rfl rfl h (ar_offi (x12) rfl) (fun _ => rfl) (fun _ => rfl) (fun _ => trivial) fun l29 h30 h => ?_
   refine wpI_s rfl trivial ?_
   refine wpI_nil ?_
   refine blockK_n ?_
   refine seqK_n ?_
   refine d_reg rfl ?_
   refine d_n rfl trivial h fun x31 h => ?_
   refine wpI_s rfl trivial ?_
   refine wpI_nil ?_
   refine lpK_n (l29, x26, x31, kz27) [100, 101, 102, 103] (h30.trans h10) h (leS2_c rfl rfl (leS2_c rfl rfl (leS2_c rfl rfl (leS2_c rfl rfl (leS2_c rfl rfl (leS2_c rfl rfl leS2_n)))))) (leH2_c rfl rfl rfl rfl rfl rfl (leH2_c rfl rfl rfl rfl rfl rfl (leH2_c rfl rfl rfl rfl rfl rfl (leH2_c rfl rfl rfl rfl rfl rfl leH2_n)))) rfl rfl
  ·refine wpC_exit ?_
   refine seqK_x ?_
   obtain rfl := Option.some.inj h
   have h := hko18; clear hko18; try dsimp only at h
   refine lpK_x ?_
   refine blockK_x ?_
   refine seqK_n ?_
   refine wpC_seq ?_
   refine d_reg rfl ?_
   refine d_lda 0 1 rfl rfl rfl rfl (by simp only [flen, h10]) ?_
   refine wpI_s rfl trivial ?_
   refine d_sta 0 rfl rfl rfl rfl rfl (by simp only [flen, h10]) (by simp only [flen, List.length_replicate]) rfl rfl trivial ?_
   refine wpI_s rfl trivial ?_
   refine wpI_nil ?_
   refine seqK_n ?_
   refine wpC_ret ?_
   obtain rfl := Option.some.inj h
   exact d_ret2 [] [] ⟨rfl, rfl, rfl, h10⟩ ⟨(rIs_a 0 1 rfl rfl rfl rfl (by simp only [flen, h10])), (rIs_t rfl rfl)⟩ leH2_n leH2_n rfl
 exact key.cong rfl blkEq_n blkEq_n

def ir_limb_N_Num : IFn := ⟨21, (.seq (.reg [] (.cons ⟨none, (.w (some 1) (.box 99 4 (.int .u64 0) (.t 0)))⟩ (.cons ⟨none, (.w (some 2) (.alo 23 (.int .u8 0) (List.replicate 32 (.int .u8 0))))⟩ .nil))) (.seq (.reg [] (.cons ⟨none, (.w (some 3) (.alo 23 (.int .u8 0) (List.replicate 32 (.int .u8 0))))⟩ .nil)) (.seq (.seq (.reg [] (.cons ⟨none, (.s 5 (.mv (.k (.int .i64 0))))⟩ .nil)) (.block 0 (.loop (.seq (.reg [] (.cons ⟨none, (.s 6 (.bin .lss (.t 5) (.k (.int .i64 32))))⟩ .nil)) (.seq (.cond (.t 6) .skip (.exit 0)) (.seq (.block 1 (.seq (.reg [] (.cons ⟨none, (.s 7 (.mv (.t 5)))⟩ (.cons ⟨none, (.s 4 (.mv (.t 7)))⟩ .nil))) (.reg [] (.cons ⟨none, (.s 8 (.mv (.t 4)))⟩ (.cons ⟨none, (.s 9 (.mv (.t 4)))⟩ (.cons ⟨none, (.s 10 (.bin .quo (.t 9) (.k (.int .i64 8))))⟩ (.cons ⟨none, (.s 11 (.ia 4 1 (.t 1) (.t 10)))⟩ (.cons ⟨none, (.r 12 (.ld (.int .u64 0) (.t 11)))⟩ (.cons ⟨none, (.s 13 (.mv (.t 4)))⟩ (.cons ⟨none, (.s 14 (.bin .rem (.t 13) (.k (.int .i64 8))))⟩ (.cons ⟨none, (.s 15 (.bin .mul (.k (.int .i64 8)) (.t 14)))⟩ (.cons ⟨none, (.s 16 (.bin .shr (.t 12) (.t 15)))⟩ (.cons ⟨none, (.s 17 (.cv .u8 (.t 16)))⟩ (.cons ⟨none, (.s 18 (.ia 32 1 (.t 3) (.t 8)))⟩ (.cons ⟨none, (.w none (.st (.t 18) (.t 17)))⟩ .nil))))))))))))))) (.reg [] (.cons ⟨none, (.s 19 (.bin .add (.t 5) (.k (.int .i64 1))))⟩ (.cons ⟨none, (.s 5 (.mv (.t 19)))⟩ .nil))))))))) (.seq (.reg [] (.cons ⟨none, (.r 20 (.lda 32 (.t 3)))⟩ (.cons ⟨none, (.w none (.sta 32 (.t 2) (.t 20)))⟩ .nil))) .ret)))), [(.cell true 32 (.bool false) 2)]⟩
theorem low_limb_N_Num : lowF Try.prog Try.f67 = some ir_limb_N_Num.strip := by kernel_rfl
theorem ok_limb_N_Num {fu : Nat} {n_ : List Int} {l9001 : List Int} (h : fn_limb_N_Num fu n_ = some l9001) :
  EV.Fn Try.prog 67 [.g (flat [.i .u64 n_])] [] [] (fun v u nw => v = .g (flat [.i .u8 l9001]) ∧ u = [] ∧ nw = [] ∧ (l9001.length = 32)) := by
 have key : EV.Fn Try.prog 67 [.g (flat [.i .u64 n_])] [] [] (fun v u nw => v = .g (flat [.i .u8 l9001]) ∧ u = [] ∧ nw = [] ∧ (l9001.length = 32)) := by
  unfold fn_limb_N_Num at h
  refine d_fn (i := ir_limb_N_Num) (fn := Try.f67) (sl0 := [(0, .g (flat [.i .u64 n_]))]) (hp0 := []) (by kernel_rfl) low_limb_N_Num mo rfl rfl rfl fun F z0 => ?_
  dsimp only [ir_limb_N_Num]
  refine gd_e h fun Xh_n_ h => ?_
  refine wpC_seq ?_
  refine d_reg rfl ?_
  refine d_box rfl (fun _ => trivial) rfl fun kb1 kz2 => ?_
  refine d_alo (g := [.i .u8 (List.replicate 32 0)]) (zeros_flat _ _ _) (fun _ => trivial) fun kb3 kz4 => ?_
  refine wpI_nil ?_
  refine seqK_n ?_
  refine wpC_seq ?_
  refine d_reg rfl ?_
  refine d_alo (g := [.i .u8 (List.replicate 32 0)]) (zeros_flat _ _ _) (fun _ => trivial) fun kb5 kz6 => ?_
  refine wpI_nil ?_
  refine seqK_n ?_
  refine wpC_seq ?_
  refine wpC_seq ?_
  refine d_reg rfl ?_
  refine wpI_s rfl trivial ?_
  refine wpI_nil ?_
  refine seqK_n ?_
  refine wpC_block ?_
  refine bind_e h fun o14 h hko14 => ?_
  refine d_loop (fun (z : List Int × Int × Nat) => match z with | (l7, x9, kz10) => (l7, x9)) (fun (z : List Int × Int × Nat) => (match z with | (l7, x9, kz10) => ⟨[(1, .c (.p 100 kb1 0)), (2, .c (.p 101 kb3 0)), (3, .c (.p 102 kb5 0)), (5, ib .i64 x9)], [⟨100, kb1, 99, false, (0, 0), (.v (.int .u64 0)), flat [.i .u64 n_]⟩, ⟨101, kb3, 23, false, (0, 0), (.v (.int .u8 0)), flat [.i .u8 (List.replicate 32 0)]⟩, ⟨102, kb5, 23, false, (0, 0), (.v (.int .u8 0)), flat [.i .u8 l7]⟩], 103, kz10⟩ : St)) (fun (z : List Int × Int × Nat) => match z with | (l7, x9, kz10) => (l7.length = 32)) ((List.replicate 32 0), 0, kz6) [100, 101, 102] h List.length_replicate (leS2_c rfl rfl (leS2_c rfl rfl (leS2_c rfl rfl (leS2_c rfl rfl leS2_n)))) (leH2_c rfl rfl rfl rfl rfl rfl (leH2_c rfl rfl rfl rfl rfl rfl (leH2_c rfl rfl rfl rfl rfl rfl leH2_n))) rfl rfl ?_
  rintro rec ⟨l7, x9, kz10⟩ h8 h
  show wpC _ _ _ _ _ (St.mk _ _ _ _)
  unfold fn_limb_N_Num_l1 at h; try dsimp only at h
  refine wpC_seq ?_
  refine d_reg rfl ?_
  refine d_b rfl trivial h fun t15 h => ?_
  refine wpI_nil ?_
  refine seqK_n ?_
  refine wpC_seq ?_
  refine d_cond rfl h (fun h => ?_) (fun h => ?_)
  ·refine wpC_skip ?_
   refine seqK_n ?_
   refine wpC_seq ?_
   refine wpC_block ?_
   refine wpC_seq ?_
   refine d_reg rfl ?_
   refine wpI_s rfl trivial ?_
   refine wpI_s rfl trivial ?_
   refine wpI_nil ?_
   refine seqK_n ?_
   refine d_reg rfl ?_
   refine wpI_s rfl trivial ?_
   refine wpI_s rfl trivial ?_
   refine d_n rfl (by decide) h fun x16 h => ?_
   refine gd_e h fun g17 h => ?_
   refine wpI_s rfl g17 ?_
   refine d_ld 0 (q := x16.toNat) rfl rfl rfl h (ar_offi (x16) rfl) fun x18 h => ?_
   refine wpI_s rfl trivial ?_
   refine d_n rfl (by decide) h fun x19 h => ?_
   refine d_n rfl trivial h fun x20 h => ?_
   refine gd_e h fun g21 h => ?_
   refine d_n rfl g21 h fun x22 h => ?_
   refine d_n rfl trivial h fun x23 h => ?_
   refine gd_e h fun g24 h => ?_
   refine wpI_s rfl g24 ?_
   refine d_st 0 (q := x9.toNat) rfl rfl rfl rfl h (ar_offi (x9) rfl) (fun _ => rfl) (fun _ => rfl) (fun _ => trivial) fun l25 h26 h => ?_
   refine wpI_nil ?_
   refine blockK_n ?_
   refine seqK_n ?_
   refine d_reg rfl ?_
   refine d_n rfl trivial h fun x27 h => ?_
   refine wpI_s rfl trivial ?_
   refine wpI_nil ?_
   refine lpK_n (l25, x27, kz10) [100, 101, 102] (h26.trans h8) h (leS2_c rfl rfl (leS2_c rfl rfl (leS2_c rfl rfl (leS2_c rfl rfl leS2_n)))) (leH2_c rfl rfl rfl rfl rfl rfl (leH2_c rfl rfl rfl rfl rfl rfl (leH2_c rfl rfl rfl rfl rfl rfl leH2_n))) rfl rfl
  ·refine wpC_exit ?_
   refine seqK_x ?_
   obtain rfl := Option.some.inj h
   have h := hko14; clear hko14; try dsimp only at h
   refine lpK_x ?_
   refine blockK_x ?_
   refine seqK_n ?_
   refine wpC_seq ?_
   refine d_reg rfl ?_
   refine d_lda 0 1 rfl rfl rfl rfl (by simp only [flen, h8]) ?_
   refine d_sta 0 rfl rfl rfl rfl rfl (by simp only [flen, h8]) (by simp only [flen, List.length_replicate]) rfl rfl trivial ?_
   refine wpI_nil ?_
   refine seqK_n ?_
   refine wpC_ret ?_
   obtain rfl := Option.some.inj h
   exact d_ret2 [] [] ⟨rfl, rfl, rfl, h8⟩ (rIs_a 0 1 rfl rfl rfl rfl (by simp only [flen, h8])) leH2_n leH2_n rfl
 exact key.cong rfl blkEq_n blkEq_n

def ir_poly_Sum : IFn := ⟨76, (.seq (.reg [] (.cons ⟨none, (.w (some 2) (.box 23 32 (.int .u8 0) (.t 0)))⟩ (.cons ⟨none, (.w (some 4) (.alo 61 (.int .u8 0) (List.replicate 16 (.int .u8 0))))⟩ .nil))) (.seq (.reg [] (.cons ⟨none, (.r 15 (.lda 32 (.t 2)))⟩ (.cons ⟨none, (.call (some 16) 59 [(.t 15)])⟩ (.cons ⟨none, (.s 17 (.bld [(.int .u64 0), (.int .u64 0), (.int .u64 0), (.int .u64 0), (.int .u64 0), (.int .u64 0), (.int .u64 0), (.int .u64 0), (.int .u8 0), (.int .u8 0), (.int .u8 0), (.int .u8 0), (.int .u8 0), (.int .u8 0), (.int .u8 0), (.int .u8 0), (.int .u8 0), (.int .u8 0), (.int .u8 0), (.int .u8 0), (.int .u8 0), (.int .u8 0), (.int .u8 0), (.int .u8 0), (.int .i64 0)] [(4, (4, (.t 16)))]))⟩ (.cons ⟨none, (.w (some 18) (.box 102 25 (.int .u64 0) (.t 17)))⟩ (.cons ⟨none, (.s 5 (.mv (.t 18)))⟩ .nil)))))) (.seq (.seq (.reg [] (.cons ⟨none, (.s 19 (.mv (.t 1)))⟩ (.cons ⟨none, (.s 20 (.len (.t 19)))⟩ (.cons ⟨none, (.s 21 (.mv (.k (.int .i64 0))))⟩ .nil)))) (.block 0 (.loop (.seq (.reg [] (.cons ⟨none, (.s 22 (.bin .lss (.t 21) (.t 20)))⟩ .nil)) (.seq (.cond (.t 22) .skip (.exit 0)) (.seq (.block 1 (.seq (.reg [] (.cons ⟨none, (.s 23 (.is 1 (.t 19) (.t 21)))⟩ (.cons ⟨none, (.r 24 (.ld (.bool false) (.t 23)))⟩ (.cons ⟨none, (.s 7 (.mv (.t 24)))⟩ .nil)))) (.seq (.reg [] (.cons ⟨none, (.s 25 (.mv (.t 7)))⟩ (.cons ⟨none, (.s 26 (.len (.t 25)))⟩ (.cons ⟨none, (.s 27 (.mv (.k (.int .i64 0))))⟩ .nil)))) (.block 2 (.loop (.seq (.reg [] (.cons ⟨none, (.s 28 (.bin .lss (.t 27) (.t 26)))⟩ .nil)) (.seq (.cond (.t 28) .skip (.exit 2)) (.seq (.block 3 (.seq (.reg [] (.cons ⟨none, (.s 29 (.is 1 (.t 25) (.t 27)))⟩ (.cons ⟨none, (.r 30 (.ld (.int .u8 0) (.t 29)))⟩ (.cons ⟨none, (.s 9 (.mv (.t 30)))⟩ .nil)))) (.reg [] (.cons ⟨none, (.s 31 (.mv (.t 5)))⟩ (.cons ⟨none, (.s 32 (.mv (.t 9)))⟩ (.cons ⟨none, (.call (some 33) 60 [(.t 31), (.t 32)])⟩ .nil)))))) (.reg [] (.cons ⟨none, (.s 34 (.bin .add (.t 27) (.k (.int .i64 1))))⟩ (.cons ⟨none, (.s 27 (.mv (.t 34)))⟩ .nil))))))))))) (.reg [] (.cons ⟨none, (.s 35 (.bin .add (.t 21) (.k (.int .i64 1))))⟩ (.cons ⟨none, (.s 21 (.mv (.t 35)))⟩ .nil))))))))) (.seqJ (.seq (.reg [] (.cons ⟨none, (.s 36 (.mv (.t 5)))⟩ (.cons ⟨none, (.s 37 (.nil (.t 36)))⟩ (.cons ⟨none, (.s 38 (.fa 24 (.t 37)))⟩ (.cons ⟨none, (.r 39 (.ld (.int .i64 0) (.t 38)))⟩ (.cons ⟨none, (.s 40 (.bin .gtr (.t 39) (.k (.int .i64 0))))⟩ .nil)))))) (.cond (.t 40) (.reg [] (.cons ⟨none, (.s 41 (.mv (.t 5)))⟩ (.cons ⟨none, (.call (some 42) 61 [(.t 41)])⟩ .nil))) .skip)) (.seq (.reg [] (.cons ⟨none, (.s 43 (.mv (.t 5)))⟩ (.cons ⟨none, (.s 44 (.nil (.t 43)))⟩ (.cons ⟨none, (.s 45 (.fa 0 (.t 44)))⟩ (.cons ⟨none, (.r 46 (.lda 4 (.t 45)))⟩ (.cons ⟨none, (.call (some 47) 62 [(.t 46)])⟩ (.cons ⟨none, (.call (some 48) 62 [(.t 47)])⟩ (.cons ⟨none, (.call (some 49) 62 [(.t 48)])⟩ (.cons ⟨none, (.w (some 10) (.alo 99 (.int .u64 0) (List.replicate 4 (.int .u64 0))))⟩ (.cons ⟨none, (.w none (.sta 4 (.t 10) (.t 49)))⟩ .nil)))))))))) (.seqJ (.seqJ (.reg [10] (.cons ⟨none, (.q 51 (.lda 4 (.t 10)))⟩ (.alt (.cons ⟨none, (.call (some 52) 64 [])⟩ (.alt (.cons ⟨none, (.call (some 53) 63 [(.t 51), (.t 52)])⟩ (.cons ⟨none, (.s 50 (.mv (.t 53)))⟩ (.cons ⟨none, (.s 54 (.ext (.t 50) 0))⟩ (.cons ⟨none, (.s 55 (.ext (.t 50) 1))⟩ (.cons ⟨none, (.w (some 11) (.alo 99 (.int .u64 0) (List.replicate 4 (.int .u64 0))))⟩ (.cons ⟨none, (.w none (.sta 4 (.t 11) (.t 54)))⟩ (.cons ⟨none, (.s 12 (.mv (.t 55)))⟩ .nil))))))) (.cons ⟨none, (.w (some 11) (.alo 99 (.int .u64 0) (List.replicate 4 (.int .u64 0))))⟩ (.cons ⟨none, (.call (some 53) 63 [(.t 51), (.t 52)])⟩ (.cons ⟨none, (.s 50 (.mv (.t 53)))⟩ (.cons ⟨none, (.s 54 (.ext (.t 50) 0))⟩ (.cons ⟨none, (.s 55 (.ext (.t 50) 1))⟩ (.cons ⟨none, (.w none (.sta 4 (.t 11) (.t 54)))⟩ (.cons ⟨none, (.s 12 (.mv (.t 55)))⟩ .nil))))))))) (.cons ⟨none, (.w (some 11) (.alo 99 (.int .u64 0) (List.replicate 4 (.int .u64 0))))⟩ (.cons ⟨none, (.call (some 52) 64 [])⟩ (.cons ⟨none, (.call (some 53) 63 [(.t 51), (.t 52)])⟩ (.cons ⟨none, (.s 50 (.mv (.t 53)))⟩ (.cons ⟨none, (.s 54 (.ext (.t 50) 0))⟩ (.cons ⟨none, (.s 55 (.ext (.t 50) 1))⟩ (.cons ⟨none, (.w none (.sta 4 (.t 11) (.t 54)))⟩ (.cons ⟨none, (.s 12 (.mv (.t 55)))⟩ .nil))))))))))) (.seq (.reg [] (.cons ⟨none, (.s 56 (.mv (.t 12)))⟩ (.cons ⟨none, (.s 57 (.bin .eql (.t 56) (.k (.int .u64 0))))⟩ .nil))) (.cond (.t 57) (.reg [] (.cons ⟨none, (.r 58 (.lda 4 (.t 11)))⟩ (.cons ⟨none, (.w none (.sta 4 (.t 10) (.t 58)))⟩ .nil))) .skip))) (.seq (.reg [] (.cons ⟨none, (.r 59 (.lda 32 (.t 2)))⟩ (.cons ⟨none, (.call (some 60) 65 [(.t 59)])⟩ (.cons ⟨none, (.w (some 13) (.alo 99 (.int .u64 0) (List.replicate 4 (.int .u64 0))))⟩ (.cons ⟨none, (.w none (.sta 4 (.t 13) (.t 60)))⟩ .nil))))) (.seq (.reg [] (.cons ⟨none, (.r 62 (.lda 4 (.t 10)))⟩ (.cons ⟨none, (.s 63 (.ia 4 1 (.t 13) (.k (.int .i64 2))))⟩ (.cons ⟨none, (.r 64 (.ld (.int .u64 0) (.t 63)))⟩ (.cons ⟨none, (.s 65 (.ia 4 1 (.t 13) (.k (.int .i64 3))))⟩ (.cons ⟨none, (.r 66 (.ld (.int .u64 0) (.t 65)))⟩ (.cons ⟨none, (.s 67 (.bld (List.replicate 4 (.int .u64 0)) [(0, (1, (.t 64))), (1, (1, (.t 66))), (2, (1, (.k (.int .u64 0)))), (3, (1, (.k (.int .u64 0))))]))⟩ (.cons ⟨none, (.call (some 68) 66 [(.t 62), (.t 67)])⟩ (.cons ⟨none, (.s 61 (.mv (.t 68)))⟩ (.cons ⟨none, (.s 69 (.ext (.t 61) 0))⟩ (.cons ⟨none, (.s 70 (.ext (.t 61) 1))⟩ (.cons ⟨none, (.w none (.sta 4 (.t 10) (.t 69)))⟩ .nil)))))))))))) (.seq (.reg [] (.cons ⟨none, (.r 71 (.lda 4 (.t 10)))⟩ (.cons ⟨none, (.call (some 72) 67 [(.t 71)])⟩ (.cons ⟨none, (.w (some 14) (.alo 23 (.int .u8 0) (List.replicate 32 (.int .u8 0))))⟩ (.cons ⟨none, (.w none (.sta 32 (.t 14) (.t 72)))⟩ .nil))))) (.seq (.reg [] (.cons ⟨none, (.s 73 (.sla 32 1 (.t 14) none (some (.k (.int .i64 16))) none))⟩ (.cons ⟨none, (.s 74 (.sap 16 (.t 73)))⟩ (.cons ⟨none, (.r 75 (.lda 16 (.t 74)))⟩ (.cons ⟨none, (.w none (.sta 16 (.t 4) (.t 75)))⟩ .nil))))) .ret)))))))))), [(.cell true 16 (.bool false) 4)]⟩
theorem low_poly_Sum : lowF Try.prog Try.f52 = some ir_poly_Sum.strip := by kernel_rfl
theorem ok_poly_Sum {fu : Nat} (i0 : Nat) (i1 : Nat) (i2 : Nat) (i3 : Nat) (i4 : Nat) (i5 : Nat) (i6 : Nat) {X0b : Nat} {X0ty : Nat} {X1b : Nat} {X1ty : Nat} {X1pr : List C} {X1ps : List C} {X1o : Nat} {X1c : Nat} {X1n : Nat} {X2b : Nat} {X2ty : Nat} {X2pr : List C} {X2ps : List C} {X2o : Nat} {X2c : Nat} {X2n : Nat} {X3b : Nat} {X3ty : Nat} {X3pr : List C} {X3ps : List C} {X3o : Nat} {X3c : Nat} {X3n : Nat} {X4b : Nat} {X4ty : Nat} {X4pr : List C} {X4ps : List C} {X4o : Nat} {X4c : Nat} {X4n : Nat} {X5b : Nat} {X5ty : Nat} {X5pr : List C} {X5ps : List C} {X5o : Nat} {X5c : Nat} {X5n : Nat} {X6b : Nat} {X6ty : Nat} {X6pr : List C} {X6ps : List C} {X6o : Nat} {X6c : Nat} {X6n : Nat} {X0fr : Nat × Nat} {X1fr : Nat × Nat} {X2fr : Nat × Nat} {X3fr : Nat × Nat} {X4fr : Nat × Nat} {X5fr : Nat × Nat} {X6fr : Nat × Nat} {key_ : List Int} {b__0 : List Int} {b__1 : List Int} {b__2 : List Int} {b__3 : List Int} {b__4 : List Int} {b__5 : List Int} (X1l : X1n = b__0.length) (X1S : 0 < X1n → X1pr.length = X1o) (X1C : X1n ≤ X1c) (X2l : X2n = b__1.length) (X2S : 0 < X2n → X2pr.length = X2o) (X2C : X2n ≤ X2c) (X3l : X3n = b__2.length) (X3S : 0 < X3n → X3pr.length = X3o) (X3C : X3n ≤ X3c) (X4l : X4n = b__3.length) (X4S : 0 < X4n → X4pr.length = X4o) (X4C : X4n ≤ X4c) (X5l : X5n = b__4.length) (X5S : 0 < X5n → X5pr.length = X5o) (X5C : X5n ≤ X5c) (X6l : X6n = b__5.length) (X6S : 0 < X6n → X6pr.length = X6o) (X6C : X6n ≤ X6c) {l9001 : List Int} (h : fn_poly_Sum fu key_ b__0 b__1 b__2 b__3 b__4 b__5 = some l9001) :
  EV.Fn Try.prog 52 [.g (flat [.i .u8 key_]), .c (.s 0 X0b 0 6 6)] [] [⟨i0, X0b, X0ty, true, X0fr, (.v undef), flat [.c (.s i1 X1b X1o X1n X1c), .c (.s i2 X2b X2o X2n X2c), .c (.s i3 X3b X3o X3n X3c), .c (.s i4 X4b X4o X4n X4c), .c (.s i5 X5b X5o X5n X5c), .c (.s i6 X6b X6o X6n X6c)]⟩, ⟨i1, X1b, X1ty, true, X1fr, (.v undef), flat [.r X1pr, .i .u8 b__0, .r X1ps]⟩, ⟨i2, X2b, X2ty, true, X2fr, (.v undef), flat [.r X2pr, .i .u8 b__1, .r X2ps]⟩, ⟨i3, X3b, X3ty, true, X3fr, (.v undef), flat [.r X3pr, .i .u8 b__2, .r X3ps]⟩, ⟨i4, X4b, X4ty, true, X4fr, (.v undef), flat [.r X4pr, .i .u8 b__3, .r X4ps]⟩, ⟨i5, X5b, X5ty, true, X5fr, (.v undef), flat [.r X5pr, .i .u8 b__4, .r X5ps]⟩, ⟨i6, X6b, X6ty, true, X6fr, (.v undef), flat [.r X6pr, .i .u8 b__5, .r X6ps]⟩] (fun v u nw => v = .g (flat [.i .u8 l9001]) ∧ u = [] ∧ nw = [] ∧ (l9001.length = 16)) := by
 subst X1l
 subst X2l
 subst X3l
 subst X4l
 subst X5l
 subst X6l
 have key : EV.Fn Try.prog 52 [.g (flat [.i .u8 key_]), .c (.s 0 X0b 0 6 6)] [] [⟨0, X0b, X0ty, true, X0fr, (.v undef), flat [.c (.s 1 X1b X1o b__0.length X1c), .c (.s 2 X2b X2o b__1.length X2c), .c (.s 3 X3b X3o b__2.length X3c), .c (.s 4 X4b X4o b__3.length X4c), .c (.s 5 X5b X5o b__4.length X5c), .c (.s 6 X6b X6o b__5.length X6c)]⟩, ⟨1, X1b, X1ty, true, X1fr, (.v undef), flat [.r X1pr, .i .u8 b__0, .r X1ps]⟩, ⟨2, X2b, X2ty, true, X2fr, (.v undef), flat [.r X2pr, .i .u8 b__1, .r X2ps]⟩, ⟨3, X3b, X3ty, true, X3fr, (.v undef), flat [.r X3pr, .i .u8 b__2, .r X3ps]⟩, ⟨4, X4b, X4ty, true, X4fr, (.v undef), flat [.r X4pr, .i .u8 b__3, .r X4ps]⟩, ⟨5, X5b, X5ty, true, X5fr, (.v undef), flat [.r X5pr, .i .u8 b__4, .r X5ps]⟩, ⟨6, X6b, X6ty, true, X6fr, (.v undef), flat [.r X6pr, .i .u8 b__5, .r X6ps]⟩] (fun v u nw => v = .g (flat [.i .u8 l9001]) ∧ u = [] ∧ nw = [] ∧ (l9001.length = 16)) := by
  unfold fn_poly_Sum at h
  refine d_fn (i := ir_poly_Sum) (fn := Try.f52) (sl0 := [(0, .g (flat [.i .u8 key_])), (1, .c (.s 0 X0b 0 6 6))]) (hp0 := [⟨0, X0b, X0ty, true, X0fr, (.v undef), flat [.c (.s 1 X1b X1o b__0.length X1c), .c (.s 2 X2b X2o b__1.length X2c), .c (.s 3 X3b X3o b__2.length X3c), .c (.s 4 X4b X4o b__3.length X4c), .c (.s 5 X5b X5o b__4.length X5c), .c (.s 6 X6b X6o b__5.length X6c)]⟩, ⟨1, X1b, X1ty, true, X1fr, (.v undef), flat [.r X1pr, .i .u8 b__0, .r X1ps]⟩, ⟨2, X2b, X2ty, true, X2fr, (.v undef), flat [.r X2pr, .i .u8 b__1, .r X2ps]⟩, ⟨3, X3b, X3ty, true, X3fr, (.v undef), flat [.r X3pr, .i .u8 b__2, .r X3ps]⟩, ⟨4, X4b, X4ty, true, X4fr, (.v undef), flat [.r X4pr, .i .u8 b__3, .r X4ps]⟩, ⟨5, X5b, X5ty, true, X5fr, (.v undef), flat [.r X5pr, .i .u8 b__4, .r X5ps]⟩, ⟨6, X6b, X6ty, true, X6fr, (.v undef), flat [.r X6pr, .i .u8 b__5, .r X6ps]⟩]) (by kernel_rfl) low_poly_Sum mo rfl rfl rfl fun F z0 => ?_
  dsimp only [ir_poly_Sum]
  refine gd_e h fun Xh_key_ h => ?_
  refine wpC_seq ?_
  refine d_reg rfl ?_
  refine d_box rfl (fun _ => trivial) rfl fun kb1 kz2 => ?_
  refine d_alo (g := [.i .u8 (List.replicate 16 0)]) (zeros_flat _ _ _) (fun _ => trivial) fun kb3 kz4 => ?_
  refine wpI_nil ?_
  refine seqK_n ?_
  refine wpC_seq ?_
  refine d_reg rfl ?_
  refine d_lda 0 1 rfl rfl rfl rfl (by simp only [flen, Xh_key_]) ?_
  refine bind_e h fun l7 ho6 h => ?_
  refine d_call (ok_poly_clamped     (h := ho6)) rfl rfl haveRw_n haveRo_n (own_of rfl) ?_
  rintro _ _ _ kz9 ⟨rfl, rfl, rfl, h8⟩
  refine ⟨_, rfl, trivial, ?_⟩
  refine gd_e h fun g10 h => ?_
  refine d_bldg (g := [.i .u64 (List.replicate 4 0), .i .u64 l7, .i .u8 (List.replicate 16 0), .c (.v (.int .i64 0))]) (g0 := [.i .u64 (List.replicate 4 0), .i .u64 (List.replicate 4 0), .i .u8 (List.replicate 16 0), .c (.v (.int .i64 0))]) (by rfl) (fill_g 1 rfl rfl (by simp only [sgPos, List.length_replicate]) (by simp only [flen, g10]) (by simp only [flen, List.length_replicate]) rfl) ?_
  refine d_box rfl (fun _ => trivial) rfl fun kb11 kz12 => ?_
  refine wpI_s rfl trivial ?_
  refine wpI_nil ?_
  refine seqK_n ?_
  refine wpC_seq ?_
  refine wpC_seq ?_
  refine d_reg rfl ?_
  refine wpI_s rfl trivial ?_
  refine wpI_s rfl trivial ?_
  refine wpI_s rfl trivial ?_
  refine wpI_nil ?_
  refine seqK_n ?_
  refine wpC_block ?_
  refine wpC_rounds 8 ?_
  refine wpLoopN_s ?_
  refine wpC_seq ?_
  refine d_reg rfl ?_
  refine d_bf (w := true) rfl trivial (by decide) ?_
  refine wpI_nil ?_
  refine seqK_n ?_
  refine wpC_seq ?_
  refine wpC_condT rfl ?_
  refine wpC_skip ?_
  refine seqK_n ?_
  refine wpC_seq ?_
  refine wpC_block ?_
  refine wpC_seq ?_
  refine d_reg rfl ?_
  refine wpI_s rfl (by decide) ?_
  refine d_ldc 0 rfl rfl rfl rfl trivial ?_
  refine wpI_s rfl trivial ?_
  refine wpI_nil ?_
  refine seqK_n ?_
  refine wpC_seq ?_
  refine d_reg rfl ?_
  refine wpI_s rfl trivial ?_
  refine wpI_s rfl trivial ?_
  refine wpI_s rfl trivial ?_
  refine wpI_nil ?_
  refine seqK_n ?_
  refine wpC_block ?_
  refine bind_e h fun o26 h hko26 => ?_
  refine d_loop (fun (z : List Int × List Int × Int × Int × Nat) => match z with | (l13, l15, x17, x18, kz19) => (l13, l15, x17, x18)) (fun (z : List Int × List Int × Int × Int × Nat) => (match z with | (l13, l15, x17, x18, kz19) => ⟨[(2, .c (.p 100 kb1 0)), (4, .c (.p 101 kb3 0)), (5, .c (.p 102 kb11 0)), (19, .c (.s 0 X0b 0 6 6)), (20, ib .i64 ((6 : Nat) : Int)), (21, ib .i64 0), (25, .c (.s 1 X1b X1o b__0.length X1c)), (26, ib .i64 ((b__0.length : Nat) : Int)), (27, ib .i64 x18)], [⟨100, kb1, 23, false, (0, 0), (.v (.int .u8 0)), flat [.i .u8 key_]⟩, ⟨101, kb3, 61, false, (0, 0), (.v (.int .u8 0)), flat [.i .u8 (List.replicate 16 0)]⟩, ⟨102, kb11, 102, false, (0, 0), (.v (.int .u64 0)), flat [.i .u64 l13, .i .u64 l7, .i .u8 l15, .c (.v (.int .i64 x17))]⟩, ⟨0, X0b, X0ty, true, X0fr, (.v undef), flat [.c (.s 1 X1b X1o b__0.length X1c), .c (.s 2 X2b X2o b__1.length X2c), .c (.s 3 X3b X3o b__2.length X3c), .c (.s 4 X4b X4o b__3.length X4c), .c (.s 5 X5b X5o b__4.length X5c), .c (.s 6 X6b X6o b__5.length X6c)]⟩, ⟨1, X1b, X1ty, true, X1fr, (.v undef), flat [.r X1pr, .i .u8 b__0, .r X1ps]⟩, ⟨2, X2b, X2ty, true, X2fr, (.v undef), flat [.r X2pr, .i .u8 b__1, .r X2ps]⟩, ⟨3, X3b, X3ty, true, X3fr, (.v undef), flat [.r X3pr, .i .u8 b__2, .r X3ps]⟩, ⟨4, X4b, X4ty, true, X4fr, (.v undef), flat [.r X4pr, .i .u8 b__3, .r X4ps]⟩, ⟨5, X5b, X5ty, true, X5fr, (.v undef), flat [.r X5pr, .i .u8 b__4, .r X5ps]⟩, ⟨6, X6b, X6ty, true, X6fr, (.v undef), flat [.r X6pr, .i .u8 b__5, .r X6ps]⟩], 103, kz19⟩ : St)) (fun (z : List Int × List Int × Int × Int × Nat) => match z with | (l13, l15, x17, x18, kz19) => (l13.length = 4) ∧ (l15.length = 16)) ((List.replicate 4 0), (List.replicate 16 0), 0, 0, kz12) [100, 101, 102, 0, 1, 2, 3, 4, 5, 6] h ⟨List.length_replicate, List.length_replicate⟩ (leS2_c rfl rfl (leS2_c rfl rfl (leS2_c rfl rfl (leS2_c rfl rfl (leS2_c rfl rfl (leS2_c rfl rfl (leS2_c rfl rfl (leS2_c rfl rfl (leS2_c rfl rfl leS2_n))))))))) (leH2_c rfl rfl rfl rfl rfl rfl (leH2_c rfl rfl rfl rfl rfl rfl (leH2_c rfl rfl rfl rfl rfl rfl (leH2_c rfl rfl rfl rfl rfl rfl (leH2_c rfl rfl rfl rfl rfl rfl (leH2_c rfl rfl rfl rfl rfl rfl (leH2_c rfl rfl rfl rfl rfl rfl (leH2_c rfl rfl rfl rfl rfl rfl (leH2_c rfl rfl rfl rfl rfl rfl (leH2_c rfl rfl rfl rfl rfl rfl leH2_n)))))))))) rfl rfl ?_
  rintro rec ⟨l13, l15, x17, x18, kz19⟩ ⟨h14, h16⟩ h
  show wpC _ _ _ _ _ (St.mk _ _ _ _)
  unfold fn_poly_Sum_l1 at h; try dsimp only at h
  refine wpC_seq ?_
  refine d_reg rfl ?_
  refine d_b rfl trivial h fun t27 h => ?_
  refine wpI_nil ?_
  refine seqK_n ?_
  refine wpC_seq ?_
  refine d_cond rfl h (fun h => ?_) (fun h => ?_)
  ·refine wpC_skip ?_
   refine seqK_n ?_
   refine wpC_seq ?_
   refine wpC_block ?_
   refine wpC_seq ?_
   refine d_reg rfl ?_
   refine gd_e h fun g28 h => ?_
   refine wpI_s rfl g28 ?_
   refine d_ld 1 (q := x18.toNat) rfl rfl rfl h (sl_offP0 (i := x18) rfl X1S g28) fun x29 h => ?_
   refine wpI_s rfl trivial ?_
   refine wpI_nil ?_
   refine seqK_n ?_
   refine d_reg rfl ?_
   refine wpI_s rfl trivial ?_
   refine wpI_s rfl trivial ?_
   refine bind_e h fun o30 ho31 h => ?_
   obtain ⟨l32, l33, x34⟩ := o30
   try dsimp only at h
   refine d_call (ok_poly_state_take (i0 := 102)  (X0b := kb11) (X0ty := 102)  (h := ho31)) rfl rfl (haveRw_c rfl haveRw_n) haveRo_n (own_of rfl) ?_
   rintro _ _ _ kz37 ⟨rfl, rfl, rfl, h35, h36⟩
   refine ⟨_, rfl, trivial, ?_⟩
   refine gd_e h fun g38 h => ?_
   refine gd_e h fun g39 h => ?_
   refine wpI_nil ?_
   refine blockK_n ?_
   refine seqK_n ?_
   refine d_reg rfl ?_
   refine d_n rfl trivial h fun x40 h => ?_
   refine wpI_s rfl trivial ?_
   refine wpI_nil ?_
   refine lpK_n (l32, l33, x34, x40, kz37) [100, 101, 102, 0, 1, 2, 3, 4, 5, 6] ⟨g38, g39⟩ h (leS2_c rfl rfl (leS2_c rfl rfl (leS2_c rfl rfl (leS2_c rfl rfl (leS2_c rfl rfl (leS2_c rfl rfl (leS2_c rfl rfl (leS2_c rfl rfl (leS2_c rfl rfl leS2_n))))))))) (leH2_c rfl rfl rfl rfl rfl rfl (leH2_c rfl rfl rfl rfl rfl rfl (leH2_c rfl rfl rfl rfl rfl rfl (leH2_c rfl rfl rfl rfl rfl rfl (leH2_c rfl rfl rfl rfl rfl rfl (leH2_c rfl rfl rfl rfl rfl rfl (leH2_c rfl rfl rfl rfl rfl rfl (leH2_c rfl rfl rfl rfl rfl rfl (leH2_c rfl rfl rfl rfl rfl rfl (leH2_c rfl rfl rfl rfl rfl rfl leH2_n)))))))))) rfl rfl
  ·refine wpC_exit ?_
   refine seqK_x ?_
   obtain rfl := Option.some.inj h
   have h := hko26; clear hko26; try dsimp only at h
   refine lpK_x ?_
   refine blockK_x ?_
   refine blockK_n ?_
   refine seqK_n ?_
   refine d_reg rfl ?_
   refine d_nf (w := 1) rfl trivial (by decide) ?_
   refine wpI_s rfl trivial ?_
   refine wpI_nil ?_
   refine roundK_n ?_
   refine wpLoopN_s ?_
   refine wpC_seq ?_
   refine d_reg rfl ?_
   refine d_bf (w := true) rfl trivial (by decide) ?_
   refine wpI_nil ?_
   refine seqK_n ?_
   refine wpC_seq ?_
   refine wpC_condT rfl ?_
   refine wpC_skip ?_
   refine seqK_n ?_
   refine wpC_seq ?_
   refine wpC_block ?_
   refine wpC_seq ?_
   refine d_reg rfl ?_
   refine wpI_s rfl (by decide) ?_
   refine d_ldc 1 rfl rfl rfl rfl trivial ?_
   refine wpI_s rfl trivial ?_
   refine wpI_nil ?_
   refine seqK_n ?_
   refine wpC_seq ?_
   refine d_reg rfl ?_
   refine wpI_s rfl trivial ?_
   refine wpI_s rfl trivial ?_
   refine wpI_s rfl trivial ?_
   refine wpI_nil ?_
   refine seqK_n ?_
   refine wpC_block ?_
   refine bind_e h fun o54 h hko54 => ?_
   refine d_loop (fun (z : List Int × List Int × Int × Int × Nat) => match z with | (l41, l43, x45, x46, kz47) => (l41, l43, x45, x46)) (fun (z : List Int × List Int × Int × Int × Nat) => (match z with | (l41, l43, x45, x46, kz47) => ⟨[(2, .c (.p 100 kb1 0)), (4, .c (.p 101 kb3 0)), (5, .c (.p 102 kb11 0)), (19, .c (.s 0 X0b 0 6 6)), (20, ib .i64 ((6 : Nat) : Int)), (21, ib .i64 1), (25, .c (.s 2 X2b X2o b__1.length X2c)), (26, ib .i64 ((b__1.length : Nat) : Int)), (27, ib .i64 x46)], [⟨100, kb1, 23, false, (0, 0), (.v (.int .u8 0)), flat [.i .u8 key_]⟩, ⟨101, kb3, 61, false, (0, 0), (.v (.int .u8 0)), flat [.i .u8 (List.replicate 16 0)]⟩, ⟨102, kb11, 102, false, (0, 0), (.v (.int .u64 0)), flat [.i .u64 l41, .i .u64 l7, .i .u8 l43, .c (.v (.int .i64 x45))]⟩, ⟨0, X0b, X0ty, true, X0fr, (.v undef), flat [.c (.s 1 X1b X1o b__0.length X1c), .c (.s 2 X2b X2o b__1.length X2c), .c (.s 3 X3b X3o b__2.length X3c), .c (.s 4 X4b X4o b__3.length X4c), .c (.s 5 X5b X5o b__4.length X5c), .c (.s 6 X6b X6o b__5.length X6c)]⟩, ⟨1, X1b, X1ty, true, X1fr, (.v undef), flat [.r X1pr, .i .u8 b__0, .r X1ps]⟩, ⟨2, X2b, X2ty, true, X2fr, (.v undef), flat [.r X2pr, .i .u8 b__1, .r X2ps]⟩, ⟨3, X3b, X3ty, true, X3fr, (.v undef), flat [.r X3pr, .i .u8 b__2, .r X3ps]⟩, ⟨4, X4b, X4ty, true, X4fr, (.v undef), flat [.r X4pr, .i .u8 b__3, .r X4ps]⟩, ⟨5, X5b, X5ty, true, X5fr, (.v undef), flat [.r X5pr, .i .u8 b__4, .r X5ps]⟩, ⟨6, X6b, X6ty, true, X6fr, (.v undef), flat [.r X6pr, .i .u8 b__5, .r X6ps]⟩], 103, kz47⟩ : St)) (fun (z : List Int × List Int × Int × Int × Nat) => match z with | (l41, l43, x45, x46, kz47) => (l41.length = 4) ∧ (l43.length = 16)) (l13, l15, x17, 0, kz19) [100, 101, 102, 0, 1, 2, 3, 4, 5, 6] h ⟨h14, h16⟩ (leS2_c rfl rfl (leS2_c rfl rfl (leS2_c rfl rfl (leS2_c rfl rfl (leS2_c rfl rfl (leS2_c rfl rfl (leS2_c rfl rfl (leS2_c rfl rfl (leS2_c rfl rfl leS2_n))))))))) (leH2_c rfl rfl rfl rfl rfl rfl (leH2_c rfl rfl rfl rfl rfl rfl (leH2_c rfl rfl rfl rfl rfl rfl (leH2_c rfl rfl rfl rfl rfl rfl (leH2_c rfl rfl rfl rfl rfl rfl (leH2_c rfl rfl rfl rfl rfl rfl (leH2_c rfl rfl rfl rfl rfl rfl (leH2_c rfl rfl rfl rfl rfl rfl (leH2_c rfl rfl rfl rfl rfl rfl (leH2_c rfl rfl rfl rfl rfl rfl leH2_n)))))))))) rfl rfl ?_
   rintro rec ⟨l41, l43, x45, x46, kz47⟩ ⟨h42, h44⟩ h
   show wpC _ _ _ _ _ (St.mk _ _ _ _)
   unfold fn_poly_Sum_l2 at h; try dsimp only at h
   refine wpC_seq ?_
   refine d_reg rfl ?_
   refine d_b rfl trivial h fun t55 h => ?_
   refine wpI_nil ?_
   refine seqK_n ?_
   refine wpC_seq ?_
   refine d_cond rfl h (fun h => ?_) (fun h => ?_)
   ·refine wpC_skip ?_
    refine seqK_n ?_
    refine wpC_seq ?_
    refine wpC_block ?_
    refine wpC_seq ?_
    refine d_reg rfl ?_
    refine gd_e h fun g56 h => ?_
    refine wpI_s rfl g56 ?_
    refine d_ld 1 (q := x46.toNat) rfl rfl rfl h (sl_offP0 (i := x46) rfl X2S g56) fun x57 h => ?_
    refine wpI_s rfl trivial ?_
    refine wpI_nil ?_
    refine seqK_n ?_
    refine d_reg rfl ?_
    refine wpI_s rfl trivial ?_
    refine wpI_s rfl trivial ?_
    refine bind_e h fun o58 ho59 h => ?_
    obtain ⟨l60, l61, x62⟩ := o58
    try dsimp only at h
    refine d_call (ok_poly_state_take (i0 := 102)  (X0b := kb11) (X0ty := 102)  (h := ho59)) rfl rfl (haveRw_c rfl haveRw_n) haveRo_n (own_of rfl) ?_
    rintro _ _ _ kz65 ⟨rfl, rfl, rfl, h63, h64⟩
    refine ⟨_, rfl, trivial, ?_⟩
    refine gd_e h fun g66 h => ?_
    refine gd_e h fun g67 h => ?_
    refine wpI_nil ?_
    refine blockK_n ?_
    refine seqK_n ?_
    refine d_reg rfl ?_
    refine d_n rfl trivial h fun x68 h => ?_
    refine wpI_s rfl trivial ?_
    refine wpI_nil ?_
    refine lpK_n (l60, l61, x62, x68, kz65) [100, 101, 102, 0, 1, 2, 3, 4, 5, 6] ⟨g66, g67⟩ h (leS2_c rfl rfl (leS2_c rfl rfl (leS2_c rfl rfl (leS2_c rfl rfl (leS2_c rfl rfl (leS2_c rfl rfl (leS2_c rfl rfl (leS2_c rfl rfl (leS2_c rfl rfl leS2_n))))))))) (leH2_c rfl rfl rfl rfl rfl rfl (leH2_c rfl rfl rfl rfl rfl rfl (leH2_c rfl rfl rfl rfl rfl rfl (leH2_c rfl rfl rfl rfl rfl rfl (leH2_c rfl rfl rfl rfl rfl rfl (leH2_c rfl rfl rfl rfl rfl rfl (leH2_c rfl rfl rfl rfl rfl rfl (leH2_c rfl rfl rfl rfl rfl rfl (leH2_c rfl rfl rfl rfl rfl rfl (leH2_c rfl rfl rfl rfl rfl rfl leH2_n)))))))))) rfl rfl
   ·refine wpC_exit ?_
    refine seqK_x ?_
    obtain rfl := Option.some.inj h
    have h := hko54; clear hko54; try dsimp only at h
    refine lpK_x ?_
    refine blockK_x ?_
    refine blockK_n ?_
    refine seqK_n ?_
    refine d_reg rfl ?_
    refine d_nf (w := 2) rfl trivial (by decide) ?_
    refine wpI_s rfl trivial ?_
    refine wpI_nil ?_
    refine roundK_n ?_
    refine wpLoopN_s ?_
    refine wpC_seq ?_
    refine d_reg rfl ?_
    refine d_bf (w := true) rfl trivial (by decide) ?_
    refine wpI_nil ?_
    refine seqK_n ?_
    refine wpC_seq ?_
    refine wpC_condT rfl ?_
    refine wpC_skip ?_
    refine seqK_n ?_
    refine wpC_seq ?_
    refine wpC_block ?_
    refine wpC_seq ?_
    refine d_reg rfl ?_
    refine wpI_s rfl (by decide) ?_
    refine d_ldc 2 rfl rfl rfl rfl trivial ?_
    refine wpI_s rfl trivial ?_
    refine wpI_nil ?_
    refine seqK_n ?_
    refine wpC_seq ?_
    refine d_reg rfl ?_
    refine wpI_s rfl trivial ?_
    refine wpI_s rfl trivial ?_
    refine wpI_s rfl trivial ?_
    refine wpI_nil ?_
    refine seqK_n ?_
    refine wpC_block ?_
    refine bind_e h fun o82 h hko82 => ?_
    refine d_loop (fun (z : List Int × List Int × Int × Int × Nat) => match z with | (l69, l71, x73, x74, kz75) => (l69, l71, x73, x74)) (fun (z : List Int × List Int × Int × Int × Nat) => (match z with | (l69, l71, x73, x74, kz75) => ⟨[(2, .c (.p 100 kb1 0)), (4, .c (.p 101 kb3 0)), (5, .c (.p 102 kb11 0)), (19, .c (.s 0 X0b 0 6 6)), (20, ib .i64 ((6 : Nat) : Int)), (21, ib .i64 2), (25, .c (.s 3 X3b X3o b__2.length X3c)), (26, ib .i64 ((b__2.length : Nat) : Int)), (27, ib .i64 x74)], [⟨100, kb1, 23, false, (0, 0), (.v (.int .u8 0)), flat [.i .u8 key_]⟩, ⟨101, kb3, 61, false, (0, 0), (.v (.int .u8 0)), flat [.i .u8 (List.replicate 16 0)]⟩, ⟨102, kb11, 102, false, (0, 0), (.v (.int .u64 0)), flat [.i .u64 l69, .i .u64 l7, .i .u8 l71, .c (.v (.int .i64 x73))]⟩, ⟨0, X0b, X0ty, true, X0fr, (.v undef), flat [.c (.s 1 X1b X1o b__0.length X1c), .c (.s 2 X2b X2o b__1.length X2c), .c (.s 3 X3b X3o b__2.length X3c), .c (.s 4 X4b X4o b__3.length X4c), .c (.s 5 X5b X5o b__4.length X5c), .c (.s 6 X6b X6o b__5.length X6c)]⟩, ⟨1, X1b, X1ty, true, X1fr, (.v undef), flat [.r X1pr, .i .u8 b__0, .r X1ps]⟩, ⟨2, X2b, X2ty, true, X2fr, (.v undef), flat [.r X2pr, .i .u8 b__1, .r X2ps]⟩, ⟨3, X3b, X3ty, true, X3fr, (.v undef), flat [.r X3pr, .i .u8 b__2, .r X3ps]⟩, ⟨4, X4b, X4ty, true, X4fr, (.v undef), flat [.r X4pr, .i .u8 b__3, .r X4ps]⟩, ⟨5, X5b, X5ty, true, X5fr, (.v undef), flat [.r X5pr, .i .u8 b__4, .r X5ps]⟩, ⟨6, X6b, X6ty, true, X6fr, (.v undef), flat [.r X6pr, .i .u8 b__5, .r X6ps]⟩], 103, kz75⟩ : St)) (fun (z : List Int × List Int × Int × Int × Nat) => match z with | (l69, l71, x73, x74, kz75) => (l69.length = 4) ∧ (l71.length = 16)) (l41, l43, x45, 0, kz47) [100, 101, 102, 0, 1, 2, 3, 4, 5, 6] h ⟨h42, h44⟩ (leS2_c rfl rfl (leS2_c rfl rfl (leS2_c rfl rfl (leS2_c rfl rfl (leS2_c rfl rfl (leS2_c rfl rfl (leS2_c rfl rfl (leS2_c rfl rfl (leS2_c rfl rfl leS2_n))))))))) (leH2_c rfl rfl rfl rfl rfl rfl (leH2_c rfl rfl rfl rfl rfl rfl (leH2_c rfl rfl rfl rfl rfl rfl (leH2_c rfl rfl rfl rfl rfl rfl (leH2_c rfl rfl rfl rfl rfl rfl (leH2_c rfl rfl rfl rfl rfl rfl (leH2_c rfl rfl rfl rfl rfl rfl (leH2_c rfl rfl rfl rfl rfl rfl (leH2_c rfl rfl rfl rfl rfl rfl (leH2_c rfl rfl rfl rfl rfl rfl leH2_n)))))))))) rfl rfl ?_
    rintro rec ⟨l69, l71, x73, x74, kz75⟩ ⟨h70, h72⟩ h
    show wpC _ _ _ _ _ (St.mk _ _ _ _)
    unfold fn_poly_Sum_l3 at h; try dsimp only at h
    refine wpC_seq ?_
    refine d_reg rfl ?_
    refine d_b rfl trivial h fun t83 h => ?_
    refine wpI_nil ?_
    refine seqK_n ?_
    refine wpC_seq ?_
    refine d_cond rfl h (fun h => ?_) (fun h => ?_)
    ·refine wpC_skip ?_
     refine seqK_n ?_
     refine wpC_seq ?_
     refine wpC_block ?_
     refine wpC_seq ?_
     refine d_reg rfl ?_
     refine gd_e h fun g84 h => ?_
     refine wpI_s rfl g84 ?_
     refine d_ld 1 (q := x74.toNat) rfl rfl rfl h (sl_offP0 (i := x74) rfl X3S g84) fun x85 h => ?_
     refine wpI_s rfl trivial ?_
     refine wpI_nil ?_
     refine seqK_n ?_
     refine d_reg rfl ?_
     refine wpI_s rfl trivial ?_
     refine wpI_s rfl trivial ?_
     refine bind_e h fun o86 ho87 h => ?_
     obtain ⟨l88, l89, x90⟩ := o86
     try dsimp only at h
     refine d_call (ok_poly_state_take (i0 := 102)  (X0b := kb11) (X0ty := 102)  (h := ho87)) rfl rfl (haveRw_c rfl haveRw_n) haveRo_n (own_of rfl) ?_
     rintro _ _ _ kz93 ⟨rfl, rfl, rfl, h91, h92⟩
     refine ⟨_, rfl, trivial, ?_⟩
     refine gd_e h fun g94 h => ?_
     refine gd_e h fun g95 h => ?_
     refine wpI_nil ?_
     refine blockK_n ?_
     refine seqK_n ?_
     refine d_reg rfl ?_
     refine d_n rfl trivial h fun x96 h => ?_
     refine wpI_s rfl trivial ?_
     refine wpI_nil ?_
     refine lpK_n (l88, l89, x90, x96, kz93) [100, 101, 102, 0, 1, 2, 3, 4, 5, 6] ⟨g94, g95⟩ h (leS2_c rfl rfl (leS2_c rfl rfl (leS2_c rfl rfl (leS2_c rfl rfl (leS2_c rfl rfl (leS2_c rfl rfl (leS2_c rfl rfl (leS2_c rfl rfl (leS2_c rfl rfl leS2_n))))))))) (leH2_c rfl rfl rfl rfl rfl rfl (leH2_c rfl rfl rfl rfl rfl rfl (leH2_c rfl rfl rfl rfl rfl rfl (leH2_c rfl rfl rfl rfl rfl rfl (leH2_c rfl rfl rfl rfl rfl rfl (leH2_c rfl rfl rfl rfl rfl rfl (leH2_c rfl rfl rfl rfl rfl rfl (leH2_c rfl rfl rfl rfl rfl rfl (leH2_c rfl rfl rfl rfl rfl rfl (leH2_c rfl rfl rfl rfl rfl rfl leH2_n)))))))))) rfl rfl
    ·refine wpC_exit ?_
     refine seqK_x ?_
     obtain rfl := Option.some.inj h
     have h := hko82; clear hko82; try dsimp only at h
     refine lpK_x ?_
     refine blockK_x ?_
     refine blockK_n ?_
     refine seqK_n ?_
     refine d_reg rfl ?_
     refine d_nf (w := 3) rfl trivial (by decide) ?_
     refine wpI_s rfl trivial ?_
     refine wpI_nil ?_
     refine roundK_n ?_
     refine wpLoopN_s ?_
     refine wpC_seq ?_
     refine d_reg rfl ?_
     refine d_bf (w := true) rfl trivial (by decide) ?_
     refine wpI_nil ?_
     refine seqK_n ?_
     refine wpC_seq ?_
     refine wpC_condT rfl ?_
     refine wpC_skip ?_
     refine seqK_n ?_
     refine wpC_seq ?_
     refine wpC_block ?_
     refine wpC_seq ?_
     refine d_reg rfl ?_
     refine wpI_s rfl (by decide) ?_
     refine d_ldc 3 rfl rfl rfl rfl trivial ?_
     refine wpI_s rfl trivial ?_
     refine wpI_nil ?_
     refine seqK_n ?_
     refine wpC_seq ?_
     refine d_reg rfl ?_
     refine wpI_s rfl trivial ?_
     refine wpI_s rfl trivial ?_
     refine wpI_s rfl trivial ?_
     refine wpI_nil ?_
     refine seqK_n ?_
     refine wpC_block ?_
     refine bind_e h fun o110 h hko110 => ?_
     refine d_loop (fun (z : List Int × List Int × Int × Int × Nat) => match z with | (l97, l99, x101, x102, kz103) => (l97, l99, x101, x102)) (fun (z : List Int × List Int × Int × Int × Nat) => (match z with | (l97, l99, x101, x102, kz103) => ⟨[(2, .c (.p 100 kb1 0)), (4, .c (.p 101 kb3 0)), (5, .c (.p 102 kb11 0)), (19, .c (.s 0 X0b 0 6 6)), (20, ib .i64 ((6 : Nat) : Int)), (21, ib .i64 3), (25, .c (.s 4 X4b X4o b__3.length X4c)), (26, ib .i64 ((b__3.length : Nat) : Int)), (27, ib .i64 x102)], [⟨100, kb1, 23, false, (0, 0), (.v (.int .u8 0)), flat [.i .u8 key_]⟩, ⟨101, kb3, 61, false, (0, 0), (.v (.int .u8 0)), flat [.i .u8 (List.replicate 16 0)]⟩, ⟨102, kb11, 102, false, (0, 0), (.v (.int .u64 0)), flat [.i .u64 l97, .i .u64 l7, .i .u8 l99, .c (.v (.int .i64 x101))]⟩, ⟨0, X0b, X0ty, true, X0fr, (.v undef), flat [.c (.s 1 X1b X1o b__0.length X1c), .c (.s 2 X2b X2o b__1.length X2c), .c (.s 3 X3b X3o b__2.length X3c), .c (.s 4 X4b X4o b__3.length X4c), .c (.s 5 X5b X5o b__4.length X5c), .c (.s 6 X6b X6o b__5.length X6c)]⟩, ⟨1, X1b, X1ty, true, X1fr, (.v undef), flat [.r X1pr, .i .u8 b__0, .r X1ps]⟩, ⟨2, X2b, X2ty, true, X2fr, (.v undef), flat [.r X2pr, .i .u8 b__1, .r X2ps]⟩, ⟨3, X3b, X3ty, true, X3fr, (.v undef), flat [.r X3pr, .i .u8 b__2, .r X3ps]⟩, ⟨4, X4b, X4ty, true, X4fr, (.v undef), flat [.r X4pr, .i .u8 b__3, .r X4ps]⟩, ⟨5, X5b, X5ty, true, X5fr, (.v undef), flat [.r X5pr, .i .u8 b__4, .r X5ps]⟩, ⟨6, X6b, X6ty, true, X6fr, (.v undef), flat [.r X6pr, .i .u8 b__5, .r X6ps]⟩], 103, kz103⟩ : St)) (fun (z : List Int × List Int × Int × Int × Nat) => match z with | (l97, l99, x101, x102, kz103) => (l97.length = 4) ∧ (l99.length = 16)) (l69, l71, x73, 0, kz75) [100, 101, 102, 0, 1, 2, 3, 4, 5, 6] h ⟨h70, h72⟩ (leS2_c rfl rfl (leS2_c rfl rfl (leS2_c rfl rfl (leS2_c rfl rfl (leS2_c rfl rfl (leS2_c rfl rfl (leS2_c rfl rfl (leS2_c rfl rfl (leS2_c rfl rfl leS2_n))))))))) (leH2_c rfl rfl rfl rfl rfl rfl (leH2_c rfl rfl rfl rfl rfl rfl (leH2_c rfl rfl rfl rfl rfl rfl (leH2_c rfl rfl rfl rfl rfl rfl (leH2_c rfl rfl rfl rfl rfl rfl (leH2_c rfl rfl rfl rfl rfl rfl (leH2_c rfl rfl rfl rfl rfl rfl (leH2_c rfl rfl rfl rfl rfl rfl (leH2_c rfl rfl rfl rfl rfl rfl (leH2_c rfl rfl rfl rfl rfl rfl leH2_n)))))))))) rfl rfl ?_
     rintro rec ⟨l97, l99, x101, x102, kz103⟩ ⟨h98, h100⟩ h
     show wpC _ _ _ _ _ (St.mk _ _ _ _)
     unfold fn_poly_Sum_l4 at h; try dsimp only at h
     refine wpC_seq ?_
     refine d_reg rfl ?_
     refine d_b rfl trivial h fun t111 h => ?_
     refine wpI_nil ?_
     refine seqK_n ?_
     refine wpC_seq ?_
     refine d_cond rfl h (fun h => ?_) (fun h => ?_)
     ·refine wpC_skip ?_
      refine seqK_n ?_
      refine wpC_seq ?_
      refine wpC_block ?_
      refine wpC_seq ?_
      refine d_reg rfl ?_
      refine gd_e h fun g112 h => ?_
      refine wpI_s rfl g112 ?_
      refine d_ld 1 (q := x102.toNat) rfl rfl rfl h (sl_offP0 (i := x102) rfl X4S g112) fun x113 h => ?_
      refine wpI_s rfl trivial ?_
      refine wpI_nil ?_
      refine seqK_n ?_
      refine d_reg rfl ?_
      refine wpI_s rfl trivial ?_
      refine wpI_s rfl trivial ?_
      refine bind_e h fun o114 ho115 h => ?_
      obtain ⟨l116, l117, x118⟩ := o114
      try dsimp only at h
      refine d_call (ok_poly_state_take (i0 := 102)  (X0b := kb11) (X0ty := 102)  (h := ho115)) rfl rfl (haveRw_c rfl haveRw_n) haveRo_n (own_of rfl) ?_
      rintro _ _ _ kz121 ⟨rfl, rfl, rfl, h119, h120⟩
      refine ⟨_, rfl, trivial, ?_⟩
      refine gd_e h fun g122 h => ?_
      refine gd_e h fun g123 h => ?_
      refine wpI_nil ?_
      refine blockK_n ?_
      refine seqK_n ?_
      refine d_reg rfl ?_
      refine d_n rfl trivial h fun x124 h => ?_
      refine wpI_s rfl trivial ?_
      refine wpI_nil ?_
      refine lpK_n (l116, l117, x118, x124, kz121) [100, 101, 102, 0, 1, 2, 3, 4, 5, 6] ⟨g122, g123⟩ h (leS2_c rfl rfl (leS2_c rfl rfl (leS2_c rfl rfl (leS2_c rfl rfl (leS2_c rfl rfl (leS2_c rfl rfl (leS2_c rfl rfl (leS2_c rfl rfl (leS2_c rfl rfl leS2_n))))))))) (leH2_c rfl rfl rfl rfl rfl rfl (leH2_c rfl rfl rfl rfl rfl rfl (leH2_c rfl rfl rfl rfl rfl rfl (leH2_c rfl rfl rfl rfl rfl rfl (leH2_c rfl rfl rfl rfl rfl rfl (leH2_c rfl rfl rfl rfl rfl rfl (leH2_c rfl rfl rfl rfl rfl rfl (leH2_c rfl rfl rfl rfl rfl rfl (leH2_c rfl rfl rfl rfl rfl rfl (leH2_c rfl rfl rfl rfl rfl rfl leH2_n)))))))))) rfl rfl
     ·refine wpC_exit ?_
      refine seqK_x ?_
      obtain rfl := Option.some.inj h
      have h := hko110; clear hko110; try dsimp only at h
      refine lpK_x ?_
      refine blockK_x ?_
      refine blockK_n ?_
      refine seqK_n ?_
      refine d_reg rfl ?_
      refine d_nf (w := 4) rfl trivial (by decide) ?_
      refine wpI_s rfl trivial ?_
      refine wpI_nil ?_
      refine roundK_n ?_
      refine wpLoopN_s ?_
      refine wpC_seq ?_
      refine d_reg rfl ?_
      refine d_bf (w := true) rfl trivial (by decide) ?_
      refine wpI_nil ?_
      refine seqK_n ?_
      refine wpC_seq ?_
      refine wpC_condT rfl ?_
      refine wpC_skip ?_
      refine seqK_n ?_
      refine wpC_seq ?_
      refine wpC_block ?_
      refine wpC_seq ?_
      refine d_reg rfl ?_
      refine wpI_s rfl (by decide) ?_
      refine d_ldc 4 rfl rfl rfl rfl trivial ?_
      refine wpI_s rfl trivial ?_
      refine wpI_nil ?_
      refine seqK_n ?_
      refine wpC_seq ?_
      refine d_reg rfl ?_
      refine wpI_s rfl trivial ?_
      refine wpI_s rfl trivial ?_
      refine wpI_s rfl trivial ?_
      refine wpI_nil ?_
      refine seqK_n ?_
      refine wpC_block ?_
      refine bind_e h fun o138 h hko138 => ?_
      refine d_loop (fun (z : List Int × List Int × Int × Int × Nat) => match z with | (l125, l127, x129, x130, kz131) => (l125, l127, x129, x130)) (fun (z : List Int × List Int × Int × Int × Nat) => (match z with | (l125, l127, x129, x130, kz131) => ⟨[(2, .c (.p 100 kb1 0)), (4, .c (.p 101 kb3 0)), (5, .c (.p 102 kb11 0)), (19, .c (.s 0 X0b 0 6 6)), (20, ib .i64 ((6 : Nat) : Int)), (21, ib .i64 4), (25, .c (.s 5 X5b X5o b__4.length X5c)), (26, ib .i64 ((b__4.length : Nat) : Int)), (27, ib .i64 x130)], [⟨100, kb1, 23, false, (0, 0), (.v (.int .u8 0)), flat [.i .u8 key_]⟩, ⟨101, kb3, 61, false, (0, 0), (.v (.int .u8 0)), flat [.i .u8 (List.replicate 16 0)]⟩, ⟨102, kb11, 102, false, (0, 0), (.v (.int .u64 0)), flat [.i .u64 l125, .i .u64 l7, .i .u8 l127, .c (.v (.int .i64 x129))]⟩, ⟨0, X0b, X0ty, true, X0fr, (.v undef), flat [.c (.s 1 X1b X1o b__0.length X1c), .c (.s 2 X2b X2o b__1.length X2c), .c (.s 3 X3b X3o b__2.length X3c), .c (.s 4 X4b X4o b__3.length X4c), .c (.s 5 X5b X5o b__4.length X5c), .c (.s 6 X6b X6o b__5.length X6c)]⟩, ⟨1, X1b, X1ty, true, X1fr, (.v undef), flat [.r X1pr, .i .u8 b__0, .r X1ps]⟩, ⟨2, X2b, X2ty, true, X2fr, (.v undef), flat [.r X2pr, .i .u8 b__1, .r X2ps]⟩, ⟨3, X3b, X3ty, true, X3fr, (.v undef), flat [.r X3pr, .i .u8 b__2, .r X3ps]⟩, ⟨4, X4b, X4ty, true, X4fr, (.v undef), flat [.r X4pr, .i .u8 b__3, .r X4ps]⟩, ⟨5, X5b, X5ty, true, X5fr, (.v undef), flat [.r X5pr, .i .u8 b__4, .r X5ps]⟩, ⟨6, X6b, X6ty, true, X6fr, (.v undef), flat [.r X6pr, .i .u8 b__5, .r X6ps]⟩], 103, kz131⟩ : St)) (fun (z : List Int × List Int × Int × Int × Nat) => match z with | (l125, l127, x129, x130, kz131) => (l125.length = 4) ∧ (l127.length = 16)) (l97, l99, x101, 0, kz103) [100, 101, 102, 0, 1, 2, 3, 4, 5, 6] h ⟨h98, h100⟩ (leS2_c rfl rfl (leS2_c rfl rfl (leS2_c rfl rfl (leS2_c rfl rfl (leS2_c rfl rfl (leS2_c rfl rfl (leS2_c rfl rfl (leS2_c rfl rfl (leS2_c rfl rfl leS2_n))))))))) (leH2_c rfl rfl rfl rfl rfl rfl (leH2_c rfl rfl rfl rfl rfl rfl (leH2_c rfl rfl rfl rfl rfl rfl (leH2_c rfl rfl rfl rfl rfl rfl (leH2_c rfl rfl rfl rfl rfl rfl (leH2_c rfl rfl rfl rfl rfl rfl (leH2_c rfl rfl rfl rfl rfl rfl (leH2_c rfl rfl rfl rfl rfl rfl (leH2_c rfl rfl rfl rfl rfl rfl (leH2_c rfl rfl rfl rfl rfl rfl leH2_n)))))))))) rfl rfl ?_
      rintro rec ⟨l125, l127, x129, x130, kz131⟩ ⟨h126, h128⟩ h
      show wpC _ _ _ _ _ (St.mk _ _ _ _)
      unfold fn_poly_Sum_l5 at h; try dsimp only at h
      refine wpC_seq ?_
      refine d_reg rfl ?_
      refine d_b rfl trivial h fun t139 h => ?_
      refine wpI_nil ?_
      refine seqK_n ?_
      refine wpC_seq ?_
      refine d_cond rfl h (fun h => ?_) (fun h => ?_)
      ·refine wpC_skip ?_
       refine seqK_n ?_
       refine wpC_seq ?_
       refine wpC_block ?_
       refine wpC_seq ?_
       refine d_reg rfl ?_
       refine gd_e h fun g140 h => ?_
       refine wpI_s rfl g140 ?_
       refine d_ld 1 (q := x130.toNat) rfl rfl rfl h (sl_offP0 (i := x130) rfl X5S g140) fun x141 h => ?_
       refine wpI_s rfl trivial ?_
       refine wpI_nil ?_
       refine seqK_n ?_
       refine d_reg rfl ?_
       refine wpI_s rfl trivial ?_
       refine wpI_s rfl trivial ?_
       refine bind_e h fun o142 ho143 h => ?_
       obtain ⟨l144, l145, x146⟩ := o142
       try dsimp only at h
       refine d_call (ok_poly_state_take (i0 := 102)  (X0b := kb11) (X0ty := 102)  (h := ho143)) rfl rfl (haveRw_c rfl haveRw_n) haveRo_n (own_of rfl) ?_
       rintro _ _ _ kz149 ⟨rfl, rfl, rfl, h147, h148⟩
       refine ⟨_, rfl, trivial, ?_⟩
       refine gd_e h fun g150 h => ?_
       refine gd_e h fun g151 h => ?_
       refine wpI_nil ?_
       refine blockK_n ?_
       refine seqK_n ?_
       refine d_reg rfl ?_
       refine d_n rfl trivial h fun x152 h => ?_
       refine wpI_s rfl trivial ?_
       refine wpI_nil ?_
       refine lpK_n (l144, l145, x146, x152, kz149) [100, 101, 102, 0, 1, 2, 3, 4, 5, 6] ⟨g150, g151⟩ h (leS2_c rfl rfl (leS2_c rfl rfl (leS2_c rfl rfl (leS2_c rfl rfl (leS2_c rfl rfl (leS2_c rfl rfl (leS2_c rfl rfl (leS2_c rfl rfl (leS2_c rfl rfl leS2_n))))))))) (leH2_c rfl rfl rfl rfl rfl rfl (leH2_c rfl rfl rfl rfl rfl rfl (leH2_c rfl rfl rfl rfl rfl rfl (leH2_c rfl rfl rfl rfl rfl rfl (leH2_c rfl rfl rfl rfl rfl rfl (leH2_c rfl rfl rfl rfl rfl rfl (leH2_c rfl rfl rfl rfl rfl rfl (leH2_c rfl rfl rfl rfl rfl rfl (leH2_c rfl rfl rfl rfl rfl rfl (leH2_c rfl rfl rfl rfl rfl rfl leH2_n)))))))))) rfl rfl
      ·refine wpC_exit ?_
       refine seqK_x ?_
       obtain rfl := Option.some.inj h
       have h := hko138; clear hko138; try dsimp only at h
       refine lpK_x ?_
       refine blockK_x ?_
       refine blockK_n ?_
       refine seqK_n ?_
       refine d_reg rfl ?_
       refine d_nf (w := 5) rfl trivial (by decide) ?_
       refine wpI_s rfl trivial ?_
       refine wpI_nil ?_
       refine roundK_n ?_
       refine wpLoopN_s ?_
       refine wpC_seq ?_
       refine d_reg rfl ?_
       refine d_bf (w := true) rfl trivial (by decide) ?_
       refine wpI_nil ?_
       refine seqK_n ?_
       refine wpC_seq ?_
       refine wpC_condT rfl ?_
       refine wpC_skip ?_
       refine seqK_n ?_
       refine wpC_seq ?_
       refine wpC_block ?_
       refine wpC_seq ?_
       refine d_reg rfl ?_
       refine wpI_s rfl (by decide) ?_
       refine d_ldc 5 rfl rfl rfl rfl trivial ?_
       refine wpI_s rfl trivial ?_
       refine wpI_nil ?_
       refine seqK_n ?_
       refine wpC_seq ?_
       refine d_reg rfl ?_
       refine wpI_s rfl trivial ?_
       refine wpI_s rfl trivial ?_
       refine wpI_s rfl trivial ?_
       refine wpI_nil ?_
       refine seqK_n ?_
       refine wpC_block ?_
       refine bind_e h fun o166 h hko166 => ?_
       refine d_loop (fun (z : List Int × List Int × Int × Int × Nat) => match z with | (l153, l155, x157, x158, kz159) => (l153, l155, x157, x158)) (fun (z : List Int × List Int × Int × Int × Nat) => (match z with | (l153, l155, x157, x158, kz159) => ⟨[(2, .c (.p 100 kb1 0)), (4, .c (.p 101 kb3 0)), (5, .c (.p 102 kb11 0)), (19, .c (.s 0 X0b 0 6 6)), (20, ib .i64 ((6 : Nat) : Int)), (21, ib .i64 5), (25, .c (.s 6 X6b X6o b__5.length X6c)), (26, ib .i64 ((b__5.length : Nat) : Int)), (27, ib .i64 x158)], [⟨100, kb1, 23, false, (0, 0), (.v (.int .u8 0)), flat [.i .u8 key_]⟩, ⟨101, kb3, 61, false, (0, 0), (.v (.int .u8 0)), flat [.i .u8 (List.replicate 16 0)]⟩, ⟨102, kb11, 102, false, (0, 0), (.v (.int .u64 0)), flat [.i .u64 l153, .i .u64 l7, .i .u8 l155, .c (.v (.int .i64 x157))]⟩, ⟨0, X0b, X0ty, true, X0fr, (.v undef), flat [.c (.s 1 X1b X1o b__0.length X1c), .c (.s 2 X2b X2o b__1.length X2c), .c (.s 3 X3b X3o b__2.length X3c), .c (.s 4 X4b X4o b__3.length X4c), .c (.s 5 X5b X5o b__4.length X5c), .c (.s 6 X6b X6o b__5.length X6c)]⟩, ⟨1, X1b, X1ty, true, X1fr, (.v undef), flat [.r X1pr, .i .u8 b__0, .r X1ps]⟩, ⟨2, X2b, X2ty, true, X2fr, (.v undef), flat [.r X2pr, .i .u8 b__1, .r X2ps]⟩, ⟨3, X3b, X3ty, true, X3fr, (.v undef), flat [.r X3pr, .i .u8 b__2, .r X3ps]⟩, ⟨4, X4b, X4ty, true, X4fr, (.v undef), flat [.r X4pr, .i .u8 b__3, .r X4ps]⟩, ⟨5, X5b, X5ty, true, X5fr, (.v undef), flat [.r X5pr, .i .u8 b__4, .r X5ps]⟩, ⟨6, X6b, X6ty, true, X6fr, (.v undef), flat [.r X6pr, .i .u8 b__5, .r X6ps]⟩], 103, kz159⟩ : St)) (fun (z : List Int × List Int × Int × Int × Nat) => match z with | (l153, l155, x157, x158, kz159) => (l153.length = 4) ∧ (l155.length = 16)) (l125, l127, x129, 0, kz131) [100, 101, 102, 0, 1, 2, 3, 4, 5, 6] h ⟨h126, h128⟩ (leS2_c rfl rfl (leS2_c rfl rfl (leS2_c rfl rfl (leS2_c rfl rfl (leS2_c rfl rfl (leS2_c rfl rfl (leS2_c rfl rfl (leS2_c rfl rfl (leS2_c rfl rfl leS2_n))))))))) (leH2_c rfl rfl rfl rfl rfl rfl (leH2_c rfl rfl rfl rfl rfl rfl (leH2_c rfl rfl rfl rfl rfl rfl (leH2_c rfl rfl rfl rfl rfl rfl (leH2_c rfl rfl rfl rfl rfl rfl (leH2_c rfl rfl rfl rfl rfl rfl (leH2_c rfl rfl rfl rfl rfl rfl (leH2_c rfl rfl rfl rfl rfl rfl (leH2_c rfl rfl rfl rfl rfl rfl (leH2_c rfl rfl rfl rfl rfl rfl leH2_n)))))))))) rfl rfl ?_
       rintro rec ⟨l153, l155, x157, x158, kz159⟩ ⟨h154, h156⟩ h
       show wpC _ _ _ _ _ (St.mk _ _ _ _)
       unfold fn_poly_Sum_l6 at h; try dsimp only at h
       refine wpC_seq ?_
       refine d_reg rfl ?_
       refine d_b rfl trivial h fun t167 h => ?_
       refine wpI_nil ?_
       refine seqK_n ?_
       refine wpC_seq ?_
       refine d_cond rfl h (fun h => ?_) (fun h => ?_)
       ·refine wpC_skip ?_
        refine seqK_n ?_
        refine wpC_seq ?_
        refine wpC_block ?_
        refine wpC_seq ?_
        refine d_reg rfl ?_
        refine gd_e h fun g168 h => ?_
        refine wpI_s rfl g168 ?_
        refine d_ld 1 (q := x158.toNat) rfl rfl rfl h (sl_offP0 (i := x158) rfl X6S g168) fun x169 h => ?_
        refine wpI_s rfl trivial ?_
        refine wpI_nil ?_
        refine seqK_n ?_
        refine d_reg rfl ?_
        refine wpI_s rfl trivial ?_
        refine wpI_s rfl trivial ?_
        refine bind_e h fun o170 ho171 h => ?_
        obtain ⟨l172, l173, x174⟩ := o170
        try dsimp only at h
        refine d_call (ok_poly_state_take (i0 := 102)  (X0b := kb11) (X0ty := 102)  (h := ho171)) rfl rfl (haveRw_c rfl haveRw_n) haveRo_n (own_of rfl) ?_
        rintro _ _ _ kz177 ⟨rfl, rfl, rfl, h175, h176⟩
        refine ⟨_, rfl, trivial, ?_⟩
        refine gd_e h fun g178 h => ?_
        refine gd_e h fun g179 h => ?_
        refine wpI_nil ?_
        refine blockK_n ?_
        refine seqK_n ?_
        refine d_reg rfl ?_
        refine d_n rfl trivial h fun x180 h => ?_
        refine wpI_s rfl trivial ?_
        refine wpI_nil ?_
        refine lpK_n (l172, l173, x174, x180, kz177) [100, 101, 102, 0, 1, 2, 3, 4, 5, 6] ⟨g178, g179⟩ h (leS2_c rfl rfl (leS2_c rfl rfl (leS2_c rfl rfl (leS2_c rfl rfl (leS2_c rfl rfl (leS2_c rfl rfl (leS2_c rfl rfl (leS2_c rfl rfl (leS2_c rfl rfl leS2_n))))))))) (leH2_c rfl rfl rfl rfl rfl rfl (leH2_c rfl rfl rfl rfl rfl rfl (leH2_c rfl rfl rfl rfl rfl rfl (leH2_c rfl rfl rfl rfl rfl rfl (leH2_c rfl rfl rfl rfl rfl rfl (leH2_c rfl rfl rfl rfl rfl rfl (leH2_c rfl rfl rfl rfl rfl rfl (leH2_c rfl rfl rfl rfl rfl rfl (leH2_c rfl rfl rfl rfl rfl rfl (leH2_c rfl rfl rfl rfl rfl rfl leH2_n)))))))))) rfl rfl
       ·refine wpC_exit ?_
        refine seqK_x ?_
        obtain rfl := Option.some.inj h
        have h := hko166; clear hko166; try dsimp only at h
        refine lpK_x ?_
        refine blockK_x ?_
        refine blockK_n ?_
        refine seqK_n ?_
        refine d_reg rfl ?_
        refine d_nf (w := 6) rfl trivial (by decide) ?_
        refine wpI_s rfl trivial ?_
        refine wpI_nil ?_
        refine roundK_n ?_
        refine wpLoopN_s ?_
        refine wpC_seq ?_
        refine d_reg rfl ?_
        refine d_bf (w := false) rfl trivial (by decide) ?_
        refine wpI_nil ?_
        refine seqK_n ?_
        refine wpC_seq ?_
        refine wpC_condF rfl ?_
        refine wpC_exit ?_
        refine seqK_x ?_
        refine roundK_x ?_
        refine blockK_x ?_
        refine seqK_n ?_
        refine bind_e h fun o185 h hko185 => ?_
        refine d_join (fun (z : List Int × Int × Nat) => (match z with | (l181, x183, kz184) => ⟨[(2, .c (.p 100 kb1 0)), (4, .c (.p 101 kb3 0)), (5, .c (.p 102 kb11 0))], [⟨100, kb1, 23, false, (0, 0), (.v (.int .u8 0)), flat [.i .u8 key_]⟩, ⟨101, kb3, 61, false, (0, 0), (.v (.int .u8 0)), flat [.i .u8 (List.replicate 16 0)]⟩, ⟨102, kb11, 102, false, (0, 0), (.v (.int .u64 0)), flat [.i .u64 l181, .i .u64 l7, .i .u8 l155, .c (.v (.int .i64 x183))]⟩], 103, kz184⟩ : St)) (fun (z : List Int × Int × Nat) => match z with | (l181, x183, kz184) => ((l181.length = 4)) ∧ (l181, x183) = o185) ?_ ?_
        ·refine wpC_seq ?_
         refine d_reg rfl ?_
         refine wpI_s rfl trivial ?_
         refine wpI_s rfl trivial ?_
         refine wpI_s rfl trivial ?_
         refine d_ldc 3 rfl rfl rfl (by simp only [sgPos, h154, g10, h156]) rfl ?_
         refine d_b rfl trivial h fun t186 h => ?_
         refine wpI_nil ?_
         refine seqK_n ?_
         refine d_cond rfl h (fun h => ?_) (fun h => ?_)
         ·refine d_reg rfl ?_
          refine wpI_s rfl trivial ?_
          refine bind_e h fun l189 ho188 h => ?_
          refine d_call (ok_poly_state_turn (i0 := 102)  (X0b := kb11) (X0ty := 102)  (h := ho188)) rfl rfl (haveRw_c rfl haveRw_n) haveRo_n (own_of rfl) ?_
          rintro _ _ _ kz191 ⟨rfl, rfl, rfl, h190⟩
          refine ⟨_, rfl, trivial, ?_⟩
          refine gd_e h fun g192 h => ?_
          refine wpI_nil ?_
          refine jnK_n (l189, 0, kz191) [100, 101, 102] ⟨g192, Option.some.inj h⟩ (leS2_c rfl rfl (leS2_c rfl rfl (leS2_c rfl rfl leS2_n))) (leH2_c rfl rfl rfl rfl rfl rfl (leH2_c rfl rfl rfl rfl rfl rfl (leH2_c rfl rfl rfl rfl rfl rfl leH2_n))) rfl rfl
         ·refine wpC_skip ?_
          refine jnK_n (l153, x157, kz159) [100, 101, 102] ⟨h154, Option.some.inj h⟩ (leS2_c rfl rfl (leS2_c rfl rfl (leS2_c rfl rfl leS2_n))) (leH2_c rfl rfl rfl rfl rfl rfl (leH2_c rfl rfl rfl rfl rfl rfl (leH2_c rfl rfl rfl rfl rfl rfl leH2_n))) rfl rfl
        ·rintro ⟨l181, x183, kz184⟩ ⟨h182, rfl⟩
         show wpC _ _ _ _ _ (St.mk _ _ _ _)
         have h := hko185; clear hko185; try dsimp only at h
         refine wpC_seq ?_
         refine d_reg rfl ?_
         refine wpI_s rfl trivial ?_
         refine wpI_s rfl trivial ?_
         refine wpI_s rfl trivial ?_
         refine d_lda 0 1 rfl rfl rfl rfl (by simp only [flen, h182]) ?_
         refine bind_e h fun l195 ho194 h => ?_
         refine d_call (ok_poly_fold     (h := ho194)) rfl rfl haveRw_n haveRo_n (own_of rfl) ?_
         rintro _ _ _ kz197 ⟨rfl, rfl, rfl, h196⟩
         refine ⟨_, rfl, trivial, ?_⟩
         refine gd_e h fun g198 h => ?_
         refine bind_e h fun l201 ho200 h => ?_
         refine d_call (ok_poly_fold     (h := ho200)) rfl rfl haveRw_n haveRo_n (own_of rfl) ?_
         rintro _ _ _ kz203 ⟨rfl, rfl, rfl, h202⟩
         refine ⟨_, rfl, trivial, ?_⟩
         refine gd_e h fun g204 h => ?_
         refine bind_e h fun l207 ho206 h => ?_
         refine d_call (ok_poly_fold     (h := ho206)) rfl rfl haveRw_n haveRo_n (own_of rfl) ?_
         rintro _ _ _ kz209 ⟨rfl, rfl, rfl, h208⟩
         refine ⟨_, rfl, trivial, ?_⟩
         refine gd_e h fun g210 h => ?_
         refine d_alo (g := [.i .u64 (List.replicate 4 0)]) (zeros_flat _ _ _) (fun _ => trivial) fun kb211 kz212 => ?_
         refine d_sta 0 rfl rfl rfl rfl rfl (by simp only [flen, g210]) (by simp only [flen, List.length_replicate]) rfl rfl trivial ?_
         refine wpI_nil ?_
         refine seqK_n ?_
         refine bind_e h fun o216 h hko216 => ?_
         refine d_join (fun (z : List Int × Nat) => (match z with | (l213, kz215) => ⟨[(2, .c (.p 100 kb1 0)), (4, .c (.p 101 kb3 0)), (10, .c (.p 103 kb211 0))], [⟨100, kb1, 23, false, (0, 0), (.v (.int .u8 0)), flat [.i .u8 key_]⟩, ⟨101, kb3, 61, false, (0, 0), (.v (.int .u8 0)), flat [.i .u8 (List.replicate 16 0)]⟩, ⟨103, kb211, 99, false, (0, 0), (.v (.int .u64 0)), flat [.i .u64 l213]⟩], 105, kz215⟩ : St)) (fun (z : List Int × Nat) => match z with | (l213, kz215) => ((l213.length = 4)) ∧ l213 = o216) ?_ ?_
         ·refine bind_e h fun o222 h hko222 => ?_
          refine d_join (fun (z : List Int × Int × Nat × Nat) => (match z with | (l218, x220, kn217, kz221) => ⟨[(2, .c (.p 100 kb1 0)), (4, .c (.p 101 kb3 0)), (10, .c (.p 103 kb211 0)), (11, .c (.p 104 kn217 0)), (12, ib .u64 x220)], [⟨100, kb1, 23, false, (0, 0), (.v (.int .u8 0)), flat [.i .u8 key_]⟩, ⟨101, kb3, 61, false, (0, 0), (.v (.int .u8 0)), flat [.i .u8 (List.replicate 16 0)]⟩, ⟨103, kb211, 99, false, (0, 0), (.v (.int .u64 0)), flat [.i .u64 l207]⟩, ⟨104, kn217, 99, false, (0, 0), (.v (.int .u64 0)), flat [.i .u64 l218]⟩], 105, kz221⟩ : St)) (fun (z : List Int × Int × Nat × Nat) => match z with | (l218, x220, kn217, kz221) => ((l218.length = 4)) ∧ (l218, x220) = o222) ?_ ?_
          ·refine d_reg rfl ?_
           refine d_qlda 0 1 rfl rfl rfl rfl (by simp only [flen, g210]) ?_
           refine wpI_alt ?_ ?_
           ·refine bind_e h fun o223 ho224 h => ?_
            refine d_call (ok_poly_prime     (h := ho224)) rfl rfl haveRw_n haveRo_n (own_of rfl) ?_
            rintro _ _ _ kz225 ⟨rfl, rfl, rfl⟩
            refine ⟨_, rfl, (pin_c rfl rfl rfl rfl rfl trivial), ?_⟩
            refine gd_e h fun g226 h => ?_
            refine wpI_alt ?_ ?_
            ·refine bind_e h fun o227 ho228 h => ?_
             obtain ⟨l229, x230⟩ := o227
             try dsimp only at h
             refine d_call (ok_limb_N_Sub     (h := ho228)) rfl rfl haveRw_n haveRo_n (own_of rfl) ?_
             rintro _ _ _ kz232 ⟨rfl, rfl, rfl, h231⟩
             refine ⟨_, rfl, (pin_c rfl rfl rfl rfl rfl trivial), ?_⟩
             refine gd_e h fun g233 h => ?_
             refine wpI_s rfl trivial ?_
             refine wpI_s rfl trivial ?_
             refine wpI_s rfl trivial ?_
             refine d_alo (g := [.i .u64 (List.replicate 4 0)]) (zeros_flat _ _ _) (fun _ => (pin_c rfl rfl rfl rfl rfl trivial)) fun kb234 kz235 => ?_
             refine d_sta 0 rfl rfl rfl rfl rfl (by simp only [flen, g233]) (by simp only [flen, List.length_replicate]) rfl rfl (pin_c rfl rfl rfl rfl rfl trivial) ?_
             refine wpI_s rfl trivial ?_
             refine wpI_nil ?_
             refine jnK_n (l229, x230, kb234, kz235) [100, 101, 103, 104] ⟨g233, Option.some.inj h⟩ (leS2_c rfl rfl (leS2_c rfl rfl (leS2_c rfl rfl (leS2_c rfl rfl (leS2_c rfl rfl leS2_n))))) (leH2_c rfl rfl rfl rfl rfl rfl (leH2_c rfl rfl rfl rfl rfl rfl (leH2_c rfl rfl rfl rfl rfl rfl (leH2_c rfl rfl rfl rfl rfl rfl leH2_n)))) rfl rfl
            ·refine d_alo (g := [.i .u64 (List.replicate 4 0)]) (zeros_flat _ _ _) (fun _ => (pin_c rfl rfl rfl rfl rfl trivial)) fun kb236 kz237 => ?_
             refine bind_e h fun o238 ho239 h => ?_
             obtain ⟨l240, x241⟩ := o238
             try dsimp only at h
             refine d_call (ok_limb_N_Sub     (h := ho239)) rfl rfl haveRw_n haveRo_n (own_of rfl) ?_
             rintro _ _ _ kz243 ⟨rfl, rfl, rfl, h242⟩
             refine ⟨_, rfl, (pin_c rfl rfl rfl rfl rfl trivial), ?_⟩
             refine gd_e h fun g244 h => ?_
             refine wpI_s rfl trivial ?_
             refine wpI_s rfl trivial ?_
             refine wpI_s rfl trivial ?_
             refine d_sta 0 rfl rfl rfl rfl rfl (by simp only [flen, g244]) (by simp only [flen, List.length_replicate]) rfl rfl (pin_c rfl rfl rfl rfl rfl trivial) ?_
             refine wpI_s rfl trivial ?_
             refine wpI_nil ?_
             refine jnK_n (l240, x241, kb236, kz243) [100, 101, 103, 104] ⟨g244, Option.some.inj h⟩ (leS2_c rfl rfl (leS2_c rfl rfl (leS2_c rfl rfl (leS2_c rfl rfl (leS2_c rfl rfl leS2_n))))) (leH2_c rfl rfl rfl rfl rfl rfl (leH2_c rfl rfl rfl rfl rfl rfl (leH2_c rfl rfl rfl rfl rfl rfl (leH2_c rfl rfl rfl rfl rfl rfl leH2_n)))) rfl rfl
           ·refine d_alo (g := [.i .u64 (List.replicate 4 0)]) (zeros_flat _ _ _) (fun _ => (pin_c rfl rfl rfl rfl rfl trivial)) fun kb245 kz246 => ?_
            refine bind_e h fun o247 ho248 h => ?_
            refine d_call (ok_poly_prime     (h := ho248)) rfl rfl haveRw_n haveRo_n (own_of rfl) ?_
            rintro _ _ _ kz249 ⟨rfl, rfl, rfl⟩
            refine ⟨_, rfl, (pin_c rfl rfl rfl rfl rfl trivial), ?_⟩
            refine gd_e h fun g250 h => ?_
            refine bind_e h fun o251 ho252 h => ?_
            obtain ⟨l253, x254⟩ := o251
            try dsimp only at h
            refine d_call (ok_limb_N_Sub     (h := ho252)) rfl rfl haveRw_n haveRo_n (own_of rfl) ?_
            rintro _ _ _ kz256 ⟨rfl, rfl, rfl, h255⟩
            refine ⟨_, rfl, (pin_c rfl rfl rfl rfl rfl trivial), ?_⟩
            refine gd_e h fun g257 h => ?_
            refine wpI_s rfl trivial ?_
            refine wpI_s rfl trivial ?_
            refine wpI_s rfl trivial ?_
            refine d_sta 0 rfl rfl rfl rfl rfl (by simp only [flen, g257]) (by simp only [flen, List.length_replicate]) rfl rfl (pin_c rfl rfl rfl rfl rfl trivial) ?_
            refine wpI_s rfl trivial ?_
            refine wpI_nil ?_
            refine jnK_n (l253, x254, kb245, kz256) [100, 101, 103, 104] ⟨g257, Option.some.inj h⟩ (leS2_c rfl rfl (leS2_c rfl rfl (leS2_c rfl rfl (leS2_c rfl rfl (leS2_c rfl rfl leS2_n))))) (leH2_c rfl rfl rfl rfl rfl rfl (leH2_c rfl rfl rfl rfl rfl rfl (leH2_c rfl rfl rfl rfl rfl rfl (leH2_c rfl rfl rfl rfl rfl rfl leH2_n)))) rfl rfl
          ·rintro ⟨l218, x220, kn217, kz221⟩ ⟨h219, rfl⟩
           show wpC _ _ _ _ _ (St.mk _ _ _ _)
           have h := hko222; clear hko222; try dsimp only at h
           refine wpC_seq ?_
           refine d_reg rfl ?_
           refine wpI_s rfl trivial ?_
           refine d_b rfl trivial h fun t258 h => ?_
           refine wpI_nil ?_
           refine seqK_n ?_
           refine d_cond rfl h (fun h => ?_) (fun h => ?_)
           ·refine d_reg rfl ?_
            refine d_lda 0 1 rfl rfl rfl rfl (by simp only [flen, h219]) ?_
            refine d_sta 0 rfl rfl rfl rfl rfl (by simp only [flen, h219]) (by simp only [flen, g210]) rfl rfl trivial ?_
            refine wpI_nil ?_
            refine jnK_n (l218, kz221) [100, 101, 103] ⟨h219, Option.some.inj h⟩ (leS2_c rfl rfl (leS2_c rfl rfl (leS2_c rfl rfl leS2_n))) (leH2_c rfl rfl rfl rfl rfl rfl (leH2_c rfl rfl rfl rfl rfl rfl (leH2_c rfl rfl rfl rfl rfl rfl leH2_n))) rfl rfl
           ·refine wpC_skip ?_
            refine jnK_n (l207, kz221) [100, 101, 103] ⟨g210, Option.some.inj h⟩ (leS2_c rfl rfl (leS2_c rfl rfl (leS2_c rfl rfl leS2_n))) (leH2_c rfl rfl rfl rfl rfl rfl (leH2_c rfl rfl rfl rfl rfl rfl (leH2_c rfl rfl rfl rfl rfl rfl leH2_n))) rfl rfl
         ·rintro ⟨l213, kz215⟩ ⟨h214, rfl⟩
          show wpC _ _ _ _ _ (St.mk _ _ _ _)
          have h := hko216; clear hko216; try dsimp only at h
          refine wpC_seq ?_
          refine d_reg rfl ?_
          refine d_lda 0 1 rfl rfl rfl rfl (by simp only [flen, Xh_key_]) ?_
          refine bind_e h fun l261 ho260 h => ?_
          refine d_call (ok_limb_Of     (h := ho260)) rfl rfl haveRw_n haveRo_n (own_of rfl) ?_
          rintro _ _ _ kz263 ⟨rfl, rfl, rfl, h262⟩
          refine ⟨_, rfl, trivial, ?_⟩
          refine gd_e h fun g264 h => ?_
          refine d_alo (g := [.i .u64 (List.replicate 4 0)]) (zeros_flat _ _ _) (fun _ => trivial) fun kb265 kz266 => ?_
          refine d_sta 0 rfl rfl rfl rfl rfl (by simp only [flen, g264]) (by simp only [flen, List.length_replicate]) rfl rfl trivial ?_
          refine wpI_nil ?_
          refine seqK_n ?_
          refine wpC_seq ?_
          refine d_reg rfl ?_
          refine d_lda 0 1 rfl rfl rfl rfl (by simp only [flen, h214]) ?_
          refine wpI_s rfl (by decide) ?_
          refine d_ld 0 (q := 2) rfl rfl rfl h (ar_offi (2) rfl) fun x267 h => ?_
          refine wpI_s rfl (by decide) ?_
          refine d_ld 0 (q := 3) rfl rfl rfl h (ar_offi (3) rfl) fun x268 h => ?_
          refine d_bld (g := [.i .u64 [x267, x268, 0, 0]]) (by rfl) ?_
          refine bind_e h fun o269 ho270 h => ?_
          obtain ⟨l271, x272⟩ := o269
          try dsimp only at h
          refine d_call (ok_limb_N_Add     (h := ho270)) rfl rfl haveRw_n haveRo_n (own_of rfl) ?_
          rintro _ _ _ kz274 ⟨rfl, rfl, rfl, h273⟩
          refine ⟨_, rfl, trivial, ?_⟩
          refine gd_e h fun g275 h => ?_
          refine wpI_s rfl trivial ?_
          refine wpI_s rfl trivial ?_
          refine wpI_s rfl trivial ?_
          refine d_sta 0 rfl rfl rfl rfl rfl (by simp only [flen, g275]) (by simp only [flen, h214]) rfl rfl trivial ?_
          refine wpI_nil ?_
          refine seqK_n ?_
          refine wpC_seq ?_
          refine d_reg rfl ?_
          refine d_lda 0 1 rfl rfl rfl rfl (by simp only [flen, g275]) ?_
          refine bind_e h fun l278 ho277 h => ?_
          refine d_call (ok_limb_N_Num     (h := ho277)) rfl rfl haveRw_n haveRo_n (own_of rfl) ?_
          rintro _ _ _ kz280 ⟨rfl, rfl, rfl, h279⟩
          refine ⟨_, rfl, trivial, ?_⟩
          refine gd_e h fun g281 h => ?_
          refine d_alo (g := [.i .u8 (List.replicate 32 0)]) (zeros_flat _ _ _) (fun _ => trivial) fun kb282 kz283 => ?_
          refine d_sta 0 rfl rfl rfl rfl rfl (by simp only [flen, g281]) (by simp only [flen, List.length_replicate]) rfl rfl trivial ?_
          refine wpI_nil ?_
          refine seqK_n ?_
          refine wpC_seq ?_
          refine d_reg rfl ?_
          refine d_sla rfl rfl rfl (by decide) fun ko284 kc285 h286 h287 => ?_
          replace h286 : 0 < 16 → 0 = ko284 := by intro h0; have := h286 (by omega); omega
          replace h287 : 16 ≤ kc285 := by omega
          have h288 : 16 ≤ 32 := by omega
          refine wpI_s rfl (by decide) ?_
          have hp_l289 : 0 = ko284 := by have := h286 (Nat.lt_of_lt_of_le (show 0 < 16 by decide) (show 16 ≤ 16 by decide)); omega
          have hq_l289 : 0 + 16 ≤ 32 := by have := h288; have := (show 16 ≤ 16 from (by decide)); omega
          refine d_ldas 0 (q := 0) rfl rfl rfl (by first | exact hp_l289 | (have e : sgPos _ _ = 0 := rfl; rw [e]; exact hp_l289)) (by rw [g281]; exact hq_l289) h fun l289 h290 h => ?_
          refine d_sta 0 rfl rfl rfl rfl rfl (by simp only [flen, h290]) (by simp only [flen, List.length_replicate]) rfl rfl trivial ?_
          refine wpI_nil ?_
          refine seqK_n ?_
          refine wpC_ret ?_
          obtain rfl := Option.some.inj h
          exact d_ret2 [] [] ⟨rfl, rfl, rfl, h290⟩ (rIs_a 0 1 rfl rfl rfl rfl (by simp only [flen, h290])) leH2_n leH2_n rfl
 exact key.cong rfl blkEq_n (blkEq_c rfl rfl rfl rfl (blkEq_c rfl rfl rfl rfl (blkEq_c rfl rfl rfl rfl (blkEq_c rfl rfl rfl rfl (blkEq_c rfl rfl rfl rfl (blkEq_c rfl rfl rfl rfl (blkEq_c rfl rfl rfl rfl blkEq_n)))))))

def ir_aead_tag : IFn := ⟨32, (.seq (.reg [] (.cons ⟨none, (.w (some 4) (.box 23 32 (.int .u8 0) (.t 0)))⟩ (.cons ⟨none, (.w (some 5) (.box 46 12 (.int .u8 0) (.t 1)))⟩ (.cons ⟨none, (.w (some 8) (.alo 61 (.int .u8 0) (List.replicate 16 (.int .u8 0))))⟩ .nil)))) (.seq (.reg [] (.cons ⟨none, (.r 10 (.lda 32 (.t 4)))⟩ (.cons ⟨none, (.r 11 (.lda 12 (.t 5)))⟩ (.cons ⟨none, (.call (some 12) 51 [(.t 10), (.k (.int .i64 0)), (.t 11)])⟩ (.cons ⟨none, (.w (some 9) (.alo 75 (.int .u8 0) (List.replicate 64 (.int .u8 0))))⟩ (.cons ⟨none, (.w none (.sta 64 (.t 9) (.t 12)))⟩ .nil)))))) (.seq (.reg [9] (.cons ⟨none, (.s 13 (.sla 64 1 (.t 9) none (some (.k (.int .i64 32))) none))⟩ (.cons ⟨none, (.s 14 (.sap 32 (.t 13)))⟩ (.cons ⟨none, (.q 15 (.lda 32 (.t 14)))⟩ (.cons ⟨none, (.s 16 (.mv (.t 3)))⟩ (.cons ⟨none, (.s 17 (.mv (.t 3)))⟩ (.cons ⟨none, (.s 18 (.len (.t 17)))⟩ (.cons ⟨none, (.call (some 19) 53 [(.t 18)])⟩ (.cons ⟨none, (.s 20 (.mv (.t 2)))⟩ (.cons ⟨none, (.s 21 (.mv (.t 2)))⟩ (.cons ⟨none, (.s 22 (.len (.t 21)))⟩ (.cons ⟨none, (.call (some 23) 53 [(.t 22)])⟩ (.cons ⟨none, (.s 24 (.mv (.t 3)))⟩ (.cons ⟨none, (.s 25 (.len (.t 24)))⟩ (.cons ⟨none, (.call (some 26) 54 [(.t 25)])⟩ (.cons ⟨none, (.s 27 (.mv (.t 2)))⟩ (.cons ⟨none, (.s 28 (.len (.t 27)))⟩ (.cons ⟨none, (.call (some 29) 54 [(.t 28)])⟩ (.cons ⟨none, (.w (some 30) (.bsl 24 (.slice none 0 0) [(.slice none 0 0), (.slice none 0 0), (.slice none 0 0), (.slice none 0 0), (.slice none 0 0), (.slice none 0 0)] 6 [(0, (1, (.t 16))), (1, (1, (.t 19))), (2, (1, (.t 20))), (3, (1, (.t 23))), (4, (1, (.t 26))), (5, (1, (.t 29)))]))⟩ (.cons ⟨none, (.call (some 31) 52 [(.t 15), (.t 30)])⟩ (.cons ⟨none, (.w none (.sta 16 (.t 8) (.t 31)))⟩ .nil))))))))))))))))))))) .ret))), [(.cell true 16 (.bool false) 8)]⟩
theorem low_aead_tag : lowF Try.prog Try.f44 = some ir_aead_tag.strip := by kernel_rfl
theorem ok_aead_tag {fu : Nat} (i0 : Nat) (i1 : Nat) {X0b : Nat} {X0ty : Nat} {X0pr : List C} {X0ps : List C} {X0o : Nat} {X0c : Nat} {X0n : Nat} {X1b : Nat} {X1ty : Nat} {X1pr : List C} {X1ps : List C} {X1o : Nat} {X1c : Nat} {X1n : Nat} {X0fr : Nat × Nat} {X1fr : Nat × Nat} {key_ : List Int} {nonce_ : List Int} {b_ : List Int} {beside_ : List Int} (X0l : X0n = b_.length) (X0S : 0 < X0n → X0pr.length = X0o) (X0C : X0n ≤ X0c) (X1l : X1n = beside_.length) (X1S : 0 < X1n → X1pr.length = X1o) (X1C : X1n ≤ X1c) {l9001 : List Int} (h : fn_aead_tag fu key_ nonce_ b_ beside_ = some l9001) :
  EV.Fn Try.prog 44 [.g (flat [.i .u8 key_]), .g (flat [.i .u8 nonce_]), .c (.s 0 X0b X0o X0n X0c), .c (.s 1 X1b X1o X1n X1c)] [] [⟨i0, X0b, X0ty, true, X0fr, (.v undef), flat [.r X0pr, .i .u8 b_, .r X0ps]⟩, ⟨i1, X1b, X1ty, true, X1fr, (.v undef), flat [.r X1pr, .i .u8 beside_, .r X1ps]⟩] (fun v u nw => v = .g (flat [.i .u8 l9001]) ∧ u = [] ∧ nw = [] ∧ (l9001.length = 16)) := by
 subst X0l
 subst X1l
 have key : EV.Fn Try.prog 44 [.g (flat [.i .u8 key_]), .g (flat [.i .u8 nonce_]), .c (.s 0 X0b X0o b_.length X0c), .c (.s 1 X1b X1o beside_.length X1c)] [] [⟨0, X0b, X0ty, true, X0fr, (.v undef), flat [.r X0pr, .i .u8 b_, .r X0ps]⟩, ⟨1, X1b, X1ty, true, X1fr, (.v undef), flat [.r X1pr, .i .u8 beside_, .r X1ps]⟩] (fun v u nw => v = .g (flat [.i .u8 l9001]) ∧ u = [] ∧ nw = [] ∧ (l9001.length = 16)) := by
  unfold fn_aead_tag at h
  refine d_fn (i := ir_aead_tag) (fn := Try.f44) (sl0 := [(0, .g (flat [.i .u8 key_])), (1, .g (flat [.i .u8 nonce_])), (2, .c (.s 0 X0b X0o b_.length X0c)), (3, .c (.s 1 X1b X1o beside_.length X1c))]) (hp0 := [⟨0, X0b, X0ty, true, X0fr, (.v undef), flat [.r X0pr, .i .u8 b_, .r X0ps]⟩, ⟨1, X1b, X1ty, true, X1fr, (.v undef), flat [.r X1pr, .i .u8 beside_, .r X1ps]⟩]) (by kernel_rfl) low_aead_tag mo rfl rfl rfl fun F z0 => ?_
  dsimp only [ir_aead_tag]
  refine gd_e h fun Xh_key_ h => ?_
  refine gd_e h fun Xh_nonce_ h => ?_
  refine wpC_seq ?_
  refine d_reg rfl ?_
  refine d_box rfl (fun _ => trivial) rfl fun kb1 kz2 => ?_
  refine d_box rfl (fun _ => trivial) rfl fun kb3 kz4 => ?_
  refine d_alo (g := [.i .u8 (List.replicate 16 0)]) (zeros_flat _ _ _) (fun _ => trivial) fun kb5 kz6 => ?_
  refine wpI_nil ?_
  refine seqK_n ?_
  refine wpC_seq ?_
  refine d_reg rfl ?_
  refine d_lda 0 1 rfl rfl rfl rfl (by simp only [flen, Xh_key_]) ?_
  refine d_lda 0 1 rfl rfl rfl rfl (by simp only [flen, Xh_nonce_]) ?_
  refine bind_e h fun l9 ho8 h => ?_
  refine d_call (ok_chacha_Block     (h := ho8)) rfl rfl haveRw_n haveRo_n (own_of rfl) ?_
  rintro _ _ _ kz11 ⟨rfl, rfl, rfl, h10⟩
  refine ⟨_, rfl, trivial, ?_⟩
  refine gd_e h fun g12 h => ?_
  refine d_alo (g := [.i .u8 (List.replicate 64 0)]) (zeros_flat _ _ _) (fun _ => trivial) fun kb13 kz14 => ?_
  refine d_sta 0 rfl rfl rfl rfl rfl (by simp only [flen, g12]) (by simp only [flen, List.length_replicate]) rfl rfl trivial ?_
  refine wpI_nil ?_
  refine seqK_n ?_
  refine wpC_seq ?_
  refine d_reg rfl ?_
  refine d_sla rfl rfl rfl (by decide) fun ko15 kc16 h17 h18 => ?_
  replace h17 : 0 < 32 → 0 = ko15 := by intro h0; have := h17 (by omega); omega
  replace h18 : 32 ≤ kc16 := by omega
  have h19 : 32 ≤ 64 := by omega
  refine wpI_s rfl (by decide) ?_
  have hp_l20 : 0 = ko15 := by have := h17 (Nat.lt_of_lt_of_le (show 0 < 32 by decide) (show 32 ≤ 32 by decide)); omega
  have hq_l20 : 0 + 32 ≤ 64 := by have := h19; have := (show 32 ≤ 32 from (by decide)); omega
  refine d_qldas 0 (q := 0) rfl rfl rfl (by first | exact hp_l20 | (have e : sgPos _ _ = 0 := rfl; rw [e]; exact hp_l20)) (by rw [g12]; exact hq_l20) h fun l20 h21 h => ?_
  refine wpI_s rfl trivial ?_
  refine wpI_s rfl trivial ?_
  refine wpI_s rfl trivial ?_
  refine bind_e h fun l24 ho23 h => ?_
  refine d_call (ok_aead_rest  (n0 := 1001)   (h := ho23)) rfl rfl haveRw_n haveRo_n (own_of rfl) ?_
  rintro _ _ _ kz29 ⟨k25, k26, rfl, rfl, rfl, h27, h28⟩
  refine ⟨_, rfl, (pin_c rfl rfl rfl rfl rfl trivial), ?_⟩
  refine wpI_s rfl trivial ?_
  refine wpI_s rfl trivial ?_
  refine wpI_s rfl trivial ?_
  refine bind_e h fun l32 ho31 h => ?_
  refine d_call (ok_aead_rest  (n0 := 1002)   (h := ho31)) rfl rfl haveRw_n haveRo_n (own_of rfl) ?_
  rintro _ _ _ kz37 ⟨k33, k34, rfl, rfl, rfl, h35, h36⟩
  refine ⟨_, rfl, (pin_c rfl rfl rfl rfl rfl trivial), ?_⟩
  refine wpI_s rfl trivial ?_
  refine wpI_s rfl trivial ?_
  refine bind_e h fun l40 ho39 h => ?_
  refine d_call (ok_aead_eight  (n0 := 1003)   (h := ho39)) rfl rfl haveRw_n haveRo_n (own_of rfl) ?_
  rintro _ _ _ kz44 ⟨k41, rfl, rfl, rfl, h42, h43⟩
  refine ⟨_, rfl, (pin_c rfl rfl rfl rfl rfl trivial), ?_⟩
  refine wpI_s rfl trivial ?_
  refine wpI_s rfl trivial ?_
  refine bind_e h fun l47 ho46 h => ?_
  refine d_call (ok_aead_eight  (n0 := 1004)   (h := ho46)) rfl rfl haveRw_n haveRo_n (own_of rfl) ?_
  rintro _ _ _ kz51 ⟨k48, rfl, rfl, rfl, h49, h50⟩
  refine ⟨_, rfl, (pin_c rfl rfl rfl rfl rfl trivial), ?_⟩
  refine d_bsl (g := [.c (.s 1 X1b X1o beside_.length X1c), .c (.s 1001 k25 0 l24.length k26), .c (.s 0 X0b X0o b_.length X0c), .c (.s 1002 k33 0 l32.length k34), .c (.s 1003 k41 0 l40.length 8), .c (.s 1004 k48 0 l47.length 8)]) (by rfl) (fun _ => (pin_c rfl rfl rfl rfl rfl trivial)) fun kb52 kz53 => ?_
  refine bind_e h fun l56 ho55 h => ?_
  refine d_call (ok_poly_Sum (i0 := 104) (i1 := 1) (i2 := 1001) (i3 := 0) (i4 := 1002) (i5 := 1003) (i6 := 1004)  (X0b := kb52) (X0ty := 24) (X1b := X1b) (X1ty := X1ty) (X1pr := X1pr) (X1ps := X1ps) (X1o := X1o) (X1c := X1c) (X1n := beside_.length) (X2b := k25) (X2ty := 5) (X2pr := []) (X2ps := []) (X2o := 0) (X2c := k26) (X2n := l24.length) (X3b := X0b) (X3ty := X0ty) (X3pr := X0pr) (X3ps := X0ps) (X3o := X0o) (X3c := X0c) (X3n := b_.length) (X4b := k33) (X4ty := 5) (X4pr := []) (X4ps := []) (X4o := 0) (X4c := k34) (X4n := l32.length) (X5b := k41) (X5ty := 5) (X5pr := []) (X5ps := []) (X5o := 0) (X5c := 8) (X5n := l40.length) (X6b := k48) (X6ty := 5) (X6pr := []) (X6ps := []) (X6o := 0) (X6c := 8) (X6n := l47.length) (X1l := rfl) (X1S := X1S) (X1C := X1C) (X2l := rfl) (X2S := (fun _ => rfl)) (X2C := h28) (X3l := rfl) (X3S := X0S) (X3C := X0C) (X4l := rfl) (X4S := (fun _ => rfl)) (X4C := h36) (X5l := rfl) (X5S := (fun _ => rfl)) (X5C := h43) (X6l := rfl) (X6S := (fun _ => rfl)) (X6C := h50) (h := ho55)) rfl rfl haveRw_n (haveRo_c rfl rfl (haveRo_c rfl rfl (haveRo_c rfl rfl (haveRo_c rfl rfl (haveRo_c rfl rfl (haveRo_c rfl rfl (haveRo_c rfl rfl haveRo_n))))))) (own_of rfl) ?_
  rintro _ _ _ kz58 ⟨rfl, rfl, rfl, h57⟩
  refine ⟨_, rfl, (pin_c rfl rfl rfl rfl rfl trivial), ?_⟩
  refine gd_e h fun g59 h => ?_
  refine d_sta 0 rfl rfl rfl rfl rfl (by simp only [flen, g59]) (by simp only [flen, List.length_replicate]) rfl rfl (pin_c rfl rfl rfl rfl rfl trivial) ?_
  refine wpI_nil ?_
  refine seqK_n ?_
  refine wpC_ret ?_
  obtain rfl := Option.some.inj h
  exact d_ret2 [] [] ⟨rfl, rfl, rfl, g59⟩ (rIs_a 0 1 rfl rfl rfl rfl (by simp only [flen, g59])) leH2_n leH2_n rfl
 exact key.cong rfl blkEq_n (blkEq_c rfl rfl rfl rfl (blkEq_c rfl rfl rfl rfl blkEq_n))

def ir_mac_Same : IFn := ⟨31, (.seq (.reg [] (.cons ⟨none, (.s 4 (.mv (.k (.bool false))))⟩ .nil)) (.seq (.seq (.reg [] (.cons ⟨none, (.s 7 (.mv (.t 0)))⟩ (.cons ⟨none, (.s 8 (.len (.t 7)))⟩ (.cons ⟨none, (.s 9 (.mv (.t 1)))⟩ (.cons ⟨none, (.s 10 (.len (.t 9)))⟩ (.cons ⟨none, (.s 11 (.bin .neq (.t 8) (.t 10)))⟩ .nil)))))) (.cond (.t 11) (.seq (.reg [] (.cons ⟨none, (.s 4 (.mv (.k (.bool false))))⟩ .nil)) .ret) .skip)) (.seq (.reg [] (.cons ⟨none, (.s 5 (.mv (.k (.int .u8 0))))⟩ .nil)) (.seq (.seq (.reg [] (.cons ⟨none, (.s 12 (.mv (.t 0)))⟩ (.cons ⟨none, (.s 13 (.len (.t 12)))⟩ (.cons ⟨none, (.s 14 (.mv (.k (.int .i64 0))))⟩ .nil)))) (.block 0 (.loop (.seq (.reg [] (.cons ⟨none, (.s 15 (.bin .lss (.t 14) (.t 13)))⟩ .nil)) (.seq (.cond (.t 15) .skip (.exit 0)) (.seq (.block 1 (.seq (.reg [] (.cons ⟨none, (.s 16 (.mv (.t 14)))⟩ (.cons ⟨none, (.s 6 (.mv (.t 16)))⟩ .nil))) (.reg [] (.cons ⟨none, (.s 17 (.mv (.t 5)))⟩ (.cons ⟨none, (.s 18 (.mv (.t 0)))⟩ (.cons ⟨none, (.s 19 (.mv (.t 6)))⟩ (.cons ⟨none, (.s 20 (.is 1 (.t 18) (.t 19)))⟩ (.cons ⟨none, (.r 21 (.ld (.int .u8 0) (.t 20)))⟩ (.cons ⟨none, (.s 22 (.mv (.t 1)))⟩ (.cons ⟨none, (.s 23 (.mv (.t 6)))⟩ (.cons ⟨none, (.s 24 (.is 1 (.t 22) (.t 23)))⟩ (.cons ⟨none, (.r 25 (.ld (.int .u8 0) (.t 24)))⟩ (.cons ⟨none, (.s 26 (.bin .xor (.t 21) (.t 25)))⟩ (.cons ⟨none, (.s 27 (.bin .or (.t 17) (.t 26)))⟩ (.cons ⟨none, (.s 5 (.mv (.t 27)))⟩ .nil))))))))))))))) (.reg [] (.cons ⟨none, (.s 28 (.bin .add (.t 14) (.k (.int .i64 1))))⟩ (.cons ⟨none, (.s 14 (.mv (.t 28)))⟩ .nil))))))))) (.seq (.reg [] (.cons ⟨none, (.s 29 (.mv (.t 5)))⟩ (.cons ⟨none, (.s 30 (.bin .eql (.t 29) (.k (.int .u8 0))))⟩ (.cons ⟨none, (.s 4 (.mv (.t 30)))⟩ .nil)))) .ret))))), [(.tmp 4)]⟩
theorem low_mac_Same : lowF Try.prog Try.f45 = some ir_mac_Same.strip := by kernel_rfl
theorem ok_mac_Same {fu : Nat} (i0 : Nat) (i1 : Nat) {X0b : Nat} {X0ty : Nat} {X0pr : List C} {X0ps : List C} {X0o : Nat} {X0c : Nat} {X0n : Nat} {X1b : Nat} {X1ty : Nat} {X1pr : List C} {X1ps : List C} {X1o : Nat} {X1c : Nat} {X1n : Nat} {X0fr : Nat × Nat} {X1fr : Nat × Nat} {a_ : List Int} {b_ : List Int} (X0l : X0n = a_.length) (X0S : 0 < X0n → X0pr.length = X0o) (X0C : X0n ≤ X0c) (X1l : X1n = b_.length) (X1S : 0 < X1n → X1pr.length = X1o) (X1C : X1n ≤ X1c) {t9001 : Bool} (h : fn_mac_Same fu a_ b_ = some t9001) :
  EV.Fn Try.prog 45 [.c (.s 0 X0b X0o X0n X0c), .c (.s 1 X1b X1o X1n X1c)] [] [⟨i0, X0b, X0ty, true, X0fr, (.v undef), flat [.r X0pr, .i .u8 a_, .r X0ps]⟩, ⟨i1, X1b, X1ty, true, X1fr, (.v undef), flat [.r X1pr, .i .u8 b_, .r X1ps]⟩] (fun v u nw => v = bb t9001 ∧ u = [] ∧ nw = []) := by
 subst X0l
 subst X1l
 have key : EV.Fn Try.prog 45 [.c (.s 0 X0b X0o a_.length X0c), .c (.s 1 X1b X1o b_.length X1c)] [] [⟨0, X0b, X0ty, true, X0fr, (.v undef), flat [.r X0pr, .i .u8 a_, .r X0ps]⟩, ⟨1, X1b, X1ty, true, X1fr, (.v undef), flat [.r X1pr, .i .u8 b_, .r X1ps]⟩] (fun v u nw => v = bb t9001 ∧ u = [] ∧ nw = []) := by
  unfold fn_mac_Same at h
  refine d_fn (i := ir_mac_Same) (fn := Try.f45) (sl0 := [(0, .c (.s 0 X0b X0o a_.length X0c)), (1, .c (.s 1 X1b X1o b_.length X1c))]) (hp0 := [⟨0, X0b, X0ty, true, X0fr, (.v undef), flat [.r X0pr, .i .u8 a_, .r X0ps]⟩, ⟨1, X1b, X1ty, true, X1fr, (.v undef), flat [.r X1pr, .i .u8 b_, .r X1ps]⟩]) (by kernel_rfl) low_mac_Same mo rfl rfl rfl fun F z0 => ?_
  dsimp only [ir_mac_Same]
  refine wpC_seq ?_
  refine d_reg rfl ?_
  refine wpI_s rfl trivial ?_
  refine wpI_nil ?_
  refine seqK_n ?_
  refine wpC_seq ?_
  refine wpC_seq ?_
  refine d_reg rfl ?_
  refine wpI_s rfl trivial ?_
  refine wpI_s rfl trivial ?_
  refine wpI_s rfl trivial ?_
  refine wpI_s rfl trivial ?_
  refine d_b rfl trivial h fun t1 h => ?_
  refine wpI_nil ?_
  refine seqK_n ?_
  refine d_cond rfl h (fun h => ?_) (fun h => ?_)
  ·refine wpC_seq ?_
   refine d_reg rfl ?_
   refine wpI_s rfl trivial ?_
   refine wpI_nil ?_
   refine seqK_n ?_
   refine wpC_ret ?_
   refine seqK_r ?_
   obtain rfl := Option.some.inj h
   exact d_ret2 [] [] ⟨rfl, rfl, rfl⟩ (rIs_t rfl rfl) leH2_n leH2_n rfl
  ·refine wpC_skip ?_
   refine seqK_n ?_
   refine wpC_seq ?_
   refine d_reg rfl ?_
   refine wpI_s rfl trivial ?_
   refine wpI_nil ?_
   refine seqK_n ?_
   refine wpC_seq ?_
   refine wpC_seq ?_
   refine d_reg rfl ?_
   refine wpI_s rfl trivial ?_
   refine wpI_s rfl trivial ?_
   refine wpI_s rfl trivial ?_
   refine wpI_nil ?_
   refine seqK_n ?_
   refine wpC_block ?_
   refine bind_e h fun o7 h hko7 => ?_
   refine d_loop (fun (z : Int × Int × Nat) => match z with | (x2, x3, kz4) => (x2, x3)) (fun (z : Int × Int × Nat) => (match z with | (x2, x3, kz4) => ⟨[(0, .c (.s 0 X0b X0o a_.length X0c)), (1, .c (.s 1 X1b X1o b_.length X1c)), (5, ib .u8 x2), (13, ib .i64 ((a_.length : Nat) : Int)), (14, ib .i64 x3)], [⟨0, X0b, X0ty, true, X0fr, (.v undef), flat [.r X0pr, .i .u8 a_, .r X0ps]⟩, ⟨1, X1b, X1ty, true, X1fr, (.v undef), flat [.r X1pr, .i .u8 b_, .r X1ps]⟩], 100, kz4⟩ : St)) (fun (z : Int × Int × Nat) => match z with | (x2, x3, kz4) => True) (0, 0, z0) [0, 1] h trivial (leS2_c rfl rfl (leS2_c rfl rfl (leS2_c rfl rfl (leS2_c rfl rfl (leS2_c rfl rfl leS2_n))))) (leH2_c rfl rfl rfl rfl rfl rfl (leH2_c rfl rfl rfl rfl rfl rfl leH2_n)) rfl rfl ?_
   rintro rec ⟨x2, x3, kz4⟩ _ h
   show wpC _ _ _ _ _ (St.mk _ _ _ _)
   unfold fn_mac_Same_l1 at h; try dsimp only at h
   refine wpC_seq ?_
   refine d_reg rfl ?_
   refine d_b rfl trivial h fun t8 h => ?_
   refine wpI_nil ?_
   refine seqK_n ?_
   refine wpC_seq ?_
   refine d_cond rfl h (fun h => ?_) (fun h => ?_)
   ·refine wpC_skip ?_
    refine seqK_n ?_
    refine wpC_seq ?_
    refine wpC_block ?_
    refine wpC_seq ?_
    refine d_reg rfl ?_
    refine wpI_s rfl trivial ?_
    refine wpI_s rfl trivial ?_
    refine wpI_nil ?_
    refine seqK_n ?_
    refine d_reg rfl ?_
    refine wpI_s rfl trivial ?_
    refine wpI_s rfl trivial ?_
    refine wpI_s rfl trivial ?_
    refine gd_e h fun g9 h => ?_
    refine wpI_s rfl g9 ?_
    refine d_ld 1 (q := x3.toNat) rfl rfl rfl h (sl_offP0 (i := x3) rfl X0S g9) fun x10 h => ?_
    refine wpI_s rfl trivial ?_
    refine wpI_s rfl trivial ?_
    refine gd_e h fun g11 h => ?_
    refine wpI_s rfl g11 ?_
    refine d_ld 1 (q := x3.toNat) rfl rfl rfl h (sl_offP0 (i := x3) rfl X1S g11) fun x12 h => ?_
    refine d_n rfl trivial h fun x13 h => ?_
    refine d_n rfl trivial h fun x14 h => ?_
    refine wpI_s rfl trivial ?_
    refine wpI_nil ?_
    refine blockK_n ?_
    refine seqK_n ?_
    refine d_reg rfl ?_
    refine d_n rfl trivial h fun x15 h => ?_
    refine wpI_s rfl trivial ?_
    refine wpI_nil ?_
    refine lpK_n (x14, x15, kz4) [0, 1] trivial h (leS2_c rfl rfl (leS2_c rfl rfl (leS2_c rfl rfl (leS2_c rfl rfl (leS2_c rfl rfl leS2_n))))) (leH2_c rfl rfl rfl rfl rfl rfl (leH2_c rfl rfl rfl rfl rfl rfl leH2_n)) rfl rfl
   ·refine wpC_exit ?_
    refine seqK_x ?_
    obtain rfl := Option.some.inj h
    have h := hko7; clear hko7; try dsimp only at h
    refine lpK_x ?_
    refine blockK_x ?_
    refine seqK_n ?_
    refine wpC_seq ?_
    refine d_reg rfl ?_
    refine wpI_s rfl trivial ?_
    refine d_b rfl trivial h fun t16 h => ?_
    refine wpI_s rfl trivial ?_
    refine wpI_nil ?_
    refine seqK_n ?_
    refine wpC_ret ?_
    obtain rfl := Option.some.inj h
    exact d_ret2 [] [] ⟨rfl, rfl, rfl⟩ (rIs_t rfl rfl) leH2_n leH2_n rfl
 exact key.cong rfl blkEq_n (blkEq_c rfl rfl rfl rfl (blkEq_c rfl rfl rfl rfl blkEq_n))

end Go.Proofs.Ythgbffnahanfhaa

/- That the functions of the program compute just this: part 4. No condition but those that a theorem names. -/
import Derived.Test.YthgbffnahanfhaaW3
set_option linter.unusedVariables false
set_option linter.unusedSimpArgs false
namespace Go.Proofs.Ythgbffnahanfhaa
open Go Go.EV
set_option maxRecDepth 100000
set_option maxHeartbeats 0
set_option linter.unusedVariables false
def ir_chacha_Turn : IFn := ⟨47, (.seq (.reg [] (.cons ⟨none, (.w (some 4) (.box 23 32 (.int .u8 0) (.t 0)))⟩ (.cons ⟨none, (.w (some 6) (.box 46 12 (.int .u8 0) (.t 2)))⟩ (.cons ⟨none, (.s 8 (.mv (.k (.slice none 0 0))))⟩ .nil)))) (.seq (.reg [] (.cons ⟨none, (.s 14 (.mv (.t 3)))⟩ (.cons ⟨none, (.s 15 (.len (.t 14)))⟩ (.cons ⟨none, (.w (some 16) (.mks 5 1 (.int .u8 0) (.t 15) (.t 15)))⟩ (.cons ⟨none, (.s 9 (.mv (.t 16)))⟩ .nil))))) (.seq (.reg [] (.cons ⟨none, (.w (some 10) (.alo 75 (.int .u8 0) (List.replicate 64 (.int .u8 0))))⟩ .nil)) (.seq (.reg [] (.cons ⟨none, (.s 17 (.mv (.t 1)))⟩ (.cons ⟨none, (.s 18 (.cv .u32 (.t 17)))⟩ (.cons ⟨none, (.s 11 (.mv (.t 18)))⟩ .nil)))) (.seq (.seq (.reg [] (.cons ⟨none, (.s 19 (.mv (.t 3)))⟩ (.cons ⟨none, (.s 20 (.len (.t 19)))⟩ (.cons ⟨none, (.s 21 (.mv (.k (.int .i64 0))))⟩ .nil)))) (.block 0 (.loop (.seq (.reg [] (.cons ⟨none, (.s 22 (.bin .lss (.t 21) (.t 20)))⟩ .nil)) (.seq (.cond (.t 22) .skip (.exit 0)) (.seq (.block 1 (.seq (.reg [] (.cons ⟨none, (.s 23 (.mv (.t 21)))⟩ (.cons ⟨none, (.s 24 (.is 1 (.t 19) (.t 21)))⟩ (.cons ⟨none, (.r 25 (.ld (.int .u8 0) (.t 24)))⟩ (.cons ⟨none, (.s 12 (.mv (.t 23)))⟩ (.cons ⟨none, (.s 13 (.mv (.t 25)))⟩ .nil)))))) (.seqJ (.seq (.reg [] (.cons ⟨none, (.s 26 (.mv (.t 12)))⟩ (.cons ⟨none, (.s 27 (.bin .rem (.t 26) (.k (.int .i64 64))))⟩ (.cons ⟨none, (.s 28 (.bin .eql (.t 27) (.k (.int .i64 0))))⟩ .nil)))) (.cond (.t 28) (.seq (.reg [] (.cons ⟨none, (.r 29 (.lda 32 (.t 4)))⟩ (.cons ⟨none, (.s 30 (.mv (.t 11)))⟩ (.cons ⟨none, (.s 31 (.cv .i64 (.t 30)))⟩ (.cons ⟨none, (.r 32 (.lda 12 (.t 6)))⟩ (.cons ⟨none, (.call (some 33) 51 [(.t 29), (.t 31), (.t 32)])⟩ (.cons ⟨none, (.w none (.sta 64 (.t 10) (.t 33)))⟩ .nil))))))) (.reg [] (.cons ⟨none, (.s 34 (.mv (.t 11)))⟩ (.cons ⟨none, (.s 35 (.bin .add (.t 34) (.k (.int .u32 1))))⟩ (.cons ⟨none, (.s 11 (.mv (.t 35)))⟩ .nil))))) .skip)) (.reg [] (.cons ⟨none, (.s 36 (.mv (.t 9)))⟩ (.cons ⟨none, (.s 37 (.mv (.t 12)))⟩ (.cons ⟨none, (.s 38 (.mv (.t 13)))⟩ (.cons ⟨none, (.s 39 (.mv (.t 12)))⟩ (.cons ⟨none, (.s 40 (.bin .rem (.t 39) (.k (.int .i64 64))))⟩ (.cons ⟨none, (.s 41 (.ia 64 1 (.t 10) (.t 40)))⟩ (.cons ⟨none, (.r 42 (.ld (.int .u8 0) (.t 41)))⟩ (.cons ⟨none, (.s 43 (.bin .xor (.t 38) (.t 42)))⟩ (.cons ⟨none, (.s 44 (.is 1 (.t 36) (.t 37)))⟩ (.cons ⟨none, (.w none (.st (.t 44) (.t 43)))⟩ .nil)))))))))))))) (.reg [] (.cons ⟨none, (.s 45 (.bin .add (.t 21) (.k (.int .i64 1))))⟩ (.cons ⟨none, (.s 21 (.mv (.t 45)))⟩ .nil))))))))) (.seq (.reg [] (.cons ⟨none, (.s 46 (.mv (.t 9)))⟩ (.cons ⟨none, (.s 8 (.mv (.t 46)))⟩ .nil))) .ret)))))), [(.tmp 8)]⟩
theorem low_chacha_Turn : lowF Try.prog Try.f46 = some ir_chacha_Turn.strip := by kernel_rfl
theorem ok_chacha_Turn {fu : Nat} (i0 : Nat) (n0 : Nat) {X0b : Nat} {X0ty : Nat} {X0pr : List C} {X0ps : List C} {X0o : Nat} {X0c : Nat} {X0n : Nat} {X0fr : Nat × Nat} {key_ : List Int} {counter_ : Int} {nonce_ : List Int} {b_ : List Int} (X0l : X0n = b_.length) (X0S : 0 < X0n → X0pr.length = X0o) (X0C : X0n ≤ X0c) {l9002 : List Int} (h : fn_chacha_Turn fu key_ counter_ nonce_ b_ = some l9002) :
  EV.Fn Try.prog 46 [.g (flat [.i .u8 key_]), ib .i64 counter_, .g (flat [.i .u8 nonce_]), .c (.s 0 X0b X0o X0n X0c)] [] [⟨i0, X0b, X0ty, true, X0fr, (.v undef), flat [.r X0pr, .i .u8 b_, .r X0ps]⟩] (fun v u nw => ∃ (kn9001 : Nat), v = .c (.s n0 kn9001 0 l9002.length (((X0n : Nat) : Int).toNat)) ∧ u = [] ∧ nw = [⟨n0, kn9001, 5, false, (0, 0), .v undef, flat [.r [], .i .u8 l9002, .r []]⟩] ∧ (((X0n : Nat) : Int).toNat ≤ l9002.length + 0) ∧ (l9002.length ≤ ((X0n : Nat) : Int).toNat)) := by
 subst X0l
 have key : EV.Fn Try.prog 46 [.g (flat [.i .u8 key_]), ib .i64 counter_, .g (flat [.i .u8 nonce_]), .c (.s 0 X0b X0o b_.length X0c)] [] [⟨0, X0b, X0ty, true, X0fr, (.v undef), flat [.r X0pr, .i .u8 b_, .r X0ps]⟩] (fun v u nw => ∃ (kn9001 : Nat), v = .c (.s n0 kn9001 0 l9002.length (((b_.length : Nat) : Int).toNat)) ∧ u = [] ∧ nw = [⟨n0, kn9001, 5, false, (0, 0), .v undef, flat [.r [], .i .u8 l9002, .r []]⟩] ∧ (((b_.length : Nat) : Int).toNat ≤ l9002.length + 0) ∧ (l9002.length ≤ ((b_.length : Nat) : Int).toNat)) := by
  unfold fn_chacha_Turn at h
  refine d_fn (i := ir_chacha_Turn) (fn := Try.f46) (sl0 := [(0, .g (flat [.i .u8 key_])), (1, ib .i64 counter_), (2, .g (flat [.i .u8 nonce_])), (3, .c (.s 0 X0b X0o b_.length X0c))]) (hp0 := [⟨0, X0b, X0ty, true, X0fr, (.v undef), flat [.r X0pr, .i .u8 b_, .r X0ps]⟩]) (by kernel_rfl) low_chacha_Turn mo rfl rfl rfl fun F z0 => ?_
  dsimp only [ir_chacha_Turn]
  refine gd_e h fun Xh_key_ h => ?_
  refine gd_e h fun Xh_nonce_ h => ?_
  refine wpC_seq ?_
  refine d_reg rfl ?_
  refine d_box rfl (fun _ => trivial) rfl fun kb1 kz2 => ?_
  refine d_box rfl (fun _ => trivial) rfl fun kb3 kz4 => ?_
  refine wpI_s rfl trivial ?_
  refine wpI_nil ?_
  refine seqK_n ?_
  refine wpC_seq ?_
  refine d_reg rfl ?_
  refine wpI_s rfl trivial ?_
  refine wpI_s rfl trivial ?_
  refine gd_e h fun g5 h => ?_
  refine d_mksw rfl rfl g5 (fun _ => trivial) fun kb6 kz7 => ?_
  refine wpI_s rfl trivial ?_
  refine wpI_nil ?_
  refine seqK_n ?_
  refine wpC_seq ?_
  refine d_reg rfl ?_
  refine d_alo (g := [.i .u8 (List.replicate 64 0)]) (zeros_flat _ _ _) (fun _ => trivial) fun kb8 kz9 => ?_
  refine wpI_nil ?_
  refine seqK_n ?_
  refine wpC_seq ?_
  refine d_reg rfl ?_
  refine wpI_s rfl trivial ?_
  refine d_n rfl trivial h fun x10 h => ?_
  refine wpI_s rfl trivial ?_
  refine wpI_nil ?_
  refine seqK_n ?_
  refine wpC_seq ?_
  refine wpC_seq ?_
  refine d_reg rfl ?_
  refine wpI_s rfl trivial ?_
  refine wpI_s rfl trivial ?_
  refine wpI_s rfl trivial ?_
  refine wpI_nil ?_
  refine seqK_n ?_
  refine wpC_block ?_
  refine bind_e h fun o21 h hko21 => ?_
  refine d_loop (fun (z : List Int × List Int × Int × Int × Nat) => match z with | (l11, l13, x15, x16, kz17) => (l11, l13, x15, x16)) (fun (z : List Int × List Int × Int × Int × Nat) => (match z with | (l11, l13, x15, x16, kz17) => ⟨[(4, .c (.p 100 kb1 0)), (6, .c (.p 101 kb3 0)), (9, .c (.s 102 kb6 0 (((b_.length : Nat) : Int).toNat) (((b_.length : Nat) : Int).toNat))), (10, .c (.p 103 kb8 0)), (11, ib .u32 x15), (19, .c (.s 0 X0b X0o b_.length X0c)), (20, ib .i64 ((b_.length : Nat) : Int)), (21, ib .i64 x16)], [⟨100, kb1, 23, false, (0, 0), (.v (.int .u8 0)), flat [.i .u8 key_]⟩, ⟨101, kb3, 46, false, (0, 0), (.v (.int .u8 0)), flat [.i .u8 nonce_]⟩, ⟨102, kb6, 5, false, (0, 0), (.v (.int .u8 0)), flat [.r [], .i .u8 l11, .r []]⟩, ⟨103, kb8, 75, false, (0, 0), (.v (.int .u8 0)), flat [.i .u8 l13]⟩, ⟨0, X0b, X0ty, true, X0fr, (.v undef), flat [.r X0pr, .i .u8 b_, .r X0ps]⟩], 104, kz17⟩ : St)) (fun (z : List Int × List Int × Int × Int × Nat) => match z with | (l11, l13, x15, x16, kz17) => (l11.length = ((b_.length : Nat) : Int).toNat) ∧ (l13.length = 64)) ((List.replicate ((b_.length : Nat) : Int).toNat 0), (List.replicate 64 0), x10, 0, kz9) [100, 101, 102, 103, 0] h ⟨List.length_replicate, List.length_replicate⟩ (leS2_c rfl rfl (leS2_c rfl rfl (leS2_c rfl rfl (leS2_c rfl rfl (leS2_c rfl rfl (leS2_c rfl rfl (leS2_c rfl rfl (leS2_c rfl rfl leS2_n)))))))) (leH2_c rfl rfl rfl rfl rfl rfl (leH2_c rfl rfl rfl rfl rfl rfl (leH2_c rfl rfl rfl rfl rfl rfl (leH2_c rfl rfl rfl rfl rfl rfl (leH2_c rfl rfl rfl rfl rfl rfl leH2_n))))) rfl rfl ?_
  rintro rec ⟨l11, l13, x15, x16, kz17⟩ ⟨h12, h14⟩ h
  show wpC _ _ _ _ _ (St.mk _ _ _ _)
  unfold fn_chacha_Turn_l1 at h; try dsimp only at h
  refine wpC_seq ?_
  refine d_reg rfl ?_
  refine d_b rfl trivial h fun t22 h => ?_
  refine wpI_nil ?_
  refine seqK_n ?_
  refine wpC_seq ?_
  refine d_cond rfl h (fun h => ?_) (fun h => ?_)
  ·refine wpC_skip ?_
   refine seqK_n ?_
   refine wpC_seq ?_
   refine wpC_block ?_
   refine wpC_seq ?_
   refine d_reg rfl ?_
   refine wpI_s rfl trivial ?_
   refine gd_e h fun g23 h => ?_
   refine wpI_s rfl g23 ?_
   refine d_ld 1 (q := x16.toNat) rfl rfl rfl h (sl_offP0 (i := x16) rfl X0S g23) fun x24 h => ?_
   refine wpI_s rfl trivial ?_
   refine wpI_s rfl trivial ?_
   refine wpI_nil ?_
   refine seqK_n ?_
   refine bind_e h fun o29 h hko29 => ?_
   refine d_join (fun (z : List Int × Int × Nat) => (match z with | (l25, x27, kz28) => ⟨[(4, .c (.p 100 kb1 0)), (6, .c (.p 101 kb3 0)), (9, .c (.s 102 kb6 0 (((b_.length : Nat) : Int).toNat) (((b_.length : Nat) : Int).toNat))), (10, .c (.p 103 kb8 0)), (11, ib .u32 x27), (12, ib .i64 x16), (13, ib .u8 x24), (19, .c (.s 0 X0b X0o b_.length X0c)), (20, ib .i64 ((b_.length : Nat) : Int)), (21, ib .i64 x16)], [⟨100, kb1, 23, false, (0, 0), (.v (.int .u8 0)), flat [.i .u8 key_]⟩, ⟨101, kb3, 46, false, (0, 0), (.v (.int .u8 0)), flat [.i .u8 nonce_]⟩, ⟨102, kb6, 5, false, (0, 0), (.v (.int .u8 0)), flat [.r [], .i .u8 l11, .r []]⟩, ⟨103, kb8, 75, false, (0, 0), (.v (.int .u8 0)), flat [.i .u8 l25]⟩, ⟨0, X0b, X0ty, true, X0fr, (.v undef), flat [.r X0pr, .i .u8 b_, .r X0ps]⟩], 104, kz28⟩ : St)) (fun (z : List Int × Int × Nat) => match z with | (l25, x27, kz28) => ((l25.length = 64)) ∧ (l25, x27) = o29) ?_ ?_
   ·refine wpC_seq ?_
    refine d_reg rfl ?_
    refine wpI_s rfl trivial ?_
    refine d_n rfl (by decide) h fun x30 h => ?_
    refine d_b rfl trivial h fun t31 h => ?_
    refine wpI_nil ?_
    refine seqK_n ?_
    refine d_cond rfl h (fun h => ?_) (fun h => ?_)
    ·refine wpC_seq ?_
     refine d_reg rfl ?_
     refine d_lda 0 1 rfl rfl rfl rfl (by simp only [flen, Xh_key_]) ?_
     refine wpI_s rfl trivial ?_
     refine d_n rfl trivial h fun x32 h => ?_
     refine d_lda 0 1 rfl rfl rfl rfl (by simp only [flen, Xh_nonce_]) ?_
     refine bind_e h fun l35 ho34 h => ?_
     refine d_call (ok_chacha_Block     (h := ho34)) rfl rfl haveRw_n haveRo_n (own_of rfl) ?_
     rintro _ _ _ kz37 ⟨rfl, rfl, rfl, h36⟩
     refine ⟨_, rfl, trivial, ?_⟩
     refine gd_e h fun g38 h => ?_
     refine d_sta 0 rfl rfl rfl rfl rfl (by simp only [flen, g38]) (by simp only [flen, h14]) rfl rfl trivial ?_
     refine wpI_nil ?_
     refine seqK_n ?_
     refine d_reg rfl ?_
     refine wpI_s rfl trivial ?_
     refine d_n rfl trivial h fun x39 h => ?_
     refine wpI_s rfl trivial ?_
     refine wpI_nil ?_
     refine jnK_n (l35, x39, kz37) [100, 101, 102, 103, 0] ⟨g38, Option.some.inj h⟩ (leS2_c rfl rfl (leS2_c rfl rfl (leS2_c rfl rfl (leS2_c rfl rfl (leS2_c rfl rfl (leS2_c rfl rfl (leS2_c rfl rfl (leS2_c rfl rfl (leS2_c rfl rfl (leS2_c rfl rfl leS2_n)))))))))) (leH2_c rfl rfl rfl rfl rfl rfl (leH2_c rfl rfl rfl rfl rfl rfl (leH2_c rfl rfl rfl rfl rfl rfl (leH2_c rfl rfl rfl rfl rfl rfl (leH2_c rfl rfl rfl rfl rfl rfl leH2_n))))) rfl rfl
    ·refine wpC_skip ?_
     refine jnK_n (l13, x15, kz17) [100, 101, 102, 103, 0] ⟨h14, Option.some.inj h⟩ (leS2_c rfl rfl (leS2_c rfl rfl (leS2_c rfl rfl (leS2_c rfl rfl (leS2_c rfl rfl (leS2_c rfl rfl (leS2_c rfl rfl (leS2_c rfl rfl (leS2_c rfl rfl (leS2_c rfl rfl leS2_n)))))))))) (leH2_c rfl rfl rfl rfl rfl rfl (leH2_c rfl rfl rfl rfl rfl rfl (leH2_c rfl rfl rfl rfl rfl rfl (leH2_c rfl rfl rfl rfl rfl rfl (leH2_c rfl rfl rfl rfl rfl rfl leH2_n))))) rfl rfl
   ·rintro ⟨l25, x27, kz28⟩ ⟨h26, rfl⟩
    show wpC _ _ _ _ _ (St.mk _ _ _ _)
    have h := hko29; clear hko29; try dsimp only at h
    refine d_reg rfl ?_
    refine wpI_s rfl trivial ?_
    refine wpI_s rfl trivial ?_
    refine wpI_s rfl trivial ?_
    refine wpI_s rfl trivial ?_
    refine d_n rfl (by decide) h fun x40 h => ?_
    refine gd_e h fun g41 h => ?_
    refine wpI_s rfl g41 ?_
    refine d_ld 0 (q := x40.toNat) rfl rfl rfl h (ar_offi (x40) rfl) fun x42 h => ?_
    refine d_n rfl trivial h fun x43 h => ?_
    refine gd_e h fun g44 h => ?_
    refine wpI_s rfl g44 ?_
    refine d_st 1 (q := x16.toNat) rfl rfl rfl rfl h (sl_offP0 (i := x16) rfl (fun _ => rfl) g44) (fun _ => rfl) (fun _ => rfl) (fun _ => trivial) fun l45 h46 h => ?_
    refine wpI_nil ?_
    refine blockK_n ?_
    refine seqK_n ?_
    refine d_reg rfl ?_
    refine d_n rfl trivial h fun x47 h => ?_
    refine wpI_s rfl trivial ?_
    refine wpI_nil ?_
    refine lpK_n (l45, l25, x27, x47, kz28) [100, 101, 102, 103, 0] ⟨(h46.trans h12), h26⟩ h (leS2_c rfl rfl (leS2_c rfl rfl (leS2_c rfl rfl (leS2_c rfl rfl (leS2_c rfl rfl (leS2_c rfl rfl (leS2_c rfl rfl (leS2_c rfl rfl leS2_n)))))))) (leH2_c rfl rfl rfl rfl rfl rfl (leH2_c rfl rfl rfl rfl rfl rfl (leH2_c rfl rfl rfl rfl rfl rfl (leH2_c rfl rfl rfl rfl rfl rfl (leH2_c rfl rfl rfl rfl rfl rfl leH2_n))))) rfl rfl
  ·refine wpC_exit ?_
   refine seqK_x ?_
   obtain rfl := Option.some.inj h
   have h := hko21; clear hko21; try dsimp only at h
   refine lpK_x ?_
   refine blockK_x ?_
   refine seqK_n ?_
   refine wpC_seq ?_
   refine d_reg rfl ?_
   refine wpI_s rfl trivial ?_
   refine wpI_s rfl trivial ?_
   refine wpI_nil ?_
   refine seqK_n ?_
   refine wpC_ret ?_
   obtain rfl := Option.some.inj h
   exact d_ret2 [] [102] ⟨kb6, rfl, rfl, rfl, (le_lenp h12 (Nat.le_refl _)), (le_lenl h12 (Nat.le_refl _))⟩ (rIs_t rfl (den_s (h12).symm)) leH2_n (leH2_c rfl rfl rfl rfl rfl rfl leH2_n) rfl
 exact key.cong rfl blkEq_n (blkEq_c rfl rfl rfl rfl blkEq_n)

def ir_aead_Open : IFn := ⟨36, (.seq (.reg [] (.cons ⟨none, (.w (some 4) (.box 23 32 (.int .u8 0) (.t 0)))⟩ (.cons ⟨none, (.w (some 5) (.box 46 12 (.int .u8 0) (.t 1)))⟩ (.cons ⟨none, (.s 8 (.mv (.k (.slice none 0 0))))⟩ (.cons ⟨none, (.s 9 (.mv (.k (.int .i64 0))))⟩ .nil))))) (.seq (.reg [] (.cons ⟨none, (.s 12 (.mv (.t 2)))⟩ (.cons ⟨none, (.s 13 (.len (.t 12)))⟩ (.cons ⟨none, (.s 14 (.bin .sub (.t 13) (.k (.int .i64 16))))⟩ (.cons ⟨none, (.s 10 (.mv (.t 14)))⟩ .nil))))) (.seq (.seq (.reg [] (.cons ⟨none, (.s 15 (.mv (.t 10)))⟩ (.cons ⟨none, (.s 16 (.bin .lss (.t 15) (.k (.int .i64 0))))⟩ .nil))) (.cond (.t 16) (.seq (.reg [] (.cons ⟨none, (.s 8 (.mv (.k (.slice none 0 0))))⟩ (.cons ⟨none, (.s 9 (.mv (.k (.int .i64 10))))⟩ .nil))) .ret) .skip)) (.seqJ (.reg [4, 5] (.cons ⟨none, (.q 17 (.lda 32 (.t 4)))⟩ (.cons ⟨none, (.q 18 (.lda 12 (.t 5)))⟩ (.cons ⟨none, (.s 19 (.mv (.t 2)))⟩ (.cons ⟨none, (.s 20 (.mv (.t 10)))⟩ (.cons ⟨none, (.s 21 (.sls 1 (.t 19) none (some (.t 20)) none))⟩ (.cons ⟨none, (.s 22 (.mv (.t 3)))⟩ (.alt (.cons ⟨none, (.call (some 23) 44 [(.t 17), (.t 18), (.t 21), (.t 22)])⟩ (.cons ⟨none, (.w (some 11) (.alo 61 (.int .u8 0) (List.replicate 16 (.int .u8 0))))⟩ (.cons ⟨none, (.w none (.sta 16 (.t 11) (.t 23)))⟩ .nil))) (.cons ⟨none, (.w (some 11) (.alo 61 (.int .u8 0) (List.replicate 16 (.int .u8 0))))⟩ (.cons ⟨none, (.call (some 23) 44 [(.t 17), (.t 18), (.t 21), (.t 22)])⟩ (.cons ⟨none, (.w none (.sta 16 (.t 11) (.t 23)))⟩ .nil))))))))))) (.seq (.seq (.reg [] (.cons ⟨none, (.s 24 (.sla 16 1 (.t 11) none none none))⟩ (.cons ⟨none, (.s 25 (.mv (.t 2)))⟩ (.cons ⟨none, (.s 26 (.mv (.t 10)))⟩ (.cons ⟨none, (.s 27 (.sls 1 (.t 25) (some (.t 26)) none none))⟩ (.cons ⟨none, (.call (some 28) 45 [(.t 24), (.t 27)])⟩ (.cons ⟨none, (.s 29 (.un .not (.t 28)))⟩ .nil))))))) (.cond (.t 29) (.seq (.reg [] (.cons ⟨none, (.s 8 (.mv (.k (.slice none 0 0))))⟩ (.cons ⟨none, (.s 9 (.mv (.k (.int .i64 10))))⟩ .nil))) .ret) .skip)) (.seq (.reg [] (.cons ⟨none, (.r 30 (.lda 32 (.t 4)))⟩ (.cons ⟨none, (.r 31 (.lda 12 (.t 5)))⟩ (.cons ⟨none, (.s 32 (.mv (.t 2)))⟩ (.cons ⟨none, (.s 33 (.mv (.t 10)))⟩ (.cons ⟨none, (.s 34 (.sls 1 (.t 32) none (some (.t 33)) none))⟩ (.cons ⟨none, (.call (some 35) 46 [(.t 30), (.k (.int .i64 1)), (.t 31), (.t 34)])⟩ (.cons ⟨none, (.s 8 (.mv (.t 35)))⟩ (.cons ⟨none, (.s 9 (.mv (.k (.int .i64 0))))⟩ .nil))))))))) .ret)))))), [(.tmp 8), (.tmp 9)]⟩
theorem low_aead_Open : lowF Try.prog Try.f35 = some ir_aead_Open.strip := by kernel_rfl
theorem ok_aead_Open {fu : Nat} (i0 : Nat) (i1 : Nat) (n0 : Nat) {X0b : Nat} {X0ty : Nat} {X0pr : List C} {X0ps : List C} {X0o : Nat} {X0c : Nat} {X0n : Nat} {X1b : Nat} {X1ty : Nat} {X1pr : List C} {X1ps : List C} {X1o : Nat} {X1c : Nat} {X1n : Nat} {X0fr : Nat × Nat} {X1fr : Nat × Nat} {key_ : List Int} {nonce_ : List Int} {b_ : List Int} {beside_ : List Int} (X0l : X0n = b_.length) (X0S : 0 < X0n → X0pr.length = X0o) (X0C : X0n ≤ X0c) (X1l : X1n = beside_.length) (X1S : 0 < X1n → X1pr.length = X1o) (X1C : X1n ≤ X1c) {r : (Unit) ⊕ (List Int)} (h : fn_aead_Open fu key_ nonce_ b_ beside_ = some r) :
  EV.Fn Try.prog 35 [.g (flat [.i .u8 key_]), .g (flat [.i .u8 nonce_]), .c (.s 0 X0b X0o X0n X0c), .c (.s 1 X1b X1o X1n X1c)] [] [⟨i0, X0b, X0ty, true, X0fr, (.v undef), flat [.r X0pr, .i .u8 b_, .r X0ps]⟩, ⟨i1, X1b, X1ty, true, X1fr, (.v undef), flat [.r X1pr, .i .u8 beside_, .r X1ps]⟩] (fun v u nw => match r with | .inl _ => (v = .t2 (.c (.v (.slice none 0 0))) (ib .i64 10) ∧ u = [] ∧ nw = []) | .inr (l9003) => (∃ (kn9002 : Nat) (kn9004 : Nat), v = .t2 (.c (.s n0 kn9002 0 l9003.length kn9004)) (ib .i64 0) ∧ u = [] ∧ nw = [⟨n0, kn9002, 5, false, (0, 0), .v undef, flat [.r [], .i .u8 l9003, .r []]⟩] ∧ (kn9004 ≤ l9003.length + 0) ∧ (l9003.length ≤ kn9004))) := by
 subst X0l
 subst X1l
 have key : EV.Fn Try.prog 35 [.g (flat [.i .u8 key_]), .g (flat [.i .u8 nonce_]), .c (.s 0 X0b X0o b_.length X0c), .c (.s 1 X1b X1o beside_.length X1c)] [] [⟨0, X0b, X0ty, true, X0fr, (.v undef), flat [.r X0pr, .i .u8 b_, .r X0ps]⟩, ⟨1, X1b, X1ty, true, X1fr, (.v undef), flat [.r X1pr, .i .u8 beside_, .r X1ps]⟩] (fun v u nw => match r with | .inl _ => (v = .t2 (.c (.v (.slice none 0 0))) (ib .i64 10) ∧ u = [] ∧ nw = []) | .inr (l9003) => (∃ (kn9002 : Nat) (kn9004 : Nat), v = .t2 (.c (.s n0 kn9002 0 l9003.length kn9004)) (ib .i64 0) ∧ u = [] ∧ nw = [⟨n0, kn9002, 5, false, (0, 0), .v undef, flat [.r [], .i .u8 l9003, .r []]⟩] ∧ (kn9004 ≤ l9003.length + 0) ∧ (l9003.length ≤ kn9004))) := by
  unfold fn_aead_Open at h
  refine d_fn (i := ir_aead_Open) (fn := Try.f35) (sl0 := [(0, .g (flat [.i .u8 key_])), (1, .g (flat [.i .u8 nonce_])), (2, .c (.s 0 X0b X0o b_.length X0c)), (3, .c (.s 1 X1b X1o beside_.length X1c))]) (hp0 := [⟨0, X0b, X0ty, true, X0fr, (.v undef), flat [.r X0pr, .i .u8 b_, .r X0ps]⟩, ⟨1, X1b, X1ty, true, X1fr, (.v undef), flat [.r X1pr, .i .u8 beside_, .r X1ps]⟩]) (by kernel_rfl) low_aead_Open mo rfl rfl rfl fun F z0 => ?_
  dsimp only [ir_aead_Open]
  refine gd_e h fun Xh_key_ h => ?_
  refine gd_e h fun Xh_nonce_ h => ?_
  refine wpC_seq ?_
  refine d_reg rfl ?_
  refine d_box rfl (fun _ => trivial) rfl fun kb1 kz2 => ?_
  refine d_box rfl (fun _ => trivial) rfl fun kb3 kz4 => ?_
  refine wpI_s rfl trivial ?_
  refine wpI_s rfl trivial ?_
  refine wpI_nil ?_
  refine seqK_n ?_
  refine wpC_seq ?_
  refine d_reg rfl ?_
  refine wpI_s rfl trivial ?_
  refine wpI_s rfl trivial ?_
  refine d_n rfl trivial h fun x5 h => ?_
  refine wpI_s rfl trivial ?_
  refine wpI_nil ?_
  refine seqK_n ?_
  refine wpC_seq ?_
  refine wpC_seq ?_
  refine d_reg rfl ?_
  refine wpI_s rfl trivial ?_
  refine d_b rfl trivial h fun t6 h => ?_
  refine wpI_nil ?_
  refine seqK_n ?_
  refine d_cond rfl h (fun h => ?_) (fun h => ?_)
  ·refine wpC_seq ?_
   refine d_reg rfl ?_
   refine wpI_s rfl trivial ?_
   refine wpI_s rfl trivial ?_
   refine wpI_nil ?_
   refine seqK_n ?_
   refine wpC_ret ?_
   refine seqK_r ?_
   obtain rfl := Option.some.inj h
   exact d_ret2 [] [] ⟨rfl, rfl, rfl⟩ ⟨(rIs_t rfl rfl), (rIs_t rfl rfl)⟩ leH2_n leH2_n rfl
  ·refine wpC_skip ?_
   refine seqK_n ?_
   refine bind_e h fun o11 h hko11 => ?_
   refine d_join (fun (z : List Int × Nat × Nat) => (match z with | (l8, kn7, kz10) => ⟨[(2, .c (.s 0 X0b X0o b_.length X0c)), (4, .c (.p 100 kb1 0)), (5, .c (.p 101 kb3 0)), (10, ib .i64 x5), (11, .c (.p 102 kn7 0))], [⟨0, X0b, X0ty, true, X0fr, (.v undef), flat [.r X0pr, .i .u8 b_, .r X0ps]⟩, ⟨100, kb1, 23, false, (0, 0), (.v (.int .u8 0)), flat [.i .u8 key_]⟩, ⟨101, kb3, 46, false, (0, 0), (.v (.int .u8 0)), flat [.i .u8 nonce_]⟩, ⟨102, kn7, 61, false, (0, 0), (.v (.int .u8 0)), flat [.i .u8 l8]⟩], 103, kz10⟩ : St)) (fun (z : List Int × Nat × Nat) => match z with | (l8, kn7, kz10) => ((l8.length = 16)) ∧ l8 = o11) ?_ ?_
   ·refine d_reg rfl ?_
    refine d_qlda 0 1 rfl rfl rfl rfl (by simp only [flen, Xh_key_]) ?_
    refine d_qlda 0 1 rfl rfl rfl rfl (by simp only [flen, Xh_nonce_]) ?_
    refine wpI_s rfl trivial ?_
    refine wpI_s rfl trivial ?_
    refine gd_e h fun g12 h => ?_
    refine d_sls (q0 := 0) (p := X0pr.length) rfl rfl rfl g12 X0C (hs_zero X0S) fun ko13 kc14 h15 h16 => ?_
    replace h15 : 0 < x5.toNat → X0pr.length = ko13 := by intro h0; have := h15 (by omega); omega
    replace h16 : x5.toNat ≤ kc14 := by omega
    have h17 : x5.toNat ≤ b_.length := by have := g12; omega
    refine wpI_s rfl trivial ?_
    refine wpI_alt ?_ ?_
    ·refine bind_e h fun l24 ho23 h => ?_
     obtain ⟨kp18, kq19, hw20, hp21⟩ := win_eq (g := [.r X0pr, .i .u8 b_, .r X0ps]) (j := 1) (kd := .u8) (l := b_) (q := 0) (n := x5.toNat) (p := X0pr.length) rfl (by rw [Nat.zero_add]; exact h17) rfl
     refine d_call (ok_aead_tag (i0 := 0) (i1 := 1)  (X0b := X0b) (X0ty := X0ty) (X0pr := kp18) (X0ps := kq19) (X0o := ko13) (X0c := kc14) (X0n := x5.toNat) (X1b := X1b) (X1ty := X1ty) (X1pr := X1pr) (X1ps := X1ps) (X1o := X1o) (X1c := X1c) (X1n := beside_.length) (X0l := (sub_len (by rw [Nat.zero_add]; exact h17)).symm) (X0S := (fun h0 => hp21.trans ((hs_zero h15) h0))) (X0C := h16) (X1l := rfl) (X1S := X1S) (X1C := X1C) (h := ho23)) rfl rfl haveRw_n (haveRo_c rfl hw20 (haveRo_c rfl rfl haveRo_n)) (own_of rfl) ?_
     rintro _ _ _ kz26 ⟨rfl, rfl, rfl, h25⟩
     refine ⟨_, rfl, (pin_c rfl rfl rfl rfl rfl (pin_c rfl rfl rfl rfl rfl trivial)), ?_⟩
     refine gd_e h fun g27 h => ?_
     refine d_alo (g := [.i .u8 (List.replicate 16 0)]) (zeros_flat _ _ _) (fun _ => (pin_c rfl rfl rfl rfl rfl (pin_c rfl rfl rfl rfl rfl trivial))) fun kb28 kz29 => ?_
     refine d_sta 0 rfl rfl rfl rfl rfl (by simp only [flen, g27]) (by simp only [flen, List.length_replicate]) rfl rfl (pin_c rfl rfl rfl rfl rfl (pin_c rfl rfl rfl rfl rfl trivial)) ?_
     refine wpI_nil ?_
     refine jnK_n (l24, kb28, kz29) [0, 100, 101, 102] ⟨g27, Option.some.inj h⟩ (leS2_c rfl rfl (leS2_c rfl rfl (leS2_c rfl rfl (leS2_c rfl rfl (leS2_c rfl rfl leS2_n))))) (leH2_c rfl rfl rfl rfl rfl rfl (leH2_c rfl rfl rfl rfl rfl rfl (leH2_c rfl rfl rfl rfl rfl rfl (leH2_c rfl rfl rfl rfl rfl rfl leH2_n)))) rfl rfl
    ·refine d_alo (g := [.i .u8 (List.replicate 16 0)]) (zeros_flat _ _ _) (fun _ => (pin_c rfl rfl rfl rfl rfl (pin_c rfl rfl rfl rfl rfl trivial))) fun kb30 kz31 => ?_
     refine bind_e h fun l38 ho37 h => ?_
     obtain ⟨kp32, kq33, hw34, hp35⟩ := win_eq (g := [.r X0pr, .i .u8 b_, .r X0ps]) (j := 1) (kd := .u8) (l := b_) (q := 0) (n := x5.toNat) (p := X0pr.length) rfl (by rw [Nat.zero_add]; exact h17) rfl
     refine d_call (ok_aead_tag (i0 := 0) (i1 := 1)  (X0b := X0b) (X0ty := X0ty) (X0pr := kp32) (X0ps := kq33) (X0o := ko13) (X0c := kc14) (X0n := x5.toNat) (X1b := X1b) (X1ty := X1ty) (X1pr := X1pr) (X1ps := X1ps) (X1o := X1o) (X1c := X1c) (X1n := beside_.length) (X0l := (sub_len (by rw [Nat.zero_add]; exact h17)).symm) (X0S := (fun h0 => hp35.trans ((hs_zero h15) h0))) (X0C := h16) (X1l := rfl) (X1S := X1S) (X1C := X1C) (h := ho37)) rfl rfl haveRw_n (haveRo_c rfl hw34 (haveRo_c rfl rfl haveRo_n)) (own_of rfl) ?_
     rintro _ _ _ kz40 ⟨rfl, rfl, rfl, h39⟩
     refine ⟨_, rfl, (pin_c rfl rfl rfl rfl rfl (pin_c rfl rfl rfl rfl rfl trivial)), ?_⟩
     refine gd_e h fun g41 h => ?_
     refine d_sta 0 rfl rfl rfl rfl rfl (by simp only [flen, g41]) (by simp only [flen, List.length_replicate]) rfl rfl (pin_c rfl rfl rfl rfl rfl (pin_c rfl rfl rfl rfl rfl trivial)) ?_
     refine wpI_nil ?_
     refine jnK_n (l38, kb30, kz40) [0, 100, 101, 102] ⟨g41, Option.some.inj h⟩ (leS2_c rfl rfl (leS2_c rfl rfl (leS2_c rfl rfl (leS2_c rfl rfl (leS2_c rfl rfl leS2_n))))) (leH2_c rfl rfl rfl rfl rfl rfl (leH2_c rfl rfl rfl rfl rfl rfl (leH2_c rfl rfl rfl rfl rfl rfl (leH2_c rfl rfl rfl rfl rfl rfl leH2_n)))) rfl rfl
   ·rintro ⟨l8, kn7, kz10⟩ ⟨h9, rfl⟩
    show wpC _ _ _ _ _ (St.mk _ _ _ _)
    have h := hko11; clear hko11; try dsimp only at h
    refine wpC_seq ?_
    refine wpC_seq ?_
    refine d_reg rfl ?_
    refine d_sla rfl rfl rfl (by decide) fun ko42 kc43 h44 h45 => ?_
    replace h44 : 0 < 16 → 0 = ko42 := by intro h0; have := h44 (by omega); omega
    replace h45 : 16 ≤ kc43 := by omega
    have h46 : 16 ≤ 16 := by omega
    refine wpI_s rfl trivial ?_
    refine wpI_s rfl trivial ?_
    refine gd_e h fun g47 h => ?_
    refine d_sls (q0 := 0) (p := X0pr.length) rfl rfl rfl g47 X0C (hs_zero X0S) fun ko48 kc49 h50 h51 => ?_
    replace h50 : 0 < (b_.length - x5.toNat) → X0pr.length + x5.toNat = ko48 := by intro h0; have := h50 (by omega); omega
    replace h51 : (b_.length - x5.toNat) ≤ kc49 := by omega
    have h52 : x5.toNat + (b_.length - x5.toNat) ≤ b_.length := by have := g47; omega
    refine bind_e h fun t63 ho62 h => ?_
    obtain ⟨kp53, kq54, hw55, hp56⟩ := win_eq0 (g := [.i .u8 l8]) (j := 0) (kd := .u8) (l := l8) (p := 0) rfl rfl
    obtain ⟨kp57, kq58, hw59, hp60⟩ := win_eq (g := [.r X0pr, .i .u8 b_, .r X0ps]) (j := 1) (kd := .u8) (l := b_) (q := x5.toNat) (n := (b_.length - x5.toNat)) (p := X0pr.length) rfl h52 rfl
    refine d_call (ok_mac_Same (i0 := 102) (i1 := 0)  (X0b := kn7) (X0ty := 61) (X0pr := kp53) (X0ps := kq54) (X0o := ko42) (X0c := kc43) (X0n := 16) (X1b := X0b) (X1ty := X0ty) (X1pr := kp57) (X1ps := kq58) (X1o := ko48) (X1c := kc49) (X1n := (b_.length - x5.toNat)) (X0l := (h9).symm) (X0S := (fun h0 => hp56.trans (h44 h0))) (X0C := h45) (X1l := (sub_len h52).symm) (X1S := (fun h0 => hp60.trans (h50 h0))) (X1C := h51) (h := ho62)) rfl rfl haveRw_n (haveRo_c rfl hw55 (haveRo_c rfl hw59 haveRo_n)) (own_of rfl) ?_
    rintro _ _ _ kz64 ⟨rfl, rfl, rfl⟩
    refine ⟨_, rfl, trivial, ?_⟩
    refine d_b rfl trivial h fun t65 h => ?_
    refine wpI_nil ?_
    refine seqK_n ?_
    refine d_cond rfl h (fun h => ?_) (fun h => ?_)
    ·refine wpC_seq ?_
     refine d_reg rfl ?_
     refine wpI_s rfl trivial ?_
     refine wpI_s rfl trivial ?_
     refine wpI_nil ?_
     refine seqK_n ?_
     refine wpC_ret ?_
     refine seqK_r ?_
     obtain rfl := Option.some.inj h
     exact d_ret2 [] [] ⟨rfl, rfl, rfl⟩ ⟨(rIs_t rfl rfl), (rIs_t rfl rfl)⟩ leH2_n leH2_n rfl
    ·refine wpC_skip ?_
     refine seqK_n ?_
     refine wpC_seq ?_
     refine d_reg rfl ?_
     refine d_lda 0 1 rfl rfl rfl rfl (by simp only [flen, Xh_key_]) ?_
     refine d_lda 0 1 rfl rfl rfl rfl (by simp only [flen, Xh_nonce_]) ?_
     refine wpI_s rfl trivial ?_
     refine wpI_s rfl trivial ?_
     refine gd_e h fun g66 h => ?_
     refine d_sls (q0 := 0) (p := X0pr.length) rfl rfl rfl g66 X0C (hs_zero X0S) fun ko67 kc68 h69 h70 => ?_
     replace h69 : 0 < x5.toNat → X0pr.length = ko67 := by intro h0; have := h69 (by omega); omega
     replace h70 : x5.toNat ≤ kc68 := by omega
     have h71 : x5.toNat ≤ b_.length := by have := g66; omega
     refine bind_e h fun l78 ho77 h => ?_
     obtain ⟨kp72, kq73, hw74, hp75⟩ := win_eq (g := [.r X0pr, .i .u8 b_, .r X0ps]) (j := 1) (kd := .u8) (l := b_) (q := 0) (n := x5.toNat) (p := X0pr.length) rfl (by rw [Nat.zero_add]; exact h71) rfl
     refine d_call (ok_chacha_Turn (i0 := 0) (n0 := 1001) (X0b := X0b) (X0ty := X0ty) (X0pr := kp72) (X0ps := kq73) (X0o := ko67) (X0c := kc68) (X0n := x5.toNat) (X0l := (sub_len (by rw [Nat.zero_add]; exact h71)).symm) (X0S := (fun h0 => hp75.trans ((hs_zero h69) h0))) (X0C := h70) (h := ho77)) rfl rfl haveRw_n (haveRo_c rfl hw74 haveRo_n) (own_of rfl) ?_
     rintro _ _ _ kz82 ⟨k79, rfl, rfl, rfl, h80, h81⟩
     refine ⟨_, rfl, trivial, ?_⟩
     refine wpI_s rfl trivial ?_
     refine wpI_s rfl trivial ?_
     refine wpI_nil ?_
     refine seqK_n ?_
     refine wpC_ret ?_
     obtain rfl := Option.some.inj h
     exact d_ret2 [] [1001] ⟨k79, ((x5.toNat : Nat) : Int).toNat, rfl, rfl, rfl, h80, h81⟩ ⟨(rIs_t rfl rfl), (rIs_t rfl rfl)⟩ leH2_n (leH2_c rfl rfl rfl rfl rfl rfl leH2_n) rfl
 exact key.cong rfl blkEq_n (blkEq_c rfl rfl rfl rfl (blkEq_c rfl rfl rfl rfl blkEq_n))

def ir_image_Open : IFn := ⟨29, (.seq (.reg [] (.cons ⟨none, (.w (some 4) (.box 23 32 (.int .u8 0) (.t 0)))⟩ (.cons ⟨none, (.s 8 (.mv (.k (.slice none 0 0))))⟩ (.cons ⟨none, (.s 9 (.mv (.k (.int .i64 0))))⟩ .nil)))) (.seq (.seqJ (.reg [] (.cons ⟨none, (.s 10 (.mv (.t 1)))⟩ (.cons ⟨none, (.s 11 (.mv (.t 2)))⟩ (.cons ⟨none, (.call (some 12) 34 [(.t 10), (.t 11)])⟩ (.cons ⟨none, (.s 13 (.un .not (.t 12)))⟩ (.cons ⟨none, (.s 14 (.mv (.t 13)))⟩ (.cons ⟨(some (14, false)), (.s 15 (.mv (.t 3)))⟩ (.cons ⟨(some (14, false)), (.s 16 (.len (.t 15)))⟩ (.cons ⟨(some (14, false)), (.s 17 (.bin .neq (.t 16) (.k (.int .i64 80))))⟩ (.cons ⟨none, (.s 18 (.pick (.t 14) (.k (.bool true)) (.t 17)))⟩ .nil)))))))))) (.cond (.t 18) (.seq (.reg [] (.cons ⟨none, (.s 8 (.mv (.k (.slice none 0 0))))⟩ (.cons ⟨none, (.s 9 (.mv (.k (.int .i64 1))))⟩ .nil))) .ret) .skip)) (.seqJ (.reg [4] (.cons ⟨none, (.q 19 (.lda 32 (.t 4)))⟩ (.cons ⟨none, (.s 20 (.mv (.t 2)))⟩ (.cons ⟨none, (.s 22 (.mv (.t 3)))⟩ (.cons ⟨none, (.s 23 (.mv (.t 1)))⟩ (.alt (.cons ⟨none, (.call (some 21) 36 [(.t 20)])⟩ (.cons ⟨none, (.w (some 24) (.bsl 3 (.int .i64 0) [(.int .i64 0)] 1 [(0, (1, (.t 23)))]))⟩ (.cons ⟨none, (.call (some 25) 37 [(.k (.slice none 0 0)), (.t 24)])⟩ (.cons ⟨none, (.call (some 26) 35 [(.t 19), (.t 21), (.t 22), (.t 25)])⟩ (.cons ⟨none, (.s 27 (.ext (.t 26) 0))⟩ (.cons ⟨none, (.s 28 (.ext (.t 26) 1))⟩ (.cons ⟨none, (.s 8 (.mv (.t 27)))⟩ (.cons ⟨none, (.s 9 (.mv (.t 28)))⟩ .nil)))))))) (.cons ⟨none, (.w (some 24) (.bsl 3 (.int .i64 0) [(.int .i64 0)] 1 [(0, (1, (.t 23)))]))⟩ (.cons ⟨none, (.call (some 21) 36 [(.t 20)])⟩ (.cons ⟨none, (.call (some 25) 37 [(.k (.slice none 0 0)), (.t 24)])⟩ (.cons ⟨none, (.call (some 26) 35 [(.t 19), (.t 21), (.t 22), (.t 25)])⟩ (.cons ⟨none, (.s 27 (.ext (.t 26) 0))⟩ (.cons ⟨none, (.s 28 (.ext (.t 26) 1))⟩ (.cons ⟨none, (.s 8 (.mv (.t 27)))⟩ (.cons ⟨none, (.s 9 (.mv (.t 28)))⟩ .nil)))))))))))))) .ret))), [(.tmp 8), (.tmp 9)]⟩
theorem low_image_Open : lowF Try.prog Try.f25 = some ir_image_Open.strip := by kernel_rfl
theorem ok_image_Open {fu : Nat} (i0 : Nat) (n0 : Nat) {X0b : Nat} {X0ty : Nat} {X0pr : List C} {X0ps : List C} {X0o : Nat} {X0c : Nat} {X0n : Nat} {X0fr : Nat × Nat} {key_ : List Int} {version_ : Int} {i_ : Int} {c_ : List Int} (X0l : X0n = c_.length) (X0S : 0 < X0n → X0pr.length = X0o) (X0C : X0n ≤ X0c) {r : (Int) ⊕ (List Int)} (h : fn_image_Open fu key_ version_ i_ c_ = some r) :
  EV.Fn Try.prog 25 [.g (flat [.i .u8 key_]), ib .i64 version_, ib .i64 i_, .c (.s 0 X0b X0o X0n X0c)] [] [⟨i0, X0b, X0ty, true, X0fr, (.v undef), flat [.r X0pr, .i .u8 c_, .r X0ps]⟩] (fun v u nw => match r with | .inl x9001 => (v = .t2 (.c (.v (.slice none 0 0))) (ib .i64 x9001) ∧ u = [] ∧ nw = []) | .inr (l9004) => (∃ (kn9003 : Nat) (kn9005 : Nat), v = .t2 (.c (.s n0 kn9003 0 l9004.length kn9005)) (ib .i64 0) ∧ u = [] ∧ nw = [⟨n0, kn9003, 5, false, (0, 0), .v undef, flat [.r [], .i .u8 l9004, .r []]⟩] ∧ (kn9005 ≤ l9004.length + 0) ∧ (l9004.length ≤ kn9005))) := by
 subst X0l
 have key : EV.Fn Try.prog 25 [.g (flat [.i .u8 key_]), ib .i64 version_, ib .i64 i_, .c (.s 0 X0b X0o c_.length X0c)] [] [⟨0, X0b, X0ty, true, X0fr, (.v undef), flat [.r X0pr, .i .u8 c_, .r X0ps]⟩] (fun v u nw => match r with | .inl x9001 => (v = .t2 (.c (.v (.slice none 0 0))) (ib .i64 x9001) ∧ u = [] ∧ nw = []) | .inr (l9004) => (∃ (kn9003 : Nat) (kn9005 : Nat), v = .t2 (.c (.s n0 kn9003 0 l9004.length kn9005)) (ib .i64 0) ∧ u = [] ∧ nw = [⟨n0, kn9003, 5, false, (0, 0), .v undef, flat [.r [], .i .u8 l9004, .r []]⟩] ∧ (kn9005 ≤ l9004.length + 0) ∧ (l9004.length ≤ kn9005))) := by
  unfold fn_image_Open at h
  refine d_fn (i := ir_image_Open) (fn := Try.f25) (sl0 := [(0, .g (flat [.i .u8 key_])), (1, ib .i64 version_), (2, ib .i64 i_), (3, .c (.s 0 X0b X0o c_.length X0c))]) (hp0 := [⟨0, X0b, X0ty, true, X0fr, (.v undef), flat [.r X0pr, .i .u8 c_, .r X0ps]⟩]) (by kernel_rfl) low_image_Open mo rfl rfl rfl fun F z0 => ?_
  dsimp only [ir_image_Open]
  refine gd_e h fun Xh_key_ h => ?_
  refine wpC_seq ?_
  refine d_reg rfl ?_
  refine d_box rfl (fun _ => trivial) rfl fun kb1 kz2 => ?_
  refine wpI_s rfl trivial ?_
  refine wpI_s rfl trivial ?_
  refine wpI_nil ?_
  refine seqK_n ?_
  refine wpC_seq ?_
  refine bind_e h fun o5 h hko5 => ?_
  refine d_join (fun (z : Bool × Nat) => (match z with | (t3, kz4) => ⟨[(1, ib .i64 version_), (2, ib .i64 i_), (3, .c (.s 0 X0b X0o c_.length X0c)), (4, .c (.p 100 kb1 0)), (18, bb t3)], [⟨0, X0b, X0ty, true, X0fr, (.v undef), flat [.r X0pr, .i .u8 c_, .r X0ps]⟩, ⟨100, kb1, 23, false, (0, 0), (.v (.int .u8 0)), flat [.i .u8 key_]⟩], 101, kz4⟩ : St)) (fun (z : Bool × Nat) => match z with | (t3, kz4) => (True) ∧ t3 = o5) ?_ ?_
  ·refine d_reg rfl ?_
   refine wpI_s rfl trivial ?_
   refine wpI_s rfl trivial ?_
   refine bind_e h fun t8 ho7 h => ?_
   refine d_call (ok_image_may     (h := ho7)) rfl rfl haveRw_n haveRo_n (own_of rfl) ?_
   rintro _ _ _ kz9 ⟨rfl, rfl, rfl⟩
   refine ⟨_, rfl, trivial, ?_⟩
   refine d_b rfl trivial h fun t10 h => ?_
   refine wpI_s rfl trivial ?_
   refine d_guard rfl h (fun h => ?_) (fun h => ?_)
   ·refine wpI_s rfl trivial ?_
    refine d_guardT rfl ?_
    refine wpI_s rfl trivial ?_
    refine d_guardT rfl ?_
    refine d_b rfl trivial h fun t11 h => ?_
    refine d_pickF rfl rfl rfl ?_
    refine wpI_nil ?_
    refine jnK_n (t11, kz9) [0, 100] ⟨trivial, Option.some.inj h⟩ (leS2_c rfl rfl (leS2_c rfl rfl (leS2_c rfl rfl (leS2_c rfl rfl (leS2_c rfl rfl leS2_n))))) (leH2_c rfl rfl rfl rfl rfl rfl (leH2_c rfl rfl rfl rfl rfl rfl leH2_n)) rfl rfl
   ·refine d_guardF rfl rfl ?_
    refine d_guardF rfl rfl ?_
    refine d_pickT rfl rfl rfl ?_
    refine wpI_nil ?_
    refine jnK_n (true, kz9) [0, 100] ⟨trivial, Option.some.inj h⟩ (leS2_c rfl rfl (leS2_c rfl rfl (leS2_c rfl rfl (leS2_c rfl rfl (leS2_c rfl rfl leS2_n))))) (leH2_c rfl rfl rfl rfl rfl rfl (leH2_c rfl rfl rfl rfl rfl rfl leH2_n)) rfl rfl
  ·rintro ⟨t3, kz4⟩ ⟨_, rfl⟩
   show wpC _ _ _ _ _ (St.mk _ _ _ _)
   have h := hko5; clear hko5; try dsimp only at h
   refine d_cond rfl h (fun h => ?_) (fun h => ?_)
   ·refine wpC_seq ?_
    refine d_reg rfl ?_
    refine wpI_s rfl trivial ?_
    refine wpI_s rfl trivial ?_
    refine wpI_nil ?_
    refine seqK_n ?_
    refine wpC_ret ?_
    refine seqK_r ?_
    obtain rfl := Option.some.inj h
    exact d_ret2 [] [] ⟨rfl, rfl, rfl⟩ ⟨(rIs_t rfl rfl), (rIs_t rfl rfl)⟩ leH2_n leH2_n rfl
   ·refine wpC_skip ?_
    refine seqK_n ?_
    refine bind_e h fun o19 h hko19 => ?_
    refine d_join (fun (z : (Nat) ⊕ (List Int × Nat × Nat × Nat)) => (match z with | .inl kz12 => ⟨[(8, .c (.v (.slice none 0 0))), (9, ib .i64 10)], [], 102, kz12⟩ | .inr ((l14, kn13, kn15, kz18)) => ⟨[(8, .c (.s 1002 kn13 0 l14.length kn15)), (9, ib .i64 0)], [⟨1002, kn13, 5, false, (0, 0), (.v (.int .u8 0)), flat [.r [], .i .u8 l14, .r []]⟩], 102, kz18⟩ : St)) (fun (z : (Nat) ⊕ (List Int × Nat × Nat × Nat)) => match z with | .inl kz12 => (True) ∧ Sum.inl () = o19 | .inr ((l14, kn13, kn15, kz18)) => ((kn15 ≤ l14.length + 0) ∧ (l14.length ≤ kn15)) ∧ Sum.inr (l14) = o19) ?_ ?_
    ·refine d_reg rfl ?_
     refine d_qlda 0 1 rfl rfl rfl rfl (by simp only [flen, Xh_key_]) ?_
     refine wpI_s rfl trivial ?_
     refine wpI_s rfl trivial ?_
     refine wpI_s rfl trivial ?_
     refine wpI_alt ?_ ?_
     ·refine bind_e h fun l22 ho21 h => ?_
      refine d_call (ok_image_nonce     (h := ho21)) rfl rfl haveRw_n haveRo_n (own_of rfl) ?_
      rintro _ _ _ kz24 ⟨rfl, rfl, rfl, h23⟩
      refine ⟨_, rfl, (pin_c rfl rfl rfl rfl rfl trivial), ?_⟩
      refine gd_e h fun g25 h => ?_
      refine d_bsl (g := [.r [], .i .i64 [version_], .r []]) (by rfl) (fun _ => (pin_c rfl rfl rfl rfl rfl trivial)) fun kb26 kz27 => ?_
      refine bind_e h fun o28 ho29 h => ?_
      rcases o28 with _ | l30
      ·cases h
      ·try dsimp only at h
       refine d_call (ok_pack_Int_2 (i0 := 101) (n0 := 1001) (X0b := kb26) (X0ty := 3) (X0pr := []) (X0ps := []) (X0o := 0) (X0c := 1) (X0n := 1) (X0l := (rfl).symm) (X0S := (fun _ => rfl)) (X0C := (Nat.le_refl _)) (h := ho29)) rfl rfl haveRw_n (haveRo_c rfl rfl haveRo_n) (own_of rfl) ?_
       rintro _ _ _ kz40 ⟨k31, k32, k33, k34, k35, k36, rfl, rfl, rfl, h37, h38, h39⟩
       refine ⟨_, rfl, (pin_c rfl rfl rfl rfl rfl trivial), ?_⟩
       refine bind_e h fun o41 ho42 h => ?_
       rcases o41 with _ | l44
       ·try dsimp only at h
        refine d_call (ok_aead_Open (i0 := 0) (i1 := 1001) (n0 := 1002) (X0b := X0b) (X0ty := X0ty) (X0pr := X0pr) (X0ps := X0ps) (X0o := X0o) (X0c := X0c) (X0n := c_.length) (X1b := k31) (X1ty := k32) (X1pr := k33) (X1ps := k34) (X1o := k35) (X1c := k36) (X1n := l30.length) (X0l := rfl) (X0S := X0S) (X0C := X0C) (X1l := rfl) (X1S := (fun _ => h37)) (X1C := h39) (h := ho42)) rfl rfl haveRw_n (haveRo_c rfl rfl (haveRo_c rfl rfl haveRo_n)) (own_of rfl) ?_
        rintro _ _ _ kz43 ⟨rfl, rfl, rfl⟩
        refine ⟨_, rfl, (pin_c rfl rfl rfl rfl rfl trivial), ?_⟩
        refine wpI_s rfl trivial ?_
        refine wpI_s rfl trivial ?_
        refine wpI_s rfl trivial ?_
        refine wpI_s rfl trivial ?_
        refine wpI_nil ?_
        refine jnK_n (Sum.inl kz43) [] ⟨trivial, Option.some.inj h⟩ (leS2_c rfl rfl (leS2_c rfl rfl leS2_n)) leH2_n rfl rfl
       ·try dsimp only at h
        refine d_call (ok_aead_Open (i0 := 0) (i1 := 1001) (n0 := 1002) (X0b := X0b) (X0ty := X0ty) (X0pr := X0pr) (X0ps := X0ps) (X0o := X0o) (X0c := X0c) (X0n := c_.length) (X1b := k31) (X1ty := k32) (X1pr := k33) (X1ps := k34) (X1o := k35) (X1c := k36) (X1n := l30.length) (X0l := rfl) (X0S := X0S) (X0C := X0C) (X1l := rfl) (X1S := (fun _ => h37)) (X1C := h39) (h := ho42)) rfl rfl haveRw_n (haveRo_c rfl rfl (haveRo_c rfl rfl haveRo_n)) (own_of rfl) ?_
        rintro _ _ _ kz49 ⟨k45, k46, rfl, rfl, rfl, h47, h48⟩
        refine ⟨_, rfl, (pin_c rfl rfl rfl rfl rfl trivial), ?_⟩
        refine wpI_s rfl trivial ?_
        refine wpI_s rfl trivial ?_
        refine wpI_s rfl trivial ?_
        refine wpI_s rfl trivial ?_
        refine wpI_nil ?_
        refine jnK_n (Sum.inr ((l44, k45, k46, kz49))) [1002] ⟨⟨h47, h48⟩, Option.some.inj h⟩ (leS2_c rfl rfl (leS2_c rfl rfl leS2_n)) (leH2_c rfl rfl rfl rfl rfl rfl leH2_n) rfl rfl
     ·refine d_bsl (g := [.r [], .i .i64 [version_], .r []]) (by rfl) (fun _ => (pin_c rfl rfl rfl rfl rfl trivial)) fun kb50 kz51 => ?_
      refine bind_e h fun l54 ho53 h => ?_
      refine d_call (ok_image_nonce     (h := ho53)) rfl rfl haveRw_n haveRo_n (own_of rfl) ?_
      rintro _ _ _ kz56 ⟨rfl, rfl, rfl, h55⟩
      refine ⟨_, rfl, (pin_c rfl rfl rfl rfl rfl trivial), ?_⟩
      refine gd_e h fun g57 h => ?_
      refine bind_e h fun o58 ho59 h => ?_
      rcases o58 with _ | l60
      ·cases h
      ·try dsimp only at h
       refine d_call (ok_pack_Int_2 (i0 := 101) (n0 := 1003) (X0b := kb50) (X0ty := 3) (X0pr := []) (X0ps := []) (X0o := 0) (X0c := 1) (X0n := 1) (X0l := (rfl).symm) (X0S := (fun _ => rfl)) (X0C := (Nat.le_refl _)) (h := ho59)) rfl rfl haveRw_n (haveRo_c rfl rfl haveRo_n) (own_of rfl) ?_
       rintro _ _ _ kz70 ⟨k61, k62, k63, k64, k65, k66, rfl, rfl, rfl, h67, h68, h69⟩
       refine ⟨_, rfl, (pin_c rfl rfl rfl rfl rfl trivial), ?_⟩
       refine bind_e h fun o71 ho72 h => ?_
       rcases o71 with _ | l74
       ·try dsimp only at h
        refine d_call (ok_aead_Open (i0 := 0) (i1 := 1003) (n0 := 1004) (X0b := X0b) (X0ty := X0ty) (X0pr := X0pr) (X0ps := X0ps) (X0o := X0o) (X0c := X0c) (X0n := c_.length) (X1b := k61) (X1ty := k62) (X1pr := k63) (X1ps := k64) (X1o := k65) (X1c := k66) (X1n := l60.length) (X0l := rfl) (X0S := X0S) (X0C := X0C) (X1l := rfl) (X1S := (fun _ => h67)) (X1C := h69) (h := ho72)) rfl rfl haveRw_n (haveRo_c rfl rfl (haveRo_c rfl rfl haveRo_n)) (own_of rfl) ?_
        rintro _ _ _ kz73 ⟨rfl, rfl, rfl⟩
        refine ⟨_, rfl, (pin_c rfl rfl rfl rfl rfl trivial), ?_⟩
        refine wpI_s rfl trivial ?_
        refine wpI_s rfl trivial ?_
        refine wpI_s rfl trivial ?_
        refine wpI_s rfl trivial ?_
        refine wpI_nil ?_
        refine jnK_n (Sum.inl kz73) [] ⟨trivial, Option.some.inj h⟩ (leS2_c rfl rfl (leS2_c rfl rfl leS2_n)) leH2_n rfl rfl
       ·try dsimp only at h
        refine d_call (ok_aead_Open (i0 := 0) (i1 := 1003) (n0 := 1004) (X0b := X0b) (X0ty := X0ty) (X0pr := X0pr) (X0ps := X0ps) (X0o := X0o) (X0c := X0c) (X0n := c_.length) (X1b := k61) (X1ty := k62) (X1pr := k63) (X1ps := k64) (X1o := k65) (X1c := k66) (X1n := l60.length) (X0l := rfl) (X0S := X0S) (X0C := X0C) (X1l := rfl) (X1S := (fun _ => h67)) (X1C := h69) (h := ho72)) rfl rfl haveRw_n (haveRo_c rfl rfl (haveRo_c rfl rfl haveRo_n)) (own_of rfl) ?_
        rintro _ _ _ kz79 ⟨k75, k76, rfl, rfl, rfl, h77, h78⟩
        refine ⟨_, rfl, (pin_c rfl rfl rfl rfl rfl trivial), ?_⟩
        refine wpI_s rfl trivial ?_
        refine wpI_s rfl trivial ?_
        refine wpI_s rfl trivial ?_
        refine wpI_s rfl trivial ?_
        refine wpI_nil ?_
        refine jnK_n (Sum.inr ((l74, k75, k76, kz79))) [1004] ⟨⟨h77, h78⟩, Option.some.inj h⟩ (leS2_c rfl rfl (leS2_c rfl rfl leS2_n)) (leH2_c rfl rfl rfl rfl rfl rfl leH2_n) rfl rfl
    ·rintro (kz12 | ⟨l14, kn13, kn15, kz18⟩)
     ·rintro ⟨_, rfl⟩
      show wpC _ _ _ _ _ (St.mk _ _ _ _)
      have h := hko19; clear hko19; try dsimp only at h
      refine wpC_ret ?_
      obtain rfl := Option.some.inj h
      exact d_ret2 [] [] ⟨rfl, rfl, rfl⟩ ⟨(rIs_t rfl rfl), (rIs_t rfl rfl)⟩ leH2_n leH2_n rfl
     ·rintro ⟨⟨h16, h17⟩, rfl⟩
      show wpC _ _ _ _ _ (St.mk _ _ _ _)
      have h := hko19; clear hko19; try dsimp only at h
      refine wpC_ret ?_
      obtain rfl := Option.some.inj h
      exact d_ret2 [] [1002] ⟨kn13, kn15, rfl, rfl, rfl, h16, h17⟩ ⟨(rIs_t rfl rfl), (rIs_t rfl rfl)⟩ leH2_n (leH2_c rfl rfl rfl rfl rfl rfl leH2_n) rfl
 exact key.cong rfl blkEq_n (blkEq_c rfl rfl rfl rfl blkEq_n)

def ir_verity_Area_Has : IFn := ⟨31, (.seq (.reg [] (.cons ⟨none, (.w (some 5) (.box 23 32 (.int .u8 0) (.t 1)))⟩ (.cons ⟨none, (.s 8 (.mv (.k (.bool false))))⟩ .nil))) (.seq (.reg [] (.cons ⟨none, (.s 14 (.mv (.t 0)))⟩ (.cons ⟨none, (.s 15 (.mv (.t 3)))⟩ (.cons ⟨none, (.call (some 16) 12 [(.t 14), (.t 15)])⟩ (.cons ⟨none, (.s 13 (.mv (.t 16)))⟩ (.cons ⟨none, (.s 17 (.ext (.t 13) 0))⟩ (.cons ⟨none, (.s 18 (.ext (.t 13) 1))⟩ (.cons ⟨none, (.s 9 (.mv (.t 17)))⟩ (.cons ⟨none, (.s 10 (.mv (.t 18)))⟩ .nil))))))))) (.seq (.seq (.reg [] (.cons ⟨none, (.s 19 (.mv (.t 10)))⟩ (.cons ⟨none, (.s 20 (.un .not (.t 19)))⟩ .nil))) (.cond (.t 20) (.seq (.reg [] (.cons ⟨none, (.s 8 (.mv (.k (.bool false))))⟩ .nil)) .ret) .skip)) (.seq (.reg [] (.cons ⟨none, (.r 22 (.lda 32 (.t 5)))⟩ (.cons ⟨none, (.s 23 (.mv (.t 2)))⟩ (.cons ⟨none, (.s 24 (.mv (.t 3)))⟩ (.cons ⟨none, (.s 25 (.mv (.t 9)))⟩ (.cons ⟨none, (.call (some 26) 25 [(.t 22), (.t 23), (.t 24), (.t 25)])⟩ (.cons ⟨none, (.s 21 (.mv (.t 26)))⟩ (.cons ⟨none, (.s 27 (.ext (.t 21) 0))⟩ (.cons ⟨none, (.s 28 (.ext (.t 21) 1))⟩ (.cons ⟨none, (.s 11 (.mv (.t 27)))⟩ (.cons ⟨none, (.s 12 (.mv (.t 28)))⟩ .nil))))))))))) (.seq (.reg [] (.cons ⟨none, (.s 29 (.mv (.t 12)))⟩ (.cons ⟨none, (.s 30 (.bin .eql (.t 29) (.k (.int .i64 0))))⟩ (.cons ⟨none, (.s 8 (.mv (.t 30)))⟩ .nil)))) .ret))))), [(.tmp 8)]⟩
theorem low_verity_Area_Has : lowF Try.prog Try.f13 = some ir_verity_Area_Has.strip := by kernel_rfl
theorem ok_verity_Area_Has {fu : Nat} (i0 : Nat) (i1 : Nat) (i2 : Nat) {X0b : Nat} {X0ty : Nat} {X1b : Nat} {X1ty : Nat} {X2b : Nat} {X2ty : Nat} {X2pr : List C} {X2ps : List C} {X2o : Nat} {X2c : Nat} {X2n : Nat} {X0fr : Nat × Nat} {X1fr : Nat × Nat} {X2fr : Nat × Nat} {a_00 : List Int} {a_01 : Int} {a_02 : Int} {a_03 : Bool} {a_04 : Int} {a_05 : Int} {a_1 : Int} {key_ : List Int} {version_ : Int} {i_ : Int} (X2l : X2n = a_00.length) (X2S : 0 < X2n → X2pr.length = X2o) (X2C : X2n ≤ X2c) {t9001 : Bool} (h : fn_verity_Area_Has fu a_00 a_01 a_02 a_03 a_04 a_05 a_1 key_ version_ i_ = some t9001) :
  EV.Fn Try.prog 13 [.c (.p 0 X0b 0), .g (flat [.i .u8 key_]), ib .i64 version_, ib .i64 i_] [] [⟨i0, X0b, X0ty, true, X0fr, (.v undef), flat [.c (.p i1 X1b 0), .c (.v (.int .i64 a_1))]⟩, ⟨i1, X1b, X1ty, true, X1fr, (.v undef), flat [.c (.s i2 X2b X2o X2n X2c), .c (.v (.int .i64 a_01)), .c (.v (.int .i64 a_02)), .c (.v (.bool a_03)), .c (.v (.int .i64 a_04)), .c (.v (.int .i64 a_05))]⟩, ⟨i2, X2b, X2ty, true, X2fr, (.v undef), flat [.r X2pr, .i .u8 a_00, .r X2ps]⟩] (fun v u nw => v = bb t9001 ∧ u = [] ∧ nw = []) := by
 subst X2l
 have key : EV.Fn Try.prog 13 [.c (.p 0 X0b 0), .g (flat [.i .u8 key_]), ib .i64 version_, ib .i64 i_] [] [⟨0, X0b, X0ty, true, X0fr, (.v undef), flat [.c (.p 1 X1b 0), .c (.v (.int .i64 a_1))]⟩, ⟨1, X1b, X1ty, true, X1fr, (.v undef), flat [.c (.s 2 X2b X2o a_00.length X2c), .c (.v (.int .i64 a_01)), .c (.v (.int .i64 a_02)), .c (.v (.bool a_03)), .c (.v (.int .i64 a_04)), .c (.v (.int .i64 a_05))]⟩, ⟨2, X2b, X2ty, true, X2fr, (.v undef), flat [.r X2pr, .i .u8 a_00, .r X2ps]⟩] (fun v u nw => v = bb t9001 ∧ u = [] ∧ nw = []) := by
  unfold fn_verity_Area_Has at h
  refine d_fn (i := ir_verity_Area_Has) (fn := Try.f13) (sl0 := [(0, .c (.p 0 X0b 0)), (1, .g (flat [.i .u8 key_])), (2, ib .i64 version_), (3, ib .i64 i_)]) (hp0 := [⟨0, X0b, X0ty, true, X0fr, (.v undef), flat [.c (.p 1 X1b 0), .c (.v (.int .i64 a_1))]⟩, ⟨1, X1b, X1ty, true, X1fr, (.v undef), flat [.c (.s 2 X2b X2o a_00.length X2c), .c (.v (.int .i64 a_01)), .c (.v (.int .i64 a_02)), .c (.v (.bool a_03)), .c (.v (.int .i64 a_04)), .c (.v (.int .i64 a_05))]⟩, ⟨2, X2b, X2ty, true, X2fr, (.v undef), flat [.r X2pr, .i .u8 a_00, .r X2ps]⟩]) (by kernel_rfl) low_verity_Area_Has mo rfl rfl rfl fun F z0 => ?_
  dsimp only [ir_verity_Area_Has]
  refine gd_e h fun Xh_key_ h => ?_
  refine wpC_seq ?_
  refine d_reg rfl ?_
  refine d_box rfl (fun _ => trivial) rfl fun kb1 kz2 => ?_
  refine wpI_s rfl trivial ?_
  refine wpI_nil ?_
  refine seqK_n ?_
  refine wpC_seq ?_
  refine d_reg rfl ?_
  refine wpI_s rfl trivial ?_
  refine wpI_s rfl trivial ?_
  refine bind_e h fun o3 ho4 h => ?_
  rcases o3 with _ | l6
  ·try dsimp only at h
   refine d_call (ok_verity_Area_Raw (i0 := 0) (i1 := 1) (i2 := 2) (n0 := 1001) (X0b := X0b) (X0ty := X0ty) (X1b := X1b) (X1ty := X1ty) (X2b := X2b) (X2ty := X2ty) (X2pr := X2pr) (X2ps := X2ps) (X2o := X2o) (X2c := X2c) (X2n := a_00.length) (X2l := rfl) (X2S := X2S) (X2C := X2C) (h := ho4)) rfl rfl haveRw_n (haveRo_c rfl rfl (haveRo_c rfl rfl (haveRo_c rfl rfl haveRo_n))) (own_of rfl) ?_
   rintro _ _ _ kz5 ⟨rfl, rfl, rfl⟩
   refine ⟨_, rfl, trivial, ?_⟩
   refine wpI_s rfl trivial ?_
   refine wpI_s rfl trivial ?_
   refine wpI_s rfl trivial ?_
   refine wpI_s rfl trivial ?_
   refine wpI_s rfl trivial ?_
   refine wpI_nil ?_
   refine seqK_n ?_
   refine wpC_seq ?_
   refine wpC_seq ?_
   refine d_reg rfl ?_
   refine wpI_s rfl trivial ?_
   refine d_bf (w := true) rfl trivial (by decide) ?_
   refine wpI_nil ?_
   refine seqK_n ?_
   refine wpC_condT rfl ?_
   refine wpC_seq ?_
   refine d_reg rfl ?_
   refine wpI_s rfl trivial ?_
   refine wpI_nil ?_
   refine seqK_n ?_
   refine wpC_ret ?_
   refine seqK_r ?_
   obtain rfl := Option.some.inj h
   exact d_ret2 [] [] ⟨rfl, rfl, rfl⟩ (rIs_t rfl rfl) leH2_n leH2_n rfl
  ·try dsimp only at h
   refine d_call (ok_verity_Area_Raw (i0 := 0) (i1 := 1) (i2 := 2) (n0 := 1001) (X0b := X0b) (X0ty := X0ty) (X1b := X1b) (X1ty := X1ty) (X2b := X2b) (X2ty := X2ty) (X2pr := X2pr) (X2ps := X2ps) (X2o := X2o) (X2c := X2c) (X2n := a_00.length) (X2l := rfl) (X2S := X2S) (X2C := X2C) (h := ho4)) rfl rfl haveRw_n (haveRo_c rfl rfl (haveRo_c rfl rfl (haveRo_c rfl rfl haveRo_n))) (own_of rfl) ?_
   rintro _ _ _ kz16 ⟨k7, k8, k9, k10, k11, k12, rfl, rfl, rfl, h13, h14, h15⟩
   refine ⟨_, rfl, trivial, ?_⟩
   refine wpI_s rfl trivial ?_
   refine wpI_s rfl trivial ?_
   refine wpI_s rfl trivial ?_
   refine wpI_s rfl trivial ?_
   refine wpI_s rfl trivial ?_
   refine wpI_nil ?_
   refine seqK_n ?_
   refine wpC_seq ?_
   refine wpC_seq ?_
   refine d_reg rfl ?_
   refine wpI_s rfl trivial ?_
   refine d_bf (w := false) rfl trivial (by decide) ?_
   refine wpI_nil ?_
   refine seqK_n ?_
   refine wpC_condF rfl ?_
   refine wpC_skip ?_
   refine seqK_n ?_
   refine wpC_seq ?_
   refine d_reg rfl ?_
   refine d_lda 0 1 rfl rfl rfl rfl (by simp only [flen, Xh_key_]) ?_
   refine wpI_s rfl trivial ?_
   refine wpI_s rfl trivial ?_
   refine wpI_s rfl trivial ?_
   refine bind_e h fun o17 ho18 h => ?_
   rcases o17 with x19 | l22
   ·try dsimp only at h
    refine d_call (ok_image_Open (i0 := 1001) (n0 := 1002) (X0b := k7) (X0ty := k8) (X0pr := k9) (X0ps := k10) (X0o := k11) (X0c := k12) (X0n := l6.length) (X0l := rfl) (X0S := (fun _ => h13)) (X0C := h15) (h := ho18)) rfl rfl haveRw_n (haveRo_c rfl rfl haveRo_n) (own_of rfl) ?_
    rintro _ _ _ kz20 ⟨rfl, rfl, rfl⟩
    refine ⟨_, rfl, trivial, ?_⟩
    refine wpI_s rfl trivial ?_
    refine wpI_s rfl trivial ?_
    refine wpI_s rfl trivial ?_
    refine wpI_s rfl trivial ?_
    refine wpI_s rfl trivial ?_
    refine wpI_nil ?_
    refine seqK_n ?_
    refine wpC_seq ?_
    refine d_reg rfl ?_
    refine wpI_s rfl trivial ?_
    refine d_b rfl trivial h fun t21 h => ?_
    refine wpI_s rfl trivial ?_
    refine wpI_nil ?_
    refine seqK_n ?_
    refine wpC_ret ?_
    obtain rfl := Option.some.inj h
    exact d_ret2 [] [] ⟨rfl, rfl, rfl⟩ (rIs_t rfl rfl) leH2_n leH2_n rfl
   ·try dsimp only at h
    refine d_call (ok_image_Open (i0 := 1001) (n0 := 1002) (X0b := k7) (X0ty := k8) (X0pr := k9) (X0ps := k10) (X0o := k11) (X0c := k12) (X0n := l6.length) (X0l := rfl) (X0S := (fun _ => h13)) (X0C := h15) (h := ho18)) rfl rfl haveRw_n (haveRo_c rfl rfl haveRo_n) (own_of rfl) ?_
    rintro _ _ _ kz27 ⟨k23, k24, rfl, rfl, rfl, h25, h26⟩
    refine ⟨_, rfl, trivial, ?_⟩
    refine wpI_s rfl trivial ?_
    refine wpI_s rfl trivial ?_
    refine wpI_s rfl trivial ?_
    refine wpI_s rfl trivial ?_
    refine wpI_s rfl trivial ?_
    refine wpI_nil ?_
    refine seqK_n ?_
    refine wpC_seq ?_
    refine d_reg rfl ?_
    refine wpI_s rfl trivial ?_
    refine d_bf (w := true) rfl trivial (by decide) ?_
    refine wpI_s rfl trivial ?_
    refine wpI_nil ?_
    refine seqK_n ?_
    refine wpC_ret ?_
    obtain rfl := Option.some.inj h
    exact d_ret2 [] [] ⟨rfl, rfl, rfl⟩ (rIs_t rfl rfl) leH2_n leH2_n rfl
 exact key.cong rfl blkEq_n (blkEq_c rfl rfl rfl rfl (blkEq_c rfl rfl rfl rfl (blkEq_c rfl rfl rfl rfl blkEq_n)))

def ir_portcullislaw25_VerityTears : IFn := ⟨203, (.seq (.reg [] (.cons ⟨none, (.w (some 6) (.box 23 32 (.int .u8 0) (.t 0)))⟩ (.cons ⟨none, (.w (some 11) (.box 26 2 (.int .i64 0) (.t 5)))⟩ (.cons ⟨none, (.s 12 (.mv (.k (.bool false))))⟩ .nil)))) (.seq (.reg [] (.cons ⟨none, (.call (some 30) 4 [])⟩ (.cons ⟨none, (.s 13 (.mv (.t 30)))⟩ .nil))) (.seq (.seqJ (.reg [] (.cons ⟨none, (.s 31 (.mv (.t 13)))⟩ (.cons ⟨none, (.s 32 (.un .not (.t 31)))⟩ (.cons ⟨none, (.s 33 (.mv (.t 32)))⟩ (.cons ⟨(some (33, false)), (.s 34 (.mv (.t 1)))⟩ (.cons ⟨(some (33, false)), (.s 35 (.bin .lss (.t 34) (.k (.int .i64 0))))⟩ (.cons ⟨none, (.s 36 (.pick (.t 33) (.k (.bool true)) (.t 35)))⟩ (.cons ⟨none, (.s 37 (.mv (.t 36)))⟩ (.cons ⟨(some (37, false)), (.s 38 (.mv (.t 1)))⟩ (.cons ⟨(some (37, false)), (.s 39 (.bin .gtr (.t 38) (.k (.int .i64 1073741824))))⟩ (.cons ⟨none, (.s 40 (.pick (.t 37) (.k (.bool true)) (.t 39)))⟩ (.cons ⟨none, (.s 41 (.mv (.t 40)))⟩ (.cons ⟨(some (41, false)), (.s 42 (.mv (.t 2)))⟩ (.cons ⟨(some (41, false)), (.s 43 (.bin .lss (.t 42) (.k (.int .i64 0))))⟩ (.cons ⟨none, (.s 44 (.pick (.t 41) (.k (.bool true)) (.t 43)))⟩ (.cons ⟨none, (.s 45 (.mv (.t 44)))⟩ (.cons ⟨(some (45, false)), (.s 46 (.mv (.t 2)))⟩ (.cons ⟨(some (45, false)), (.s 47 (.bin .gtr (.t 46) (.k (.int .i64 31))))⟩ (.cons ⟨none, (.s 48 (.pick (.t 45) (.k (.bool true)) (.t 47)))⟩ (.cons ⟨none, (.s 49 (.mv (.t 48)))⟩ (.cons ⟨(some (49, false)), (.s 50 (.mv (.t 3)))⟩ (.cons ⟨(some (49, false)), (.s 51 (.len (.t 50)))⟩ (.cons ⟨(some (49, false)), (.s 52 (.bin .neq (.t 51) (.k (.int .i64 64))))⟩ (.cons ⟨none, (.s 53 (.pick (.t 49) (.k (.bool true)) (.t 52)))⟩ (.cons ⟨none, (.s 54 (.mv (.t 53)))⟩ (.cons ⟨(some (54, false)), (.s 55 (.mv (.t 4)))⟩ (.cons ⟨(some (54, false)), (.s 56 (.len (.t 55)))⟩ (.cons ⟨(some (54, false)), (.s 57 (.bin .neq (.t 56) (.k (.int .i64 64))))⟩ (.cons ⟨none, (.s 58 (.pick (.t 54) (.k (.bool true)) (.t 57)))⟩ (.cons ⟨none, (.s 59 (.mv (.t 58)))⟩ (.cons ⟨(some (59, false)), (.s 60 (.fa 0 (.t 11)))⟩ (.cons ⟨(some (59, false)), (.r 61 (.ld (.int .i64 0) (.t 60)))⟩ (.cons ⟨(some (59, false)), (.s 62 (.bin .lss (.t 61) (.k (.int .i64 0))))⟩ (.cons ⟨none, (.s 63 (.pick (.t 59) (.k (.bool true)) (.t 62)))⟩ (.cons ⟨none, (.s 64 (.mv (.t 63)))⟩ (.cons ⟨(some (64, false)), (.s 65 (.fa 0 (.t 11)))⟩ (.cons ⟨(some (64, false)), (.r 66 (.ld (.int .i64 0) (.t 65)))⟩ (.cons ⟨(some (64, false)), (.s 67 (.bin .gtr (.t 66) (.k (.int .i64 1))))⟩ (.cons ⟨none, (.s 68 (.pick (.t 64) (.k (.bool true)) (.t 67)))⟩ .nil))))))))))))))))))))))))))))))))))))))) (.cond (.t 68) (.seq (.reg [] (.cons ⟨none, (.s 69 (.mv (.t 13)))⟩ (.cons ⟨none, (.s 12 (.mv (.t 69)))⟩ .nil))) .ret) .skip)) (.seq (.reg [] (.cons ⟨none, (.r 71 (.lda 32 (.t 6)))⟩ (.cons ⟨none, (.s 72 (.mv (.t 1)))⟩ (.cons ⟨none, (.s 73 (.mv (.t 2)))⟩ (.cons ⟨none, (.s 74 (.mv (.t 3)))⟩ (.cons ⟨none, (.call (some 75) 5 [(.t 71), (.t 72), (.t 73), (.t 74)])⟩ (.cons ⟨none, (.s 70 (.mv (.t 75)))⟩ (.cons ⟨none, (.s 76 (.ext (.t 70) 0))⟩ (.cons ⟨none, (.s 77 (.ext (.t 70) 1))⟩ (.cons ⟨none, (.s 14 (.mv (.t 76)))⟩ (.cons ⟨none, (.s 15 (.mv (.t 77)))⟩ .nil))))))))))) (.seq (.reg [] (.cons ⟨none, (.r 79 (.lda 32 (.t 6)))⟩ (.cons ⟨none, (.s 80 (.mv (.t 1)))⟩ (.cons ⟨none, (.s 81 (.mv (.t 2)))⟩ (.cons ⟨none, (.s 82 (.mv (.t 4)))⟩ (.cons ⟨none, (.call (some 83) 5 [(.t 79), (.t 80), (.t 81), (.t 82)])⟩ (.cons ⟨none, (.s 78 (.mv (.t 83)))⟩ (.cons ⟨none, (.s 84 (.ext (.t 78) 0))⟩ (.cons ⟨none, (.s 85 (.ext (.t 78) 1))⟩ (.cons ⟨none, (.s 16 (.mv (.t 84)))⟩ (.cons ⟨none, (.s 17 (.mv (.t 85)))⟩ .nil))))))))))) (.seq (.reg [] (.cons ⟨none, (.call (some 86) 6 [(.k (.int .i64 128))])⟩ (.cons ⟨none, (.s 18 (.mv (.t 86)))⟩ .nil))) (.seq (.reg [] (.cons ⟨none, (.s 88 (.mv (.t 18)))⟩ (.cons ⟨none, (.call (some 89) 7 [(.t 88), (.k (.int .i64 1))])⟩ (.cons ⟨none, (.s 87 (.mv (.t 89)))⟩ (.cons ⟨none, (.s 90 (.ext (.t 87) 0))⟩ (.cons ⟨none, (.s 91 (.ext (.t 87) 1))⟩ (.cons ⟨none, (.s 19 (.mv (.t 90)))⟩ (.cons ⟨none, (.s 20 (.mv (.t 91)))⟩ .nil)))))))) (.seq (.seq (.reg [] (.cons ⟨none, (.s 92 (.mv (.t 20)))⟩ (.cons ⟨none, (.call (some 93) 8 [(.t 92)])⟩ (.cons ⟨none, (.s 94 (.bin .neq (.t 93) (.k (.int .i64 0))))⟩ .nil)))) (.cond (.t 94) (.seq (.reg [] (.cons ⟨none, (.s 12 (.mv (.k (.bool false))))⟩ .nil)) .ret) .skip)) (.seq (.reg [] (.cons ⟨none, (.s 95 (.mv (.t 19)))⟩ (.cons ⟨none, (.s 96 (.mv (.t 2)))⟩ (.cons ⟨none, (.s 97 (.mv (.t 14)))⟩ (.cons ⟨none, (.call (some 98) 9 [(.t 95), (.t 96), (.t 97)])⟩ (.cons ⟨none, (.s 21 (.mv (.t 98)))⟩ .nil)))))) (.seq (.reg [] (.cons ⟨none, (.s 99 (.mv (.t 18)))⟩ (.cons ⟨none, (.r 100 (.lda 2 (.t 11)))⟩ (.cons ⟨none, (.call (some 101) 10 [(.t 99), (.t 100)])⟩ .nil)))) (.seq (.reg [] (.cons ⟨none, (.s 102 (.mv (.t 19)))⟩ (.cons ⟨none, (.s 103 (.mv (.t 2)))⟩ (.cons ⟨none, (.s 104 (.mv (.t 16)))⟩ (.cons ⟨none, (.call (some 105) 9 [(.t 102), (.t 103), (.t 104)])⟩ (.cons ⟨none, (.s 22 (.mv (.t 105)))⟩ .nil)))))) (.seq (.reg [] (.cons ⟨none, (.s 106 (.mv (.t 18)))⟩ (.cons ⟨none, (.call (some 107) 11 [(.t 106)])⟩ .nil))) (.seq (.reg [] (.cons ⟨none, (.s 109 (.mv (.t 19)))⟩ (.cons ⟨none, (.s 110 (.mv (.t 2)))⟩ (.cons ⟨none, (.call (some 111) 12 [(.t 109), (.t 110)])⟩ (.cons ⟨none, (.s 108 (.mv (.t 111)))⟩ (.cons ⟨none, (.s 112 (.ext (.t 108) 0))⟩ (.cons ⟨none, (.s 113 (.ext (.t 108) 1))⟩ (.cons ⟨none, (.s 23 (.mv (.t 112)))⟩ (.cons ⟨none, (.s 24 (.mv (.t 113)))⟩ .nil))))))))) (.seq (.reg [] (.cons ⟨none, (.w (some 114) (.mks 5 1 (.int .u8 0) (.k (.int .i64 80)) (.k (.int .i64 80))))⟩ (.cons ⟨none, (.s 25 (.mv (.t 114)))⟩ .nil))) (.seq (.seq (.reg [] (.cons ⟨none, (.s 26 (.mv (.k (.int .i64 0))))⟩ .nil)) (.block 0 (.loop (.seq (.seq (.reg [] (.cons ⟨none, (.s 115 (.mv (.t 26)))⟩ (.cons ⟨none, (.s 116 (.bin .lss (.t 115) (.k (.int .i64 80))))⟩ .nil))) (.cond (.t 116) .skip (.exit 0))) (.seqJ (.block 1 (.seq (.reg [] (.cons ⟨none, (.s 119 (.mv (.t 25)))⟩ (.cons ⟨none, (.s 120 (.mv (.t 26)))⟩ (.cons ⟨none, (.s 121 (.mv (.t 14)))⟩ (.cons ⟨none, (.s 122 (.mv (.t 26)))⟩ (.cons ⟨none, (.s 123 (.is 1 (.t 121) (.t 122)))⟩ (.cons ⟨none, (.r 124 (.ld (.int .u8 0) (.t 123)))⟩ (.cons ⟨none, (.s 125 (.is 1 (.t 119) (.t 120)))⟩ (.cons ⟨none, (.w none (.st (.t 125) (.t 124)))⟩ .nil))))))))) (.seqJ (.seqJ (.reg [] (.cons ⟨none, (.s 126 (.fa 0 (.t 11)))⟩ (.cons ⟨none, (.r 127 (.ld (.int .i64 0) (.t 126)))⟩ (.cons ⟨none, (.s 128 (.bin .eql (.t 127) (.k (.int .i64 0))))⟩ (.cons ⟨none, (.s 129 (.mv (.t 128)))⟩ (.cons ⟨(some (129, true)), (.s 130 (.mv (.t 26)))⟩ (.cons ⟨(some (129, true)), (.s 131 (.fa 1 (.t 11)))⟩ (.cons ⟨(some (129, true)), (.r 132 (.ld (.int .i64 0) (.t 131)))⟩ (.cons ⟨(some (129, true)), (.s 133 (.bin .lss (.t 130) (.t 132)))⟩ (.cons ⟨none, (.s 134 (.pick (.t 129) (.t 133) (.k (.bool false))))⟩ (.cons ⟨none, (.s 135 (.mv (.t 134)))⟩ (.cons ⟨(some (135, false)), (.s 136 (.fa 0 (.t 11)))⟩ (.cons ⟨(some (135, false)), (.r 137 (.ld (.int .i64 0) (.t 136)))⟩ (.cons ⟨(some (135, false)), (.s 138 (.bin .eql (.t 137) (.k (.int .i64 1))))⟩ (.cons ⟨none, (.s 139 (.pick (.t 135) (.k (.bool true)) (.t 138)))⟩ .nil))))))))))))))) (.cond (.t 139) (.reg [] (.cons ⟨none, (.s 140 (.mv (.t 25)))⟩ (.cons ⟨none, (.s 141 (.mv (.t 26)))⟩ (.cons ⟨none, (.s 142 (.is 1 (.t 140) (.t 141)))⟩ (.cons ⟨none, (.w none (.st (.t 142) (.k (.int .u8 255))))⟩ .nil))))) .skip)) (.seqJ (.reg [] (.cons ⟨none, (.s 143 (.fa 0 (.t 11)))⟩ (.cons ⟨none, (.r 144 (.ld (.int .i64 0) (.t 143)))⟩ (.cons ⟨none, (.s 145 (.bin .eql (.t 144) (.k (.int .i64 1))))⟩ (.cons ⟨none, (.s 146 (.mv (.t 145)))⟩ (.cons ⟨(some (146, true)), (.s 147 (.mv (.t 26)))⟩ (.cons ⟨(some (146, true)), (.s 148 (.fa 1 (.t 11)))⟩ (.cons ⟨(some (146, true)), (.r 149 (.ld (.int .i64 0) (.t 148)))⟩ (.cons ⟨(some (146, true)), (.s 150 (.bin .lss (.t 147) (.t 149)))⟩ (.cons ⟨none, (.s 151 (.pick (.t 146) (.t 150) (.k (.bool false))))⟩ .nil)))))))))) (.cond (.t 151) (.reg [] (.cons ⟨none, (.s 152 (.mv (.t 25)))⟩ (.cons ⟨none, (.s 153 (.mv (.t 26)))⟩ (.cons ⟨none, (.s 154 (.mv (.t 16)))⟩ (.cons ⟨none, (.s 155 (.mv (.t 26)))⟩ (.cons ⟨none, (.s 156 (.is 1 (.t 154) (.t 155)))⟩ (.cons ⟨none, (.r 157 (.ld (.int .u8 0) (.t 156)))⟩ (.cons ⟨none, (.s 158 (.is 1 (.t 152) (.t 153)))⟩ (.cons ⟨none, (.w none (.st (.t 158) (.t 157)))⟩ .nil))))))))) .skip))))) (.reg [] (.cons ⟨none, (.s 117 (.mv (.t 26)))⟩ (.cons ⟨none, (.s 118 (.bin .add (.t 117) (.k (.int .i64 1))))⟩ (.cons ⟨none, (.s 26 (.mv (.t 118)))⟩ .nil))))))))) (.seq (.reg [] (.cons ⟨none, (.s 159 (.mv (.t 19)))⟩ (.cons ⟨none, (.s 160 (.mv (.t 2)))⟩ (.cons ⟨none, (.s 161 (.mv (.t 16)))⟩ (.cons ⟨none, (.call (some 162) 9 [(.t 159), (.t 160), (.t 161)])⟩ (.cons ⟨none, (.s 27 (.mv (.t 162)))⟩ .nil)))))) (.seq (.reg [] (.cons ⟨none, (.s 164 (.mv (.t 19)))⟩ (.cons ⟨none, (.s 165 (.mv (.t 2)))⟩ (.cons ⟨none, (.call (some 166) 12 [(.t 164), (.t 165)])⟩ (.cons ⟨none, (.s 163 (.mv (.t 166)))⟩ (.cons ⟨none, (.s 167 (.ext (.t 163) 0))⟩ (.cons ⟨none, (.s 168 (.ext (.t 163) 1))⟩ (.cons ⟨none, (.s 28 (.mv (.t 167)))⟩ (.cons ⟨none, (.s 29 (.mv (.t 168)))⟩ .nil))))))))) (.seqJ (.reg [] (.cons ⟨none, (.s 169 (.mv (.t 21)))⟩ (.cons ⟨none, (.call (some 170) 8 [(.t 169)])⟩ (.cons ⟨none, (.s 171 (.bin .eql (.t 170) (.k (.int .i64 0))))⟩ (.cons ⟨none, (.s 172 (.mv (.t 171)))⟩ (.cons ⟨(some (172, true)), (.s 173 (.mv (.t 22)))⟩ (.cons ⟨(some (172, true)), (.call (some 174) 8 [(.t 173)])⟩ (.cons ⟨(some (172, true)), (.s 175 (.bin .eql (.t 174) (.k (.int .i64 8))))⟩ (.cons ⟨none, (.s 176 (.pick (.t 172) (.t 175) (.k (.bool false))))⟩ (.cons ⟨none, (.s 177 (.mv (.t 176)))⟩ (.cons ⟨(some (177, true)), (.s 178 (.mv (.t 23)))⟩ (.cons ⟨(some (177, true)), (.r 179 (.b2s (.t 178)))⟩ (.cons ⟨(some (177, true)), (.s 180 (.mv (.t 25)))⟩ (.cons ⟨(some (177, true)), (.r 181 (.b2s (.t 180)))⟩ (.cons ⟨(some (177, true)), (.s 182 (.binS .eql (.t 179) (.t 181)))⟩ (.cons ⟨none, (.s 183 (.pick (.t 177) (.t 182) (.k (.bool false))))⟩ (.cons ⟨none, (.s 184 (.mv (.t 183)))⟩ (.cons ⟨(some (184, true)), (.s 185 (.mv (.t 27)))⟩ (.cons ⟨(some (184, true)), (.call (some 186) 8 [(.t 185)])⟩ (.cons ⟨(some (184, true)), (.s 187 (.bin .eql (.t 186) (.k (.int .i64 0))))⟩ (.cons ⟨none, (.s 188 (.pick (.t 184) (.t 187) (.k (.bool false))))⟩ (.cons ⟨none, (.s 189 (.mv (.t 188)))⟩ (.cons ⟨(some (189, true)), (.s 190 (.mv (.t 28)))⟩ (.cons ⟨(some (189, true)), (.r 191 (.b2s (.t 190)))⟩ (.cons ⟨(some (189, true)), (.s 192 (.mv (.t 16)))⟩ (.cons ⟨(some (189, true)), (.r 193 (.b2s (.t 192)))⟩ (.cons ⟨(some (189, true)), (.s 194 (.binS .eql (.t 191) (.t 193)))⟩ (.cons ⟨none, (.s 195 (.pick (.t 189) (.t 194) (.k (.bool false))))⟩ (.cons ⟨none, (.s 196 (.mv (.t 195)))⟩ (.cons ⟨(some (196, true)), (.s 197 (.mv (.t 19)))⟩ (.cons ⟨(some (196, true)), (.r 198 (.lda 32 (.t 6)))⟩ (.cons ⟨(some (196, true)), (.s 199 (.mv (.t 1)))⟩ (.cons ⟨(some (196, true)), (.s 200 (.mv (.t 2)))⟩ (.cons ⟨(some (196, true)), (.call (some 201) 13 [(.t 197), (.t 198), (.t 199), (.t 200)])⟩ (.cons ⟨none, (.s 202 (.pick (.t 196) (.t 201) (.k (.bool false))))⟩ (.cons ⟨none, (.s 12 (.mv (.t 202)))⟩ .nil)))))))))))))))))))))))))))))))))))) .ret)))))))))))))))))), [(.tmp 12)]⟩
theorem low_portcullislaw25_VerityTears : lowF Try.prog Try.f3 = some ir_portcullislaw25_VerityTears.strip := by kernel_rfl
theorem ok_portcullislaw25_VerityTears {fu : Nat} (i0 : Nat) (i1 : Nat) {X0b : Nat} {X0ty : Nat} {X0pr : List C} {X0ps : List C} {X0o : Nat} {X0c : Nat} {X0n : Nat} {X1b : Nat} {X1ty : Nat} {X1pr : List C} {X1ps : List C} {X1o : Nat} {X1c : Nat} {X1n : Nat} {X0fr : Nat × Nat} {X1fr : Nat × Nat} {key_ : List Int} {version_ : Int} {i_ : Int} {old_ : List Int} {plain_ : List Int} {c_0 : Int} {c_1 : Int} (X0l : X0n = old_.length) (X0S : 0 < X0n → X0pr.length = X0o) (X0C : X0n ≤ X0c) (X1l : X1n = plain_.length) (X1S : 0 < X1n → X1pr.length = X1o) (X1C : X1n ≤ X1c) {t9001 : Bool} (h : fn_portcullislaw25_VerityTears fu key_ version_ i_ old_ plain_ c_0 c_1 = some t9001) :
  EV.Fn Try.prog 3 [.g (flat [.i .u8 key_]), ib .i64 version_, ib .i64 i_, .c (.s 0 X0b X0o X0n X0c), .c (.s 1 X1b X1o X1n X1c), .g (flat [.c (.v (.int .i64 c_0)), .c (.v (.int .i64 c_1))])] [] [⟨i0, X0b, X0ty, true, X0fr, (.v undef), flat [.r X0pr, .i .u8 old_, .r X0ps]⟩, ⟨i1, X1b, X1ty, true, X1fr, (.v undef), flat [.r X1pr, .i .u8 plain_, .r X1ps]⟩] (fun v u nw => v = bb t9001 ∧ u = [] ∧ nw = []) := by
 subst X0l
 subst X1l
 have key : EV.Fn Try.prog 3 [.g (flat [.i .u8 key_]), ib .i64 version_, ib .i64 i_, .c (.s 0 X0b X0o old_.length X0c), .c (.s 1 X1b X1o plain_.length X1c), .g (flat [.c (.v (.int .i64 c_0)), .c (.v (.int .i64 c_1))])] [] [⟨0, X0b, X0ty, true, X0fr, (.v undef), flat [.r X0pr, .i .u8 old_, .r X0ps]⟩, ⟨1, X1b, X1ty, true, X1fr, (.v undef), flat [.r X1pr, .i .u8 plain_, .r X1ps]⟩] (fun v u nw => v = bb t9001 ∧ u = [] ∧ nw = []) := by
  unfold fn_portcullislaw25_VerityTears at h
  refine d_fn (i := ir_portcullislaw25_VerityTears) (fn := Try.f3) (sl0 := [(0, .g (flat [.i .u8 key_])), (1, ib .i64 version_), (2, ib .i64 i_), (3, .c (.s 0 X0b X0o old_.length X0c)), (4, .c (.s 1 X1b X1o plain_.length X1c)), (5, .g (flat [.c (.v (.int .i64 c_0)), .c (.v (.int .i64 c_1))]))]) (hp0 := [⟨0, X0b, X0ty, true, X0fr, (.v undef), flat [.r X0pr, .i .u8 old_, .r X0ps]⟩, ⟨1, X1b, X1ty, true, X1fr, (.v undef), flat [.r X1pr, .i .u8 plain_, .r X1ps]⟩]) (by kernel_rfl) low_portcullislaw25_VerityTears mo rfl rfl rfl fun F z0 => ?_
  dsimp only [ir_portcullislaw25_VerityTears]
  refine gd_e h fun Xh_key_ h => ?_
  refine wpC_seq ?_
  refine d_reg rfl ?_
  refine d_box rfl (fun _ => trivial) rfl fun kb1 kz2 => ?_
  refine d_box rfl (fun _ => trivial) rfl fun kb3 kz4 => ?_
  refine wpI_s rfl trivial ?_
  refine wpI_nil ?_
  refine seqK_n ?_
  refine wpC_seq ?_
  refine d_reg rfl ?_
  refine bind_e h fun t7 ho6 h => ?_
  refine d_call (ok_portcullislaw25_alive     (h := ho6)) rfl rfl haveRw_n haveRo_n (own_of rfl) ?_
  rintro _ _ _ kz8 ⟨rfl, rfl, rfl⟩
  refine ⟨_, rfl, trivial, ?_⟩
  refine wpI_s rfl trivial ?_
  refine wpI_nil ?_
  refine seqK_n ?_
  refine wpC_seq ?_
  refine bind_e h fun o11 h hko11 => ?_
  refine d_join (fun (z : Bool × Nat) => (match z with | (t9, kz10) => ⟨[(1, ib .i64 version_), (2, ib .i64 i_), (3, .c (.s 0 X0b X0o old_.length X0c)), (4, .c (.s 1 X1b X1o plain_.length X1c)), (6, .c (.p 100 kb1 0)), (11, .c (.p 101 kb3 0)), (13, bb t7), (68, bb t9)], [⟨0, X0b, X0ty, true, X0fr, (.v undef), flat [.r X0pr, .i .u8 old_, .r X0ps]⟩, ⟨1, X1b, X1ty, true, X1fr, (.v undef), flat [.r X1pr, .i .u8 plain_, .r X1ps]⟩, ⟨100, kb1, 23, false, (0, 0), (.v (.int .u8 0)), flat [.i .u8 key_]⟩, ⟨101, kb3, 26, false, (0, 0), (.v (.int .i64 0)), flat [.c (.v (.int .i64 c_0)), .c (.v (.int .i64 c_1))]⟩], 102, kz10⟩ : St)) (fun (z : Bool × Nat) => match z with | (t9, kz10) => (True) ∧ t9 = o11) ?_ ?_
  ·refine d_reg rfl ?_
   refine wpI_s rfl trivial ?_
   refine d_b rfl trivial h fun t12 h => ?_
   refine wpI_s rfl trivial ?_
   refine d_guard rfl h (fun h => ?_) (fun h => ?_)
   ·refine wpI_s rfl trivial ?_
    refine d_guardT rfl ?_
    refine d_b rfl trivial h fun t13 h => ?_
    refine d_pickF rfl rfl rfl ?_
    refine wpI_s rfl trivial ?_
    refine d_guard rfl h (fun h => ?_) (fun h => ?_)
    ·refine wpI_s rfl trivial ?_
     refine d_guardT rfl ?_
     refine d_b rfl trivial h fun t14 h => ?_
     refine d_pickF rfl rfl rfl ?_
     refine wpI_s rfl trivial ?_
     refine d_guard rfl h (fun h => ?_) (fun h => ?_)
     ·refine wpI_s rfl trivial ?_
      refine d_guardT rfl ?_
      refine d_b rfl trivial h fun t15 h => ?_
      refine d_pickF rfl rfl rfl ?_
      refine wpI_s rfl trivial ?_
      refine d_guard rfl h (fun h => ?_) (fun h => ?_)
      ·refine wpI_s rfl trivial ?_
       refine d_guardT rfl ?_
       refine d_b rfl trivial h fun t16 h => ?_
       refine d_pickF rfl rfl rfl ?_
       refine wpI_s rfl trivial ?_
       refine d_guard rfl h (fun h => ?_) (fun h => ?_)
       ·refine wpI_s rfl trivial ?_
        refine d_guardT rfl ?_
        refine wpI_s rfl trivial ?_
        refine d_guardT rfl ?_
        refine d_b rfl trivial h fun t17 h => ?_
        refine d_pickF rfl rfl rfl ?_
        refine wpI_s rfl trivial ?_
        refine d_guard rfl h (fun h => ?_) (fun h => ?_)
        ·refine wpI_s rfl trivial ?_
         refine d_guardT rfl ?_
         refine wpI_s rfl trivial ?_
         refine d_guardT rfl ?_
         refine d_b rfl trivial h fun t18 h => ?_
         refine d_pickF rfl rfl rfl ?_
         refine wpI_s rfl trivial ?_
         refine d_guard rfl h (fun h => ?_) (fun h => ?_)
         ·refine wpI_s rfl trivial ?_
          refine d_guardT rfl ?_
          refine d_ldc 0 rfl rfl rfl rfl rfl ?_
          refine d_guardT rfl ?_
          refine d_b rfl trivial h fun t19 h => ?_
          refine d_pickF rfl rfl rfl ?_
          refine wpI_s rfl trivial ?_
          refine d_guard rfl h (fun h => ?_) (fun h => ?_)
          ·refine wpI_s rfl trivial ?_
           refine d_guardT rfl ?_
           refine d_ldc 0 rfl rfl rfl rfl rfl ?_
           refine d_guardT rfl ?_
           refine d_b rfl trivial h fun t20 h => ?_
           refine d_pickF rfl rfl rfl ?_
           refine wpI_nil ?_
           refine jnK_n (t20, kz8) [0, 1, 100, 101] ⟨trivial, Option.some.inj h⟩ (leS2_c rfl rfl (leS2_c rfl rfl (leS2_c rfl rfl (leS2_c rfl rfl (leS2_c rfl rfl (leS2_c rfl rfl (leS2_c rfl rfl (leS2_c rfl rfl leS2_n)))))))) (leH2_c rfl rfl rfl rfl rfl rfl (leH2_c rfl rfl rfl rfl rfl rfl (leH2_c rfl rfl rfl rfl rfl rfl (leH2_c rfl rfl rfl rfl rfl rfl leH2_n)))) rfl rfl
          ·refine d_guardF rfl rfl ?_
           refine d_guardF rfl rfl ?_
           refine d_pickT rfl rfl rfl ?_
           refine wpI_nil ?_
           refine jnK_n (true, kz8) [0, 1, 100, 101] ⟨trivial, Option.some.inj h⟩ (leS2_c rfl rfl (leS2_c rfl rfl (leS2_c rfl rfl (leS2_c rfl rfl (leS2_c rfl rfl (leS2_c rfl rfl (leS2_c rfl rfl (leS2_c rfl rfl leS2_n)))))))) (leH2_c rfl rfl rfl rfl rfl rfl (leH2_c rfl rfl rfl rfl rfl rfl (leH2_c rfl rfl rfl rfl rfl rfl (leH2_c rfl rfl rfl rfl rfl rfl leH2_n)))) rfl rfl
         ·refine d_guardF rfl rfl ?_
          refine d_guardF rfl rfl ?_
          refine d_pickT rfl rfl rfl ?_
          refine wpI_s rfl trivial ?_
          refine d_guardF rfl rfl ?_
          refine d_guardF rfl rfl ?_
          refine d_guardF rfl rfl ?_
          refine d_pickT rfl rfl rfl ?_
          refine wpI_nil ?_
          refine jnK_n (true, kz8) [0, 1, 100, 101] ⟨trivial, Option.some.inj h⟩ (leS2_c rfl rfl (leS2_c rfl rfl (leS2_c rfl rfl (leS2_c rfl rfl (leS2_c rfl rfl (leS2_c rfl rfl (leS2_c rfl rfl (leS2_c rfl rfl leS2_n)))))))) (leH2_c rfl rfl rfl rfl rfl rfl (leH2_c rfl rfl rfl rfl rfl rfl (leH2_c rfl rfl rfl rfl rfl rfl (leH2_c rfl rfl rfl rfl rfl rfl leH2_n)))) rfl rfl
        ·refine d_guardF rfl rfl ?_
         refine d_guardF rfl rfl ?_
         refine d_pickT rfl rfl rfl ?_
         refine wpI_s rfl trivial ?_
         refine d_guardF rfl rfl ?_
         refine d_guardF rfl rfl ?_
         refine d_guardF rfl rfl ?_
         refine d_pickT rfl rfl rfl ?_
         refine wpI_s rfl trivial ?_
         refine d_guardF rfl rfl ?_
         refine d_guardF rfl rfl ?_
         refine d_guardF rfl rfl ?_
         refine d_pickT rfl rfl rfl ?_
         refine wpI_nil ?_
         refine jnK_n (true, kz8) [0, 1, 100, 101] ⟨trivial, Option.some.inj h⟩ (leS2_c rfl rfl (leS2_c rfl rfl (leS2_c rfl rfl (leS2_c rfl rfl (leS2_c rfl rfl (leS2_c rfl rfl (leS2_c rfl rfl (leS2_c rfl rfl leS2_n)))))))) (leH2_c rfl rfl rfl rfl rfl rfl (leH2_c rfl rfl rfl rfl rfl rfl (leH2_c rfl rfl rfl rfl rfl rfl (leH2_c rfl rfl rfl rfl rfl rfl leH2_n)))) rfl rfl
       ·refine d_guardF rfl rfl ?_
        refine d_guardF rfl rfl ?_
        refine d_pickT rfl rfl rfl ?_
        refine wpI_s rfl trivial ?_
        refine d_guardF rfl rfl ?_
        refine d_guardF rfl rfl ?_
        refine d_guardF rfl rfl ?_
        refine d_pickT rfl rfl rfl ?_
        refine wpI_s rfl trivial ?_
        refine d_guardF rfl rfl ?_
        refine d_guardF rfl rfl ?_
        refine d_guardF rfl rfl ?_
        refine d_pickT rfl rfl rfl ?_
        refine wpI_s rfl trivial ?_
        refine d_guardF rfl rfl ?_
        refine d_guardF rfl rfl ?_
        refine d_guardF rfl rfl ?_
        refine d_pickT rfl rfl rfl ?_
        refine wpI_nil ?_
        refine jnK_n (true, kz8) [0, 1, 100, 101] ⟨trivial, Option.some.inj h⟩ (leS2_c rfl rfl (leS2_c rfl rfl (leS2_c rfl rfl (leS2_c rfl rfl (leS2_c rfl rfl (leS2_c rfl rfl (leS2_c rfl rfl (leS2_c rfl rfl leS2_n)))))))) (leH2_c rfl rfl rfl rfl rfl rfl (leH2_c rfl rfl rfl rfl rfl rfl (leH2_c rfl rfl rfl rfl rfl rfl (leH2_c rfl rfl rfl rfl rfl rfl leH2_n)))) rfl rfl
      ·refine d_guardF rfl rfl ?_
       refine d_pickT rfl rfl rfl ?_
       refine wpI_s rfl trivial ?_
       refine d_guardF rfl rfl ?_
       refine d_guardF rfl rfl ?_
       refine d_guardF rfl rfl ?_
       refine d_pickT rfl rfl rfl ?_
       refine wpI_s rfl trivial ?_
       refine d_guardF rfl rfl ?_
       refine d_guardF rfl rfl ?_
       refine d_guardF rfl rfl ?_
       refine d_pickT rfl rfl rfl ?_
       refine wpI_s rfl trivial ?_
       refine d_guardF rfl rfl ?_
       refine d_guardF rfl rfl ?_
       refine d_guardF rfl rfl ?_
       refine d_pickT rfl rfl rfl ?_
       refine wpI_s rfl trivial ?_
       refine d_guardF rfl rfl ?_
       refine d_guardF rfl rfl ?_
       refine d_guardF rfl rfl ?_
       refine d_pickT rfl rfl rfl ?_
       refine wpI_nil ?_
       refine jnK_n (true, kz8) [0, 1, 100, 101] ⟨trivial, Option.some.inj h⟩ (leS2_c rfl rfl (leS2_c rfl rfl (leS2_c rfl rfl (leS2_c rfl rfl (leS2_c rfl rfl (leS2_c rfl rfl (leS2_c rfl rfl (leS2_c rfl rfl leS2_n)))))))) (leH2_c rfl rfl rfl rfl rfl rfl (leH2_c rfl rfl rfl rfl rfl rfl (leH2_c rfl rfl rfl rfl rfl rfl (leH2_c rfl rfl rfl rfl rfl rfl leH2_n)))) rfl rfl
     ·refine d_guardF rfl rfl ?_
      refine d_pickT rfl rfl rfl ?_
      refine wpI_s rfl trivial ?_
      refine d_guardF rfl rfl ?_
      refine d_guardF rfl rfl ?_
      refine d_pickT rfl rfl rfl ?_
      refine wpI_s rfl trivial ?_
      refine d_guardF rfl rfl ?_
      refine d_guardF rfl rfl ?_
      refine d_guardF rfl rfl ?_
      refine d_pickT rfl rfl rfl ?_
      refine wpI_s rfl trivial ?_
      refine d_guardF rfl rfl ?_
      refine d_guardF rfl rfl ?_
      refine d_guardF rfl rfl ?_
      refine d_pickT rfl rfl rfl ?_
      refine wpI_s rfl trivial ?_
      refine d_guardF rfl rfl ?_
      refine d_guardF rfl rfl ?_
      refine d_guardF rfl rfl ?_
      refine d_pickT rfl rfl rfl ?_
      refine wpI_s rfl trivial ?_
      refine d_guardF rfl rfl ?_
      refine d_guardF rfl rfl ?_
      refine d_guardF rfl rfl ?_
      refine d_pickT rfl rfl rfl ?_
      refine wpI_nil ?_
      refine jnK_n (true, kz8) [0, 1, 100, 101] ⟨trivial, Option.some.inj h⟩ (leS2_c rfl rfl (leS2_c rfl rfl (leS2_c rfl rfl (leS2_c rfl rfl (leS2_c rfl rfl (leS2_c rfl rfl (leS2_c rfl rfl (leS2_c rfl rfl leS2_n)))))))) (leH2_c rfl rfl rfl rfl rfl rfl (leH2_c rfl rfl rfl rfl rfl rfl (leH2_c rfl rfl rfl rfl rfl rfl (leH2_c rfl rfl rfl rfl rfl rfl leH2_n)))) rfl rfl
    ·refine d_guardF rfl rfl ?_
     refine d_pickT rfl rfl rfl ?_
     refine wpI_s rfl trivial ?_
     refine d_guardF rfl rfl ?_
     refine d_guardF rfl rfl ?_
     refine d_pickT rfl rfl rfl ?_
     refine wpI_s rfl trivial ?_
     refine d_guardF rfl rfl ?_
     refine d_guardF rfl rfl ?_
     refine d_pickT rfl rfl rfl ?_
     refine wpI_s rfl trivial ?_
     refine d_guardF rfl rfl ?_
     refine d_guardF rfl rfl ?_
     refine d_guardF rfl rfl ?_
     refine d_pickT rfl rfl rfl ?_
     refine wpI_s rfl trivial ?_
     refine d_guardF rfl rfl ?_
     refine d_guardF rfl rfl ?_
     refine d_guardF rfl rfl ?_
     refine d_pickT rfl rfl rfl ?_
     refine wpI_s rfl trivial ?_
     refine d_guardF rfl rfl ?_
     refine d_guardF rfl rfl ?_
     refine d_guardF rfl rfl ?_
     refine d_pickT rfl rfl rfl ?_
     refine wpI_s rfl trivial ?_
     refine d_guardF rfl rfl ?_
     refine d_guardF rfl rfl ?_
     refine d_guardF rfl rfl ?_
     refine d_pickT rfl rfl rfl ?_
     refine wpI_nil ?_
     refine jnK_n (true, kz8) [0, 1, 100, 101] ⟨trivial, Option.some.inj h⟩ (leS2_c rfl rfl (leS2_c rfl rfl (leS2_c rfl rfl (leS2_c rfl rfl (leS2_c rfl rfl (leS2_c rfl rfl (leS2_c rfl rfl (leS2_c rfl rfl leS2_n)))))))) (leH2_c rfl rfl rfl rfl rfl rfl (leH2_c rfl rfl rfl rfl rfl rfl (leH2_c rfl rfl rfl rfl rfl rfl (leH2_c rfl rfl rfl rfl rfl rfl leH2_n)))) rfl rfl
   ·refine d_guardF rfl rfl ?_
    refine d_pickT rfl rfl rfl ?_
    refine wpI_s rfl trivial ?_
    refine d_guardF rfl rfl ?_
    refine d_guardF rfl rfl ?_
    refine d_pickT rfl rfl rfl ?_
    refine wpI_s rfl trivial ?_
    refine d_guardF rfl rfl ?_
    refine d_guardF rfl rfl ?_
    refine d_pickT rfl rfl rfl ?_
    refine wpI_s rfl trivial ?_
    refine d_guardF rfl rfl ?_
    refine d_guardF rfl rfl ?_
    refine d_pickT rfl rfl rfl ?_
    refine wpI_s rfl trivial ?_
    refine d_guardF rfl rfl ?_
    refine d_guardF rfl rfl ?_
    refine d_guardF rfl rfl ?_
    refine d_pickT rfl rfl rfl ?_
    refine wpI_s rfl trivial ?_
    refine d_guardF rfl rfl ?_
    refine d_guardF rfl rfl ?_
    refine d_guardF rfl rfl ?_
    refine d_pickT rfl rfl rfl ?_
    refine wpI_s rfl trivial ?_
    refine d_guardF rfl rfl ?_
    refine d_guardF rfl rfl ?_
    refine d_guardF rfl rfl ?_
    refine d_pickT rfl rfl rfl ?_
    refine wpI_s rfl trivial ?_
    refine d_guardF rfl rfl ?_
    refine d_guardF rfl rfl ?_
    refine d_guardF rfl rfl ?_
    refine d_pickT rfl rfl rfl ?_
    refine wpI_nil ?_
    refine jnK_n (true, kz8) [0, 1, 100, 101] ⟨trivial, Option.some.inj h⟩ (leS2_c rfl rfl (leS2_c rfl rfl (leS2_c rfl rfl (leS2_c rfl rfl (leS2_c rfl rfl (leS2_c rfl rfl (leS2_c rfl rfl (leS2_c rfl rfl leS2_n)))))))) (leH2_c rfl rfl rfl rfl rfl rfl (leH2_c rfl rfl rfl rfl rfl rfl (leH2_c rfl rfl rfl rfl rfl rfl (leH2_c rfl rfl rfl rfl rfl rfl leH2_n)))) rfl rfl
  ·rintro ⟨t9, kz10⟩ ⟨_, rfl⟩
   show wpC _ _ _ _ _ (St.mk _ _ _ _)
   have h := hko11; clear hko11; try dsimp only at h
   refine d_cond rfl h (fun h => ?_) (fun h => ?_)
   ·refine wpC_seq ?_
    refine d_reg rfl ?_
    refine wpI_s rfl trivial ?_
    refine wpI_s rfl trivial ?_
    refine wpI_nil ?_
    refine seqK_n ?_
    refine wpC_ret ?_
    refine seqK_r ?_
    obtain rfl := Option.some.inj h
    exact d_ret2 [] [] ⟨rfl, rfl, rfl⟩ (rIs_t rfl rfl) leH2_n leH2_n rfl
   ·refine wpC_skip ?_
    refine seqK_n ?_
    refine wpC_seq ?_
    refine d_reg rfl ?_
    refine d_lda 0 1 rfl rfl rfl rfl (by simp only [flen, Xh_key_]) ?_
    refine wpI_s rfl trivial ?_
    refine wpI_s rfl trivial ?_
    refine wpI_s rfl trivial ?_
    refine bind_e h fun o21 ho22 h => ?_
    rcases o21 with _ | l23
    ·cases h
    ·try dsimp only at h
     refine d_call (ok_portcullisref16_SealBlock (i0 := 0) (n0 := 1001) (X0b := X0b) (X0ty := X0ty) (X0pr := X0pr) (X0ps := X0ps) (X0o := X0o) (X0c := X0c) (X0n := old_.length) (X0l := rfl) (X0S := X0S) (X0C := X0C) (h := ho22)) rfl rfl haveRw_n (haveRo_c rfl rfl haveRo_n) (own_of rfl) ?_
     rintro _ _ _ kz33 ⟨k24, k25, k26, k27, k28, k29, rfl, rfl, rfl, h30, h31, h32⟩
     refine ⟨_, rfl, trivial, ?_⟩
     refine wpI_s rfl trivial ?_
     refine wpI_s rfl trivial ?_
     refine wpI_s rfl trivial ?_
     refine wpI_s rfl trivial ?_
     refine wpI_s rfl trivial ?_
     refine wpI_nil ?_
     refine seqK_n ?_
     refine wpC_seq ?_
     refine d_reg rfl ?_
     refine d_lda 0 1 rfl rfl rfl rfl (by simp only [flen, Xh_key_]) ?_
     refine wpI_s rfl trivial ?_
     refine wpI_s rfl trivial ?_
     refine wpI_s rfl trivial ?_
     refine bind_e h fun o34 ho35 h => ?_
     rcases o34 with _ | l36
     ·cases h
     ·try dsimp only at h
      refine d_call (ok_portcullisref16_SealBlock (i0 := 1) (n0 := 1002) (X0b := X1b) (X0ty := X1ty) (X0pr := X1pr) (X0ps := X1ps) (X0o := X1o) (X0c := X1c) (X0n := plain_.length) (X0l := rfl) (X0S := X1S) (X0C := X1C) (h := ho35)) rfl rfl haveRw_n (haveRo_c rfl rfl haveRo_n) (own_of rfl) ?_
      rintro _ _ _ kz46 ⟨k37, k38, k39, k40, k41, k42, rfl, rfl, rfl, h43, h44, h45⟩
      refine ⟨_, rfl, trivial, ?_⟩
      refine wpI_s rfl trivial ?_
      refine wpI_s rfl trivial ?_
      refine wpI_s rfl trivial ?_
      refine wpI_s rfl trivial ?_
      refine wpI_s rfl trivial ?_
      refine wpI_nil ?_
      refine seqK_n ?_
      refine wpC_seq ?_
      refine d_reg rfl ?_
      refine bind_e h fun o47 ho48 h => ?_
      rcases o47 with _ | l49
      ·cases h
      ·try dsimp only at h
       refine d_call (ok_flash_New  (n0 := 1003) (n1 := 1004)   (h := ho48)) rfl rfl haveRw_n haveRo_n (own_of rfl) ?_
       rintro _ _ _ kz57 ⟨k50, k51, k52, k53, k54, rfl, rfl, rfl, h55, h56⟩
       refine ⟨_, rfl, trivial, ?_⟩
       refine wpI_s rfl trivial ?_
       refine wpI_nil ?_
       refine seqK_n ?_
       refine wpC_seq ?_
       refine d_reg rfl ?_
       refine wpI_s rfl trivial ?_
       refine bind_e h fun o58 ho59 h => ?_
       rcases o58 with _ | x60
       ·cases h
       ·try dsimp only at h
        refine d_call (ok_verity_New (i0 := 1003) (i1 := 1004) (n0 := 1005) (X0b := k50) (X0ty := 51) (X1b := k51) (X1ty := 5) (X1pr := []) (X1ps := k52) (X1o := k53) (X1c := k54) (X1n := l49.length) (X1l := rfl) (X1S := h55) (X1C := h56) (h := ho59)) rfl rfl haveRw_n (haveRo_c rfl rfl (haveRo_c rfl rfl haveRo_n)) (own_of rfl) ?_
        rintro _ _ _ kz62 ⟨k61, rfl, rfl, rfl⟩
        refine ⟨_, rfl, trivial, ?_⟩
        refine wpI_s rfl trivial ?_
        refine wpI_s rfl trivial ?_
        refine wpI_s rfl trivial ?_
        refine wpI_s rfl trivial ?_
        refine wpI_s rfl trivial ?_
        refine wpI_nil ?_
        refine seqK_n ?_
        refine wpC_seq ?_
        refine wpC_seq ?_
        refine d_reg rfl ?_
        refine wpI_s rfl trivial ?_
        refine bind_e h fun o63 ho64 h => ?_
        refine d_call (ok_portcullislaw25_num     (h := ho64)) rfl rfl haveRw_n haveRo_n (own_of rfl) ?_
        rintro _ _ _ kz65 ⟨rfl, rfl, rfl⟩
        refine ⟨_, rfl, trivial, ?_⟩
        refine d_bf (w := false) rfl trivial (by decide) ?_
        refine wpI_nil ?_
        refine seqK_n ?_
        refine wpC_condF rfl ?_
        refine wpC_skip ?_
        refine seqK_n ?_
        refine wpC_seq ?_
        refine d_reg rfl ?_
        refine wpI_s rfl trivial ?_
        refine wpI_s rfl trivial ?_
        refine wpI_s rfl trivial ?_
        refine bind_e h fun o66 ho67 h => ?_
        obtain ⟨l68, x69, x70, t71, x72, x73, x74⟩ := o66
        try dsimp only at h
        refine d_call (ok_verity_Area_Write (i0 := 1005) (i1 := 1003) (i2 := 1004) (i3 := 1001)  (X0b := k61) (X0ty := 54) (X1b := k50) (X1ty := 51) (X2b := k51) (X2ty := 5) (X2pr := []) (X2ps := k52) (X2o := k53) (X2c := k54) (X2n := l49.length) (X3b := k24) (X3ty := k25) (X3pr := k26) (X3ps := k27) (X3o := k28) (X3c := k29) (X3n := l23.length) (X2l := rfl) (X2S := h55) (X2C := h56) (X3l := rfl) (X3S := (fun _ => h30)) (X3C := h32) (h := ho67)) rfl rfl (haveRw_c rfl (haveRw_c rfl haveRw_n)) (haveRo_c rfl rfl (haveRo_c rfl rfl haveRo_n)) (own_of rfl) ?_
        rintro _ _ _ kz76 ⟨rfl, rfl, rfl, h75⟩
        refine ⟨_, rfl, trivial, ?_⟩
        refine gd_e h fun g77 h => ?_
        refine wpI_s rfl trivial ?_
        refine wpI_nil ?_
        refine seqK_n ?_
        refine wpC_seq ?_
        refine d_reg rfl ?_
        refine wpI_s rfl trivial ?_
        refine d_lda 0 2 rfl rfl rfl rfl rfl ?_
        refine bind_e h fun x80 ho79 h => ?_
        refine d_call (ok_flash_Flash_Plan (i0 := 1003) (i1 := 1004)  (X0b := k50) (X0ty := 51) (X1b := k51) (X1ty := 5) (X1pr := []) (X1ps := k52) (X1o := k53) (X1c := k54) (X1n := l49.length) (X1l := (g77).symm) (X1S := h55) (X1C := h56) (h := ho79)) rfl rfl (haveRw_c rfl haveRw_n) (haveRo_c rfl rfl haveRo_n) (own_of rfl) ?_
        rintro _ _ _ kz81 ⟨rfl, rfl, rfl⟩
        refine ⟨_, rfl, trivial, ?_⟩
        refine wpI_nil ?_
        refine seqK_n ?_
        refine wpC_seq ?_
        refine d_reg rfl ?_
        refine wpI_s rfl trivial ?_
        refine wpI_s rfl trivial ?_
        refine wpI_s rfl trivial ?_
        refine bind_e h fun o82 ho83 h => ?_
        obtain ⟨l84, x85, x86, t87, x88, x89, x90⟩ := o82
        try dsimp only at h
        refine d_call (ok_verity_Area_Write (i0 := 1005) (i1 := 1003) (i2 := 1004) (i3 := 1002)  (X0b := k61) (X0ty := 54) (X1b := k50) (X1ty := 51) (X2b := k51) (X2ty := 5) (X2pr := []) (X2ps := k52) (X2o := k53) (X2c := k54) (X2n := l49.length) (X3b := k37) (X3ty := k38) (X3pr := k39) (X3ps := k40) (X3o := k41) (X3c := k42) (X3n := l36.length) (X2l := (g77).symm) (X2S := h55) (X2C := h56) (X3l := rfl) (X3S := (fun _ => h43)) (X3C := h45) (h := ho83)) rfl rfl (haveRw_c rfl (haveRw_c rfl haveRw_n)) (haveRo_c rfl rfl (haveRo_c rfl rfl haveRo_n)) (own_of rfl) ?_
        rintro _ _ _ kz92 ⟨rfl, rfl, rfl, h91⟩
        refine ⟨_, rfl, trivial, ?_⟩
        refine gd_e h fun g93 h => ?_
        refine wpI_s rfl trivial ?_
        refine wpI_nil ?_
        refine seqK_n ?_
        refine wpC_seq ?_
        refine d_reg rfl ?_
        refine wpI_s rfl trivial ?_
        refine bind_e h fun o94 ho95 h => ?_
        refine d_call (ok_flash_Flash_Start (i0 := 1003) (i1 := 1004)  (X0b := k50) (X0ty := 51) (X1b := k51) (X1ty := 5) (X1pr := []) (X1ps := k52) (X1o := k53) (X1c := k54) (X1n := l49.length) (X1l := (g93).symm) (X1S := h55) (X1C := h56) (h := ho95)) rfl rfl (haveRw_c rfl haveRw_n) (haveRo_c rfl rfl haveRo_n) (own_of rfl) ?_
        rintro _ _ _ kz96 ⟨rfl, rfl, rfl⟩
        refine ⟨_, rfl, trivial, ?_⟩
        refine wpI_nil ?_
        refine seqK_n ?_
        refine wpC_seq ?_
        refine d_reg rfl ?_
        refine wpI_s rfl trivial ?_
        refine wpI_s rfl trivial ?_
        refine bind_e h fun o97 ho98 h => ?_
        rcases o97 with _ | l99
        ·cases h
        ·try dsimp only at h
         refine d_call (ok_verity_Area_Raw (i0 := 1005) (i1 := 1003) (i2 := 1004) (n0 := 1006) (X0b := k61) (X0ty := 54) (X1b := k50) (X1ty := 51) (X2b := k51) (X2ty := 5) (X2pr := []) (X2ps := k52) (X2o := k53) (X2c := k54) (X2n := l49.length) (X2l := (g93).symm) (X2S := h55) (X2C := h56) (h := ho98)) rfl rfl haveRw_n (haveRo_c rfl rfl (haveRo_c rfl rfl (haveRo_c rfl rfl haveRo_n))) (own_of rfl) ?_
         rintro _ _ _ kz109 ⟨k100, k101, k102, k103, k104, k105, rfl, rfl, rfl, h106, h107, h108⟩
         refine ⟨_, rfl, trivial, ?_⟩
         refine wpI_s rfl trivial ?_
         refine wpI_s rfl trivial ?_
         refine wpI_s rfl trivial ?_
         refine wpI_s rfl trivial ?_
         refine wpI_s rfl trivial ?_
         refine wpI_nil ?_
         refine seqK_n ?_
         refine wpC_seq ?_
         refine d_reg rfl ?_
         refine d_mksw rfl rfl (by decide) (fun _ => trivial) fun kb110 kz111 => ?_
         refine wpI_s rfl trivial ?_
         refine wpI_nil ?_
         refine seqK_n ?_
         refine wpC_seq ?_
         refine wpC_seq ?_
         refine d_reg rfl ?_
         refine wpI_s rfl trivial ?_
         refine wpI_nil ?_
         refine seqK_n ?_
         refine wpC_block ?_
         refine bind_e h fun o119 h hko119 => ?_
         refine d_loop (fun (z : List Int × Int × Nat) => match z with | (l112, x114, kz115) => (l112, x114)) (fun (z : List Int × Int × Nat) => (match z with | (l112, x114, kz115) => ⟨[(1, ib .i64 version_), (2, ib .i64 i_), (6, .c (.p 100 kb1 0)), (11, .c (.p 101 kb3 0)), (14, .c (.s 1001 k24 k28 l23.length k29)), (16, .c (.s 1002 k37 k41 l36.length k42)), (19, .c (.p 1005 k61 0)), (21, ib .i64 x74), (22, ib .i64 x90), (23, .c (.s 1006 k100 k104 l99.length k105)), (25, .c (.s 102 kb110 0 80 80)), (26, ib .i64 x114)], [⟨100, kb1, 23, false, (0, 0), (.v (.int .u8 0)), flat [.i .u8 key_]⟩, ⟨101, kb3, 26, false, (0, 0), (.v (.int .i64 0)), flat [.c (.v (.int .i64 c_0)), .c (.v (.int .i64 c_1))]⟩, ⟨1001, k24, k25, false, (0, 0), (.v (.int .u8 0)), flat [.r k26, .i .u8 l23, .r k27]⟩, ⟨1002, k37, k38, false, (0, 0), (.v (.int .u8 0)), flat [.r k39, .i .u8 l36, .r k40]⟩, ⟨1005, k61, 54, false, (0, 0), (.v (.pointer none)), flat [.c (.p 1003 k50 0), .c (.v (.int .i64 x60))]⟩, ⟨1003, k50, 51, false, (0, 0), (.v (.slice none 0 0)), flat [.c (.s 1004 k51 k53 l49.length k54), .c (.v (.int .i64 (-1))), .c (.v (.int .i64 0)), .c (.v (.bool false)), .c (.v (.int .i64 x88)), .c (.v (.int .i64 x89))]⟩, ⟨1004, k51, 5, false, (0, 0), (.v undef), flat [.r [], .i .u8 l84, .r k52]⟩, ⟨1006, k100, k101, false, (0, 0), (.v (.int .u8 0)), flat [.r k102, .i .u8 l99, .r k103]⟩, ⟨102, kb110, 5, false, (0, 0), (.v (.int .u8 0)), flat [.r [], .i .u8 l112, .r []]⟩], 103, kz115⟩ : St)) (fun (z : List Int × Int × Nat) => match z with | (l112, x114, kz115) => (l112.length = 80)) ((List.replicate 80 0), 0, kz111) [100, 101, 1001, 1002, 1005, 1003, 1004, 1006, 102] h List.length_replicate (leS2_c rfl rfl (leS2_c rfl rfl (leS2_c rfl rfl (leS2_c rfl rfl (leS2_c rfl rfl (leS2_c rfl rfl (leS2_c rfl rfl (leS2_c rfl rfl (leS2_c rfl rfl (leS2_c rfl rfl (leS2_c rfl rfl (leS2_c rfl rfl leS2_n)))))))))))) (leH2_c rfl rfl rfl rfl rfl rfl (leH2_c rfl rfl rfl rfl rfl rfl (leH2_c rfl rfl rfl rfl rfl rfl (leH2_c rfl rfl rfl rfl rfl rfl (leH2_c rfl rfl rfl rfl rfl rfl (leH2_c rfl rfl rfl rfl rfl rfl (leH2_c rfl rfl rfl rfl rfl rfl (leH2_c rfl rfl rfl rfl rfl rfl (leH2_c rfl rfl rfl rfl rfl rfl leH2_n))))))))) rfl rfl ?_
         rintro rec ⟨l112, x114, kz115⟩ h113 h
         show wpC _ _ _ _ _ (St.mk _ _ _ _)
         unfold fn_portcullislaw25_VerityTears_l1 at h; try dsimp only at h
         refine wpC_seq ?_
         refine wpC_seq ?_
         refine d_reg rfl ?_
         refine wpI_s rfl trivial ?_
         refine d_b rfl trivial h fun t120 h => ?_
         refine wpI_nil ?_
         refine seqK_n ?_
         refine d_cond rfl h (fun h => ?_) (fun h => ?_)
         ·refine wpC_skip ?_
          refine seqK_n ?_
          refine bind_e h fun o124 h hko124 => ?_
          refine d_join (fun (z : List Int × Nat) => (match z with | (l121, kz123) => ⟨[(1, ib .i64 version_), (2, ib .i64 i_), (6, .c (.p 100 kb1 0)), (11, .c (.p 101 kb3 0)), (14, .c (.s 1001 k24 k28 l23.length k29)), (16, .c (.s 1002 k37 k41 l36.length k42)), (19, .c (.p 1005 k61 0)), (21, ib .i64 x74), (22, ib .i64 x90), (23, .c (.s 1006 k100 k104 l99.length k105)), (25, .c (.s 102 kb110 0 80 80)), (26, ib .i64 x114)], [⟨100, kb1, 23, false, (0, 0), (.v (.int .u8 0)), flat [.i .u8 key_]⟩, ⟨101, kb3, 26, false, (0, 0), (.v (.int .i64 0)), flat [.c (.v (.int .i64 c_0)), .c (.v (.int .i64 c_1))]⟩, ⟨1001, k24, k25, false, (0, 0), (.v (.int .u8 0)), flat [.r k26, .i .u8 l23, .r k27]⟩, ⟨1002, k37, k38, false, (0, 0), (.v (.int .u8 0)), flat [.r k39, .i .u8 l36, .r k40]⟩, ⟨1005, k61, 54, false, (0, 0), (.v (.pointer none)), flat [.c (.p 1003 k50 0), .c (.v (.int .i64 x60))]⟩, ⟨1003, k50, 51, false, (0, 0), (.v (.slice none 0 0)), flat [.c (.s 1004 k51 k53 l49.length k54), .c (.v (.int .i64 (-1))), .c (.v (.int .i64 0)), .c (.v (.bool false)), .c (.v (.int .i64 x88)), .c (.v (.int .i64 x89))]⟩, ⟨1004, k51, 5, false, (0, 0), (.v undef), flat [.r [], .i .u8 l84, .r k52]⟩, ⟨1006, k100, k101, false, (0, 0), (.v (.int .u8 0)), flat [.r k102, .i .u8 l99, .r k103]⟩, ⟨102, kb110, 5, false, (0, 0), (.v (.int .u8 0)), flat [.r [], .i .u8 l121, .r []]⟩], 103, kz123⟩ : St)) (fun (z : List Int × Nat) => match z with | (l121, kz123) => ((l121.length = 80)) ∧ l121 = o124) ?_ ?_
          ·refine wpC_block ?_
           refine wpC_seq ?_
           refine d_reg rfl ?_
           refine wpI_s rfl trivial ?_
           refine wpI_s rfl trivial ?_
           refine wpI_s rfl trivial ?_
           refine wpI_s rfl trivial ?_
           refine gd_e h fun g125 h => ?_
           refine wpI_s rfl g125 ?_
           refine d_ld 1 (q := x114.toNat) rfl rfl rfl h (sl_offP0 (i := x114) rfl (fun _ => h30) g125) fun x126 h => ?_
           refine gd_e h fun g127 h => ?_
           refine wpI_s rfl g127 ?_
           refine d_st 1 (q := x114.toNat) rfl rfl rfl rfl h (sl_offP0 (i := x114) rfl (fun _ => rfl) g127) (fun _ => rfl) (fun _ => rfl) (fun _ => trivial) fun l128 h129 h => ?_
           refine wpI_nil ?_
           refine seqK_n ?_
           refine bind_e h fun o133 h hko133 => ?_
           refine d_join (fun (z : List Int × Nat) => (match z with | (l130, kz132) => ⟨[(1, ib .i64 version_), (2, ib .i64 i_), (6, .c (.p 100 kb1 0)), (11, .c (.p 101 kb3 0)), (14, .c (.s 1001 k24 k28 l23.length k29)), (16, .c (.s 1002 k37 k41 l36.length k42)), (19, .c (.p 1005 k61 0)), (21, ib .i64 x74), (22, ib .i64 x90), (23, .c (.s 1006 k100 k104 l99.length k105)), (25, .c (.s 102 kb110 0 80 80)), (26, ib .i64 x114)], [⟨100, kb1, 23, false, (0, 0), (.v (.int .u8 0)), flat [.i .u8 key_]⟩, ⟨101, kb3, 26, false, (0, 0), (.v (.int .i64 0)), flat [.c (.v (.int .i64 c_0)), .c (.v (.int .i64 c_1))]⟩, ⟨1001, k24, k25, false, (0, 0), (.v (.int .u8 0)), flat [.r k26, .i .u8 l23, .r k27]⟩, ⟨1002, k37, k38, false, (0, 0), (.v (.int .u8 0)), flat [.r k39, .i .u8 l36, .r k40]⟩, ⟨1005, k61, 54, false, (0, 0), (.v (.pointer none)), flat [.c (.p 1003 k50 0), .c (.v (.int .i64 x60))]⟩, ⟨1003, k50, 51, false, (0, 0), (.v (.slice none 0 0)), flat [.c (.s 1004 k51 k53 l49.length k54), .c (.v (.int .i64 (-1))), .c (.v (.int .i64 0)), .c (.v (.bool false)), .c (.v (.int .i64 x88)), .c (.v (.int .i64 x89))]⟩, ⟨1004, k51, 5, false, (0, 0), (.v undef), flat [.r [], .i .u8 l84, .r k52]⟩, ⟨1006, k100, k101, false, (0, 0), (.v (.int .u8 0)), flat [.r k102, .i .u8 l99, .r k103]⟩, ⟨102, kb110, 5, false, (0, 0), (.v (.int .u8 0)), flat [.r [], .i .u8 l130, .r []]⟩], 103, kz132⟩ : St)) (fun (z : List Int × Nat) => match z with | (l130, kz132) => ((l130.length = 80)) ∧ l130 = o133) ?_ ?_
           ·refine bind_e h fun o136 h hko136 => ?_
            refine d_join (fun (z : Bool × Nat) => (match z with | (t134, kz135) => ⟨[(1, ib .i64 version_), (2, ib .i64 i_), (6, .c (.p 100 kb1 0)), (11, .c (.p 101 kb3 0)), (14, .c (.s 1001 k24 k28 l23.length k29)), (16, .c (.s 1002 k37 k41 l36.length k42)), (19, .c (.p 1005 k61 0)), (21, ib .i64 x74), (22, ib .i64 x90), (23, .c (.s 1006 k100 k104 l99.length k105)), (25, .c (.s 102 kb110 0 80 80)), (26, ib .i64 x114), (139, bb t134)], [⟨100, kb1, 23, false, (0, 0), (.v (.int .u8 0)), flat [.i .u8 key_]⟩, ⟨101, kb3, 26, false, (0, 0), (.v (.int .i64 0)), flat [.c (.v (.int .i64 c_0)), .c (.v (.int .i64 c_1))]⟩, ⟨1001, k24, k25, false, (0, 0), (.v (.int .u8 0)), flat [.r k26, .i .u8 l23, .r k27]⟩, ⟨1002, k37, k38, false, (0, 0), (.v (.int .u8 0)), flat [.r k39, .i .u8 l36, .r k40]⟩, ⟨1005, k61, 54, false, (0, 0), (.v (.pointer none)), flat [.c (.p 1003 k50 0), .c (.v (.int .i64 x60))]⟩, ⟨1003, k50, 51, false, (0, 0), (.v (.slice none 0 0)), flat [.c (.s 1004 k51 k53 l49.length k54), .c (.v (.int .i64 (-1))), .c (.v (.int .i64 0)), .c (.v (.bool false)), .c (.v (.int .i64 x88)), .c (.v (.int .i64 x89))]⟩, ⟨1004, k51, 5, false, (0, 0), (.v undef), flat [.r [], .i .u8 l84, .r k52]⟩, ⟨1006, k100, k101, false, (0, 0), (.v (.int .u8 0)), flat [.r k102, .i .u8 l99, .r k103]⟩, ⟨102, kb110, 5, false, (0, 0), (.v (.int .u8 0)), flat [.r [], .i .u8 l128, .r []]⟩], 103, kz135⟩ : St)) (fun (z : Bool × Nat) => match z with | (t134, kz135) => (True) ∧ t134 = o136) ?_ ?_
            ·refine d_reg rfl ?_
             refine wpI_s rfl trivial ?_
             refine d_ldc 0 rfl rfl rfl rfl rfl ?_
             refine d_b rfl trivial h fun t137 h => ?_
             refine wpI_s rfl trivial ?_
             refine d_guard rfl h (fun h => ?_) (fun h => ?_)
             ·refine wpI_s rfl trivial ?_
              refine d_guardT rfl ?_
              refine wpI_s rfl trivial ?_
              refine d_guardT rfl ?_
              refine d_ldc 1 rfl rfl rfl rfl rfl ?_
              refine d_guardT rfl ?_
              refine d_b rfl trivial h fun t138 h => ?_
              refine d_pickT rfl rfl rfl ?_
              refine wpI_s rfl trivial ?_
              refine d_guard rfl h (fun h => ?_) (fun h => ?_)
              ·refine wpI_s rfl trivial ?_
               refine d_guardT rfl ?_
               refine d_ldc 0 rfl rfl rfl rfl rfl ?_
               refine d_guardT rfl ?_
               refine d_b rfl trivial h fun t139 h => ?_
               refine d_pickF rfl rfl rfl ?_
               refine wpI_nil ?_
               refine jnK_n (t139, kz115) [100, 101, 1001, 1002, 1005, 1003, 1004, 1006, 102] ⟨trivial, Option.some.inj h⟩ (leS2_c rfl rfl (leS2_c rfl rfl (leS2_c rfl rfl (leS2_c rfl rfl (leS2_c rfl rfl (leS2_c rfl rfl (leS2_c rfl rfl (leS2_c rfl rfl (leS2_c rfl rfl (leS2_c rfl rfl (leS2_c rfl rfl (leS2_c rfl rfl (leS2_c rfl rfl leS2_n))))))))))))) (leH2_c rfl rfl rfl rfl rfl rfl (leH2_c rfl rfl rfl rfl rfl rfl (leH2_c rfl rfl rfl rfl rfl rfl (leH2_c rfl rfl rfl rfl rfl rfl (leH2_c rfl rfl rfl rfl rfl rfl (leH2_c rfl rfl rfl rfl rfl rfl (leH2_c rfl rfl rfl rfl rfl rfl (leH2_c rfl rfl rfl rfl rfl rfl (leH2_c rfl rfl rfl rfl rfl rfl leH2_n))))))))) rfl rfl
              ·refine d_guardF rfl rfl ?_
               refine d_guardF rfl rfl ?_
               refine d_pickT rfl rfl rfl ?_
               refine wpI_nil ?_
               refine jnK_n (true, kz115) [100, 101, 1001, 1002, 1005, 1003, 1004, 1006, 102] ⟨trivial, Option.some.inj h⟩ (leS2_c rfl rfl (leS2_c rfl rfl (leS2_c rfl rfl (leS2_c rfl rfl (leS2_c rfl rfl (leS2_c rfl rfl (leS2_c rfl rfl (leS2_c rfl rfl (leS2_c rfl rfl (leS2_c rfl rfl (leS2_c rfl rfl (leS2_c rfl rfl (leS2_c rfl rfl leS2_n))))))))))))) (leH2_c rfl rfl rfl rfl rfl rfl (leH2_c rfl rfl rfl rfl rfl rfl (leH2_c rfl rfl rfl rfl rfl rfl (leH2_c rfl rfl rfl rfl rfl rfl (leH2_c rfl rfl rfl rfl rfl rfl (leH2_c rfl rfl rfl rfl rfl rfl (leH2_c rfl rfl rfl rfl rfl rfl (leH2_c rfl rfl rfl rfl rfl rfl (leH2_c rfl rfl rfl rfl rfl rfl leH2_n))))))))) rfl rfl
             ·refine d_guardF rfl rfl ?_
              refine d_guardF rfl rfl ?_
              refine d_guardF rfl rfl ?_
              refine d_pickF rfl rfl rfl ?_
              refine wpI_s rfl trivial ?_
              refine d_guardT rfl ?_
              refine wpI_s rfl trivial ?_
              refine d_guardT rfl ?_
              refine d_ldc 0 rfl rfl rfl rfl rfl ?_
              refine d_guardT rfl ?_
              refine d_b rfl trivial h fun t140 h => ?_
              refine d_pickF rfl rfl rfl ?_
              refine wpI_nil ?_
              refine jnK_n (t140, kz115) [100, 101, 1001, 1002, 1005, 1003, 1004, 1006, 102] ⟨trivial, Option.some.inj h⟩ (leS2_c rfl rfl (leS2_c rfl rfl (leS2_c rfl rfl (leS2_c rfl rfl (leS2_c rfl rfl (leS2_c rfl rfl (leS2_c rfl rfl (leS2_c rfl rfl (leS2_c rfl rfl (leS2_c rfl rfl (leS2_c rfl rfl (leS2_c rfl rfl (leS2_c rfl rfl leS2_n))))))))))))) (leH2_c rfl rfl rfl rfl rfl rfl (leH2_c rfl rfl rfl rfl rfl rfl (leH2_c rfl rfl rfl rfl rfl rfl (leH2_c rfl rfl rfl rfl rfl rfl (leH2_c rfl rfl rfl rfl rfl rfl (leH2_c rfl rfl rfl rfl rfl rfl (leH2_c rfl rfl rfl rfl rfl rfl (leH2_c rfl rfl rfl rfl rfl rfl (leH2_c rfl rfl rfl rfl rfl rfl leH2_n))))))))) rfl rfl
            ·rintro ⟨t134, kz135⟩ ⟨_, rfl⟩
             show wpC _ _ _ _ _ (St.mk _ _ _ _)
             have h := hko136; clear hko136; try dsimp only at h
             refine d_cond rfl h (fun h => ?_) (fun h => ?_)
             ·refine d_reg rfl ?_
              refine wpI_s rfl trivial ?_
              refine wpI_s rfl trivial ?_
              refine gd_e h fun g141 h => ?_
              refine wpI_s rfl g141 ?_
              refine d_st 1 (q := x114.toNat) rfl rfl rfl rfl h (sl_offP0 (i := x114) rfl (fun _ => rfl) g141) (fun _ => rfl) (fun _ => rfl) (fun _ => trivial) fun l142 h143 h => ?_
              refine wpI_nil ?_
              refine jnK_n (l142, kz135) [100, 101, 1001, 1002, 1005, 1003, 1004, 1006, 102] ⟨(h143.trans (h129.trans h113)), Option.some.inj h⟩ (leS2_c rfl rfl (leS2_c rfl rfl (leS2_c rfl rfl (leS2_c rfl rfl (leS2_c rfl rfl (leS2_c rfl rfl (leS2_c rfl rfl (leS2_c rfl rfl (leS2_c rfl rfl (leS2_c rfl rfl (leS2_c rfl rfl (leS2_c rfl rfl leS2_n)))))))))))) (leH2_c rfl rfl rfl rfl rfl rfl (leH2_c rfl rfl rfl rfl rfl rfl (leH2_c rfl rfl rfl rfl rfl rfl (leH2_c rfl rfl rfl rfl rfl rfl (leH2_c rfl rfl rfl rfl rfl rfl (leH2_c rfl rfl rfl rfl rfl rfl (leH2_c rfl rfl rfl rfl rfl rfl (leH2_c rfl rfl rfl rfl rfl rfl (leH2_c rfl rfl rfl rfl rfl rfl leH2_n))))))))) rfl rfl
             ·refine wpC_skip ?_
              refine jnK_n (l128, kz135) [100, 101, 1001, 1002, 1005, 1003, 1004, 1006, 102] ⟨(h129.trans h113), Option.some.inj h⟩ (leS2_c rfl rfl (leS2_c rfl rfl (leS2_c rfl rfl (leS2_c rfl rfl (leS2_c rfl rfl (leS2_c rfl rfl (leS2_c rfl rfl (leS2_c rfl rfl (leS2_c rfl rfl (leS2_c rfl rfl (leS2_c rfl rfl (leS2_c rfl rfl leS2_n)))))))))))) (leH2_c rfl rfl rfl rfl rfl rfl (leH2_c rfl rfl rfl rfl rfl rfl (leH2_c rfl rfl rfl rfl rfl rfl (leH2_c rfl rfl rfl rfl rfl rfl (leH2_c rfl rfl rfl rfl rfl rfl (leH2_c rfl rfl rfl rfl rfl rfl (leH2_c rfl rfl rfl rfl rfl rfl (leH2_c rfl rfl rfl rfl rfl rfl (leH2_c rfl rfl rfl rfl rfl rfl leH2_n))))))))) rfl rfl
           ·rintro ⟨l130, kz132⟩ ⟨h131, rfl⟩
            show wpC _ _ _ _ _ (St.mk _ _ _ _)
            have h := hko133; clear hko133; try dsimp only at h
            refine bind_e h fun o146 h hko146 => ?_
            refine d_join (fun (z : Bool × Nat) => (match z with | (t144, kz145) => ⟨[(1, ib .i64 version_), (2, ib .i64 i_), (6, .c (.p 100 kb1 0)), (11, .c (.p 101 kb3 0)), (14, .c (.s 1001 k24 k28 l23.length k29)), (16, .c (.s 1002 k37 k41 l36.length k42)), (19, .c (.p 1005 k61 0)), (21, ib .i64 x74), (22, ib .i64 x90), (23, .c (.s 1006 k100 k104 l99.length k105)), (25, .c (.s 102 kb110 0 80 80)), (26, ib .i64 x114), (151, bb t144)], [⟨100, kb1, 23, false, (0, 0), (.v (.int .u8 0)), flat [.i .u8 key_]⟩, ⟨101, kb3, 26, false, (0, 0), (.v (.int .i64 0)), flat [.c (.v (.int .i64 c_0)), .c (.v (.int .i64 c_1))]⟩, ⟨1001, k24, k25, false, (0, 0), (.v (.int .u8 0)), flat [.r k26, .i .u8 l23, .r k27]⟩, ⟨1002, k37, k38, false, (0, 0), (.v (.int .u8 0)), flat [.r k39, .i .u8 l36, .r k40]⟩, ⟨1005, k61, 54, false, (0, 0), (.v (.pointer none)), flat [.c (.p 1003 k50 0), .c (.v (.int .i64 x60))]⟩, ⟨1003, k50, 51, false, (0, 0), (.v (.slice none 0 0)), flat [.c (.s 1004 k51 k53 l49.length k54), .c (.v (.int .i64 (-1))), .c (.v (.int .i64 0)), .c (.v (.bool false)), .c (.v (.int .i64 x88)), .c (.v (.int .i64 x89))]⟩, ⟨1004, k51, 5, false, (0, 0), (.v undef), flat [.r [], .i .u8 l84, .r k52]⟩, ⟨1006, k100, k101, false, (0, 0), (.v (.int .u8 0)), flat [.r k102, .i .u8 l99, .r k103]⟩, ⟨102, kb110, 5, false, (0, 0), (.v (.int .u8 0)), flat [.r [], .i .u8 l130, .r []]⟩], 103, kz145⟩ : St)) (fun (z : Bool × Nat) => match z with | (t144, kz145) => (True) ∧ t144 = o146) ?_ ?_
            ·refine d_reg rfl ?_
             refine wpI_s rfl trivial ?_
             refine d_ldc 0 rfl rfl rfl rfl rfl ?_
             refine d_b rfl trivial h fun t147 h => ?_
             refine wpI_s rfl trivial ?_
             refine d_guard rfl h (fun h => ?_) (fun h => ?_)
             ·refine wpI_s rfl trivial ?_
              refine d_guardT rfl ?_
              refine wpI_s rfl trivial ?_
              refine d_guardT rfl ?_
              refine d_ldc 1 rfl rfl rfl rfl rfl ?_
              refine d_guardT rfl ?_
              refine d_b rfl trivial h fun t148 h => ?_
              refine d_pickT rfl rfl rfl ?_
              refine wpI_nil ?_
              refine jnK_n (t148, kz132) [100, 101, 1001, 1002, 1005, 1003, 1004, 1006, 102] ⟨trivial, Option.some.inj h⟩ (leS2_c rfl rfl (leS2_c rfl rfl (leS2_c rfl rfl (leS2_c rfl rfl (leS2_c rfl rfl (leS2_c rfl rfl (leS2_c rfl rfl (leS2_c rfl rfl (leS2_c rfl rfl (leS2_c rfl rfl (leS2_c rfl rfl (leS2_c rfl rfl (leS2_c rfl rfl leS2_n))))))))))))) (leH2_c rfl rfl rfl rfl rfl rfl (leH2_c rfl rfl rfl rfl rfl rfl (leH2_c rfl rfl rfl rfl rfl rfl (leH2_c rfl rfl rfl rfl rfl rfl (leH2_c rfl rfl rfl rfl rfl rfl (leH2_c rfl rfl rfl rfl rfl rfl (leH2_c rfl rfl rfl rfl rfl rfl (leH2_c rfl rfl rfl rfl rfl rfl (leH2_c rfl rfl rfl rfl rfl rfl leH2_n))))))))) rfl rfl
             ·refine d_guardF rfl rfl ?_
              refine d_guardF rfl rfl ?_
              refine d_guardF rfl rfl ?_
              refine d_pickF rfl rfl rfl ?_
              refine wpI_nil ?_
              refine jnK_n (false, kz132) [100, 101, 1001, 1002, 1005, 1003, 1004, 1006, 102] ⟨trivial, Option.some.inj h⟩ (leS2_c rfl rfl (leS2_c rfl rfl (leS2_c rfl rfl (leS2_c rfl rfl (leS2_c rfl rfl (leS2_c rfl rfl (leS2_c rfl rfl (leS2_c rfl rfl (leS2_c rfl rfl (leS2_c rfl rfl (leS2_c rfl rfl (leS2_c rfl rfl (leS2_c rfl rfl leS2_n))))))))))))) (leH2_c rfl rfl rfl rfl rfl rfl (leH2_c rfl rfl rfl rfl rfl rfl (leH2_c rfl rfl rfl rfl rfl rfl (leH2_c rfl rfl rfl rfl rfl rfl (leH2_c rfl rfl rfl rfl rfl rfl (leH2_c rfl rfl rfl rfl rfl rfl (leH2_c rfl rfl rfl rfl rfl rfl (leH2_c rfl rfl rfl rfl rfl rfl (leH2_c rfl rfl rfl rfl rfl rfl leH2_n))))))))) rfl rfl
            ·rintro ⟨t144, kz145⟩ ⟨_, rfl⟩
             show wpC _ _ _ _ _ (St.mk _ _ _ _)
             have h := hko146; clear hko146; try dsimp only at h
             refine d_cond rfl h (fun h => ?_) (fun h => ?_)
             ·refine d_reg rfl ?_
              refine wpI_s rfl trivial ?_
              refine wpI_s rfl trivial ?_
              refine wpI_s rfl trivial ?_
              refine wpI_s rfl trivial ?_
              refine gd_e h fun g149 h => ?_
              refine wpI_s rfl g149 ?_
              refine d_ld 1 (q := x114.toNat) rfl rfl rfl h (sl_offP0 (i := x114) rfl (fun _ => h43) g149) fun x150 h => ?_
              refine gd_e h fun g151 h => ?_
              refine wpI_s rfl g151 ?_
              refine d_st 1 (q := x114.toNat) rfl rfl rfl rfl h (sl_offP0 (i := x114) rfl (fun _ => rfl) g151) (fun _ => rfl) (fun _ => rfl) (fun _ => trivial) fun l152 h153 h => ?_
              refine wpI_nil ?_
              refine blockK_n ?_
              refine jnK_n (l152, kz145) [100, 101, 1001, 1002, 1005, 1003, 1004, 1006, 102] ⟨(h153.trans h131), Option.some.inj h⟩ (leS2_c rfl rfl (leS2_c rfl rfl (leS2_c rfl rfl (leS2_c rfl rfl (leS2_c rfl rfl (leS2_c rfl rfl (leS2_c rfl rfl (leS2_c rfl rfl (leS2_c rfl rfl (leS2_c rfl rfl (leS2_c rfl rfl (leS2_c rfl rfl leS2_n)))))))))))) (leH2_c rfl rfl rfl rfl rfl rfl (leH2_c rfl rfl rfl rfl rfl rfl (leH2_c rfl rfl rfl rfl rfl rfl (leH2_c rfl rfl rfl rfl rfl rfl (leH2_c rfl rfl rfl rfl rfl rfl (leH2_c rfl rfl rfl rfl rfl rfl (leH2_c rfl rfl rfl rfl rfl rfl (leH2_c rfl rfl rfl rfl rfl rfl (leH2_c rfl rfl rfl rfl rfl rfl leH2_n))))))))) rfl rfl
             ·refine wpC_skip ?_
              refine blockK_n ?_
              refine jnK_n (l130, kz145) [100, 101, 1001, 1002, 1005, 1003, 1004, 1006, 102] ⟨h131, Option.some.inj h⟩ (leS2_c rfl rfl (leS2_c rfl rfl (leS2_c rfl rfl (leS2_c rfl rfl (leS2_c rfl rfl (leS2_c rfl rfl (leS2_c rfl rfl (leS2_c rfl rfl (leS2_c rfl rfl (leS2_c rfl rfl (leS2_c rfl rfl (leS2_c rfl rfl leS2_n)))))))))))) (leH2_c rfl rfl rfl rfl rfl rfl (leH2_c rfl rfl rfl rfl rfl rfl (leH2_c rfl rfl rfl rfl rfl rfl (leH2_c rfl rfl rfl rfl rfl rfl (leH2_c rfl rfl rfl rfl rfl rfl (leH2_c rfl rfl rfl rfl rfl rfl (leH2_c rfl rfl rfl rfl rfl rfl (leH2_c rfl rfl rfl rfl rfl rfl (leH2_c rfl rfl rfl rfl rfl rfl leH2_n))))))))) rfl rfl
          ·rintro ⟨l121, kz123⟩ ⟨h122, rfl⟩
           show wpC _ _ _ _ _ (St.mk _ _ _ _)
           have h := hko124; clear hko124; try dsimp only at h
           refine d_reg rfl ?_
           refine wpI_s rfl trivial ?_
           refine d_n rfl trivial h fun x154 h => ?_
           refine wpI_s rfl trivial ?_
           refine wpI_nil ?_
           refine lpK_n (l121, x154, kz123) [100, 101, 1001, 1002, 1005, 1003, 1004, 1006, 102] h122 h (leS2_c rfl rfl (leS2_c rfl rfl (leS2_c rfl rfl (leS2_c rfl rfl (leS2_c rfl rfl (leS2_c rfl rfl (leS2_c rfl rfl (leS2_c rfl rfl (leS2_c rfl rfl (leS2_c rfl rfl (leS2_c rfl rfl (leS2_c rfl rfl leS2_n)))))))))))) (leH2_c rfl rfl rfl rfl rfl rfl (leH2_c rfl rfl rfl rfl rfl rfl (leH2_c rfl rfl rfl rfl rfl rfl (leH2_c rfl rfl rfl rfl rfl rfl (leH2_c rfl rfl rfl rfl rfl rfl (leH2_c rfl rfl rfl rfl rfl rfl (leH2_c rfl rfl rfl rfl rfl rfl (leH2_c rfl rfl rfl rfl rfl rfl (leH2_c rfl rfl rfl rfl rfl rfl leH2_n))))))))) rfl rfl
         ·refine wpC_exit ?_
          refine seqK_x ?_
          obtain rfl := Option.some.inj h
          have h := hko119; clear hko119; try dsimp only at h
          refine lpK_x ?_
          refine blockK_x ?_
          refine seqK_n ?_
          refine wpC_seq ?_
          refine d_reg rfl ?_
          refine wpI_s rfl trivial ?_
          refine wpI_s rfl trivial ?_
          refine wpI_s rfl trivial ?_
          refine bind_e h fun o155 ho156 h => ?_
          obtain ⟨l157, x158, x159, t160, x161, x162, x163⟩ := o155
          try dsimp only at h
          refine d_call (ok_verity_Area_Write (i0 := 1005) (i1 := 1003) (i2 := 1004) (i3 := 1002)  (X0b := k61) (X0ty := 54) (X1b := k50) (X1ty := 51) (X2b := k51) (X2ty := 5) (X2pr := []) (X2ps := k52) (X2o := k53) (X2c := k54) (X2n := l49.length) (X3b := k37) (X3ty := k38) (X3pr := k39) (X3ps := k40) (X3o := k41) (X3c := k42) (X3n := l36.length) (X2l := (g93).symm) (X2S := h55) (X2C := h56) (X3l := rfl) (X3S := (fun _ => h43)) (X3C := h45) (h := ho156)) rfl rfl (haveRw_c rfl (haveRw_c rfl haveRw_n)) (haveRo_c rfl rfl (haveRo_c rfl rfl haveRo_n)) (own_of rfl) ?_
          rintro _ _ _ kz165 ⟨rfl, rfl, rfl, h164⟩
          refine ⟨_, rfl, trivial, ?_⟩
          refine gd_e h fun g166 h => ?_
          refine wpI_s rfl trivial ?_
          refine wpI_nil ?_
          refine seqK_n ?_
          refine wpC_seq ?_
          refine d_reg rfl ?_
          refine wpI_s rfl trivial ?_
          refine wpI_s rfl trivial ?_
          refine bind_e h fun o167 ho168 h => ?_
          rcases o167 with _ | l169
          ·cases h
          ·try dsimp only at h
           refine d_call (ok_verity_Area_Raw (i0 := 1005) (i1 := 1003) (i2 := 1004) (n0 := 1007) (X0b := k61) (X0ty := 54) (X1b := k50) (X1ty := 51) (X2b := k51) (X2ty := 5) (X2pr := []) (X2ps := k52) (X2o := k53) (X2c := k54) (X2n := l49.length) (X2l := (g166).symm) (X2S := h55) (X2C := h56) (h := ho168)) rfl rfl haveRw_n (haveRo_c rfl rfl (haveRo_c rfl rfl (haveRo_c rfl rfl haveRo_n))) (own_of rfl) ?_
           rintro _ _ _ kz179 ⟨k170, k171, k172, k173, k174, k175, rfl, rfl, rfl, h176, h177, h178⟩
           refine ⟨_, rfl, trivial, ?_⟩
           refine wpI_s rfl trivial ?_
           refine wpI_s rfl trivial ?_
           refine wpI_s rfl trivial ?_
           refine wpI_s rfl trivial ?_
           refine wpI_s rfl trivial ?_
           refine wpI_nil ?_
           refine seqK_n ?_
           refine bind_e h fun o182 h hko182 => ?_
           refine d_join (fun (z : Bool × Nat) => (match z with | (t180, kz181) => ⟨[(12, bb t180)], [], 103, kz181⟩ : St)) (fun (z : Bool × Nat) => match z with | (t180, kz181) => (True) ∧ t180 = o182) ?_ ?_
           ·refine d_reg rfl ?_
            refine wpI_s rfl trivial ?_
            refine bind_e h fun o183 ho184 h => ?_
            refine d_call (ok_portcullislaw25_num_2     (h := ho184)) rfl rfl haveRw_n haveRo_n (own_of rfl) ?_
            rintro _ _ _ kz185 ⟨rfl, rfl, rfl⟩
            refine ⟨_, rfl, trivial, ?_⟩
            refine d_b rfl trivial h fun t186 h => ?_
            refine wpI_s rfl trivial ?_
            refine d_guard rfl h (fun h => ?_) (fun h => ?_)
            ·refine wpI_s rfl trivial ?_
             refine d_guardT rfl ?_
             refine bind_e h fun o187 ho188 h => ?_
             refine d_call (ok_portcullislaw25_num_2     (h := ho188)) rfl rfl haveRw_n haveRo_n (own_of rfl) ?_
             rintro _ _ _ kz189 ⟨rfl, rfl, rfl⟩
             refine ⟨_, rfl, trivial, ?_⟩
             refine d_guardT rfl ?_
             refine d_b rfl trivial h fun t190 h => ?_
             refine d_pickT rfl rfl rfl ?_
             refine wpI_s rfl trivial ?_
             refine d_guard rfl h (fun h => ?_) (fun h => ?_)
             ·refine wpI_s rfl trivial ?_
              refine d_guardT rfl ?_
              refine d_b2s 1 (p := k102.length) (q0 := 0) rfl rfl rfl rfl (hs_zero (fun _ => h106)) (by rw [Nat.zero_add]; exact (Nat.le_refl _)) h fun s191 h => ?_
              refine d_guardT rfl ?_
              refine wpI_s rfl trivial ?_
              refine d_guardT rfl ?_
              refine d_b2s 1 (p := 0) (q0 := 0) rfl rfl rfl rfl (hs_zero (fun _ => rfl)) (by rw [h113]; first | exact (Nat.le_refl _) | (rw [Nat.zero_add]; exact (Nat.le_refl _))) h fun s192 h => ?_
              refine d_guardT rfl ?_
              refine d_b rfl trivial h fun t193 h => ?_
              refine d_pickT rfl rfl rfl ?_
              refine wpI_s rfl trivial ?_
              refine d_guard rfl h (fun h => ?_) (fun h => ?_)
              ·refine wpI_s rfl trivial ?_
               refine d_guardT rfl ?_
               refine bind_e h fun o194 ho195 h => ?_
               refine d_call (ok_portcullislaw25_num_2     (h := ho195)) rfl rfl haveRw_n haveRo_n (own_of rfl) ?_
               rintro _ _ _ kz196 ⟨rfl, rfl, rfl⟩
               refine ⟨_, rfl, trivial, ?_⟩
               refine d_guardT rfl ?_
               refine d_b rfl trivial h fun t197 h => ?_
               refine d_pickT rfl rfl rfl ?_
               refine wpI_s rfl trivial ?_
               refine d_guard rfl h (fun h => ?_) (fun h => ?_)
               ·refine wpI_s rfl trivial ?_
                refine d_guardT rfl ?_
                refine d_b2s 1 (p := k172.length) (q0 := 0) rfl rfl rfl rfl (hs_zero (fun _ => h176)) (by rw [Nat.zero_add]; exact (Nat.le_refl _)) h fun s198 h => ?_
                refine d_guardT rfl ?_
                refine wpI_s rfl trivial ?_
                refine d_guardT rfl ?_
                refine d_b2s 1 (p := k39.length) (q0 := 0) rfl rfl rfl rfl (hs_zero (fun _ => h43)) (by rw [Nat.zero_add]; exact (Nat.le_refl _)) h fun s199 h => ?_
                refine d_guardT rfl ?_
                refine d_b rfl trivial h fun t200 h => ?_
                refine d_pickT rfl rfl rfl ?_
                refine wpI_s rfl trivial ?_
                refine d_guard rfl h (fun h => ?_) (fun h => ?_)
                ·refine wpI_s rfl trivial ?_
                 refine d_guardT rfl ?_
                 refine d_lda 0 1 rfl rfl rfl rfl (by simp only [flen, Xh_key_]) ?_
                 refine d_guardT rfl ?_
                 refine wpI_s rfl trivial ?_
                 refine d_guardT rfl ?_
                 refine wpI_s rfl trivial ?_
                 refine d_guardT rfl ?_
                 refine bind_e h fun t203 ho202 h => ?_
                 refine d_call (ok_verity_Area_Has (i0 := 1005) (i1 := 1003) (i2 := 1004)  (X0b := k61) (X0ty := 54) (X1b := k50) (X1ty := 51) (X2b := k51) (X2ty := 5) (X2pr := []) (X2ps := k52) (X2o := k53) (X2c := k54) (X2n := l49.length) (X2l := (g166).symm) (X2S := h55) (X2C := h56) (h := ho202)) rfl rfl haveRw_n (haveRo_c rfl rfl (haveRo_c rfl rfl (haveRo_c rfl rfl haveRo_n))) (own_of rfl) ?_
                 rintro _ _ _ kz204 ⟨rfl, rfl, rfl⟩
                 refine ⟨_, rfl, trivial, ?_⟩
                 refine d_pickT rfl rfl rfl ?_
                 refine wpI_s rfl trivial ?_
                 refine wpI_nil ?_
                 refine jnK_n (t203, kz204) [] ⟨trivial, Option.some.inj h⟩ (leS2_c rfl rfl leS2_n) leH2_n rfl rfl
                ·refine d_guardF rfl rfl ?_
                 refine d_guardF rfl rfl ?_
                 refine d_guardF rfl rfl ?_
                 refine d_guardF rfl rfl ?_
                 refine d_pickF rfl rfl rfl ?_
                 refine wpI_s rfl trivial ?_
                 refine wpI_nil ?_
                 refine jnK_n (false, kz196) [] ⟨trivial, Option.some.inj h⟩ (leS2_c rfl rfl leS2_n) leH2_n rfl rfl
               ·refine d_guardF rfl rfl ?_
                refine d_guardF rfl rfl ?_
                refine d_guardF rfl rfl ?_
                refine d_guardF rfl rfl ?_
                refine d_pickF rfl rfl rfl ?_
                refine wpI_s rfl trivial ?_
                refine d_guardF rfl rfl ?_
                refine d_guardF rfl rfl ?_
                refine d_guardF rfl rfl ?_
                refine d_guardF rfl rfl ?_
                refine d_guardF rfl rfl ?_
                refine d_pickF rfl rfl rfl ?_
                refine wpI_s rfl trivial ?_
                refine wpI_nil ?_
                refine jnK_n (false, kz196) [] ⟨trivial, Option.some.inj h⟩ (leS2_c rfl rfl leS2_n) leH2_n rfl rfl
              ·refine d_guardF rfl rfl ?_
               refine d_guardF rfl rfl ?_
               refine d_pickF rfl rfl rfl ?_
               refine wpI_s rfl trivial ?_
               refine d_guardF rfl rfl ?_
               refine d_guardF rfl rfl ?_
               refine d_guardF rfl rfl ?_
               refine d_guardF rfl rfl ?_
               refine d_guardF rfl rfl ?_
               refine d_pickF rfl rfl rfl ?_
               refine wpI_s rfl trivial ?_
               refine d_guardF rfl rfl ?_
               refine d_guardF rfl rfl ?_
               refine d_guardF rfl rfl ?_
               refine d_guardF rfl rfl ?_
               refine d_guardF rfl rfl ?_
               refine d_pickF rfl rfl rfl ?_
               refine wpI_s rfl trivial ?_
               refine wpI_nil ?_
               refine jnK_n (false, kz189) [] ⟨trivial, Option.some.inj h⟩ (leS2_c rfl rfl leS2_n) leH2_n rfl rfl
             ·refine d_guardF rfl rfl ?_
              refine d_guardF rfl rfl ?_
              refine d_guardF rfl rfl ?_
              refine d_guardF rfl rfl ?_
              refine d_pickF rfl rfl rfl ?_
              refine wpI_s rfl trivial ?_
              refine d_guardF rfl rfl ?_
              refine d_guardF rfl rfl ?_
              refine d_guardF rfl rfl ?_
              refine d_pickF rfl rfl rfl ?_
              refine wpI_s rfl trivial ?_
              refine d_guardF rfl rfl ?_
              refine d_guardF rfl rfl ?_
              refine d_guardF rfl rfl ?_
              refine d_guardF rfl rfl ?_
              refine d_guardF rfl rfl ?_
              refine d_pickF rfl rfl rfl ?_
              refine wpI_s rfl trivial ?_
              refine d_guardF rfl rfl ?_
              refine d_guardF rfl rfl ?_
              refine d_guardF rfl rfl ?_
              refine d_guardF rfl rfl ?_
              refine d_guardF rfl rfl ?_
              refine d_pickF rfl rfl rfl ?_
              refine wpI_s rfl trivial ?_
              refine wpI_nil ?_
              refine jnK_n (false, kz189) [] ⟨trivial, Option.some.inj h⟩ (leS2_c rfl rfl leS2_n) leH2_n rfl rfl
            ·refine d_guardF rfl rfl ?_
             refine d_guardF rfl rfl ?_
             refine d_pickF rfl rfl rfl ?_
             refine wpI_s rfl trivial ?_
             refine d_guardF rfl rfl ?_
             refine d_guardF rfl rfl ?_
             refine d_guardF rfl rfl ?_
             refine d_guardF rfl rfl ?_
             refine d_guardF rfl rfl ?_
             refine d_pickF rfl rfl rfl ?_
             refine wpI_s rfl trivial ?_
             refine d_guardF rfl rfl ?_
             refine d_guardF rfl rfl ?_
             refine d_guardF rfl rfl ?_
             refine d_pickF rfl rfl rfl ?_
             refine wpI_s rfl trivial ?_
             refine d_guardF rfl rfl ?_
             refine d_guardF rfl rfl ?_
             refine d_guardF rfl rfl ?_
             refine d_guardF rfl rfl ?_
             refine d_guardF rfl rfl ?_
             refine d_pickF rfl rfl rfl ?_
             refine wpI_s rfl trivial ?_
             refine d_guardF rfl rfl ?_
             refine d_guardF rfl rfl ?_
             refine d_guardF rfl rfl ?_
             refine d_guardF rfl rfl ?_
             refine d_guardF rfl rfl ?_
             refine d_pickF rfl rfl rfl ?_
             refine wpI_s rfl trivial ?_
             refine wpI_nil ?_
             refine jnK_n (false, kz185) [] ⟨trivial, Option.some.inj h⟩ (leS2_c rfl rfl leS2_n) leH2_n rfl rfl
           ·rintro ⟨t180, kz181⟩ ⟨_, rfl⟩
            show wpC _ _ _ _ _ (St.mk _ _ _ _)
            have h := hko182; clear hko182; try dsimp only at h
            refine wpC_ret ?_
            obtain rfl := Option.some.inj h
            exact d_ret2 [] [] ⟨rfl, rfl, rfl⟩ (rIs_t rfl rfl) leH2_n leH2_n rfl
 exact key.cong rfl blkEq_n (blkEq_c rfl rfl rfl rfl (blkEq_c rfl rfl rfl rfl blkEq_n))

def ir_portcullislaw25_VerityTears_2 : IFn := ⟨203, (.seq (.reg [] (.cons ⟨none, (.w (some 6) (.box 23 32 (.int .u8 0) (.t 0)))⟩ (.cons ⟨none, (.w (some 11) (.box 26 2 (.int .i64 0) (.t 5)))⟩ (.cons ⟨none, (.s 12 (.mv (.k (.bool false))))⟩ .nil)))) (.seq (.reg [] (.cons ⟨none, (.call (some 30) 4 [])⟩ (.cons ⟨none, (.s 13 (.mv (.t 30)))⟩ .nil))) (.seq (.seqJ (.reg [] (.cons ⟨none, (.s 31 (.mv (.t 13)))⟩ (.cons ⟨none, (.s 32 (.un .not (.t 31)))⟩ (.cons ⟨none, (.s 33 (.mv (.t 32)))⟩ (.cons ⟨(some (33, false)), (.s 34 (.mv (.t 1)))⟩ (.cons ⟨(some (33, false)), (.s 35 (.bin .lss (.t 34) (.k (.int .i64 0))))⟩ (.cons ⟨none, (.s 36 (.pick (.t 33) (.k (.bool true)) (.t 35)))⟩ (.cons ⟨none, (.s 37 (.mv (.t 36)))⟩ (.cons ⟨(some (37, false)), (.s 38 (.mv (.t 1)))⟩ (.cons ⟨(some (37, false)), (.s 39 (.bin .gtr (.t 38) (.k (.int .i64 1073741824))))⟩ (.cons ⟨none, (.s 40 (.pick (.t 37) (.k (.bool true)) (.t 39)))⟩ (.cons ⟨none, (.s 41 (.mv (.t 40)))⟩ (.cons ⟨(some (41, false)), (.s 42 (.mv (.t 2)))⟩ (.cons ⟨(some (41, false)), (.s 43 (.bin .lss (.t 42) (.k (.int .i64 0))))⟩ (.cons ⟨none, (.s 44 (.pick (.t 41) (.k (.bool true)) (.t 43)))⟩ (.cons ⟨none, (.s 45 (.mv (.t 44)))⟩ (.cons ⟨(some (45, false)), (.s 46 (.mv (.t 2)))⟩ (.cons ⟨(some (45, false)), (.s 47 (.bin .gtr (.t 46) (.k (.int .i64 31))))⟩ (.cons ⟨none, (.s 48 (.pick (.t 45) (.k (.bool true)) (.t 47)))⟩ (.cons ⟨none, (.s 49 (.mv (.t 48)))⟩ (.cons ⟨(some (49, false)), (.s 50 (.mv (.t 3)))⟩ (.cons ⟨(some (49, false)), (.s 51 (.len (.t 50)))⟩ (.cons ⟨(some (49, false)), (.s 52 (.bin .neq (.t 51) (.k (.int .i64 64))))⟩ (.cons ⟨none, (.s 53 (.pick (.t 49) (.k (.bool true)) (.t 52)))⟩ (.cons ⟨none, (.s 54 (.mv (.t 53)))⟩ (.cons ⟨(some (54, false)), (.s 55 (.mv (.t 4)))⟩ (.cons ⟨(some (54, false)), (.s 56 (.len (.t 55)))⟩ (.cons ⟨(some (54, false)), (.s 57 (.bin .neq (.t 56) (.k (.int .i64 64))))⟩ (.cons ⟨none, (.s 58 (.pick (.t 54) (.k (.bool true)) (.t 57)))⟩ (.cons ⟨none, (.s 59 (.mv (.t 58)))⟩ (.cons ⟨(some (59, false)), (.s 60 (.fa 0 (.t 11)))⟩ (.cons ⟨(some (59, false)), (.r 61 (.ld (.int .i64 0) (.t 60)))⟩ (.cons ⟨(some (59, false)), (.s 62 (.bin .lss (.t 61) (.k (.int .i64 0))))⟩ (.cons ⟨none, (.s 63 (.pick (.t 59) (.k (.bool true)) (.t 62)))⟩ (.cons ⟨none, (.s 64 (.mv (.t 63)))⟩ (.cons ⟨(some (64, false)), (.s 65 (.fa 0 (.t 11)))⟩ (.cons ⟨(some (64, false)), (.r 66 (.ld (.int .i64 0) (.t 65)))⟩ (.cons ⟨(some (64, false)), (.s 67 (.bin .gtr (.t 66) (.k (.int .i64 1))))⟩ (.cons ⟨none, (.s 68 (.pick (.t 64) (.k (.bool true)) (.t 67)))⟩ .nil))))))))))))))))))))))))))))))))))))))) (.cond (.t 68) (.seq (.reg [] (.cons ⟨none, (.s 69 (.mv (.t 13)))⟩ (.cons ⟨none, (.s 12 (.mv (.t 69)))⟩ .nil))) .ret) .skip)) (.seq (.reg [] (.cons ⟨none, (.r 71 (.lda 32 (.t 6)))⟩ (.cons ⟨none, (.s 72 (.mv (.t 1)))⟩ (.cons ⟨none, (.s 73 (.mv (.t 2)))⟩ (.cons ⟨none, (.s 74 (.mv (.t 3)))⟩ (.cons ⟨none, (.call (some 75) 5 [(.t 71), (.t 72), (.t 73), (.t 74)])⟩ (.cons ⟨none, (.s 70 (.mv (.t 75)))⟩ (.cons ⟨none, (.s 76 (.ext (.t 70) 0))⟩ (.cons ⟨none, (.s 77 (.ext (.t 70) 1))⟩ (.cons ⟨none, (.s 14 (.mv (.t 76)))⟩ (.cons ⟨none, (.s 15 (.mv (.t 77)))⟩ .nil))))))))))) (.seq (.reg [] (.cons ⟨none, (.r 79 (.lda 32 (.t 6)))⟩ (.cons ⟨none, (.s 80 (.mv (.t 1)))⟩ (.cons ⟨none, (.s 81 (.mv (.t 2)))⟩ (.cons ⟨none, (.s 82 (.mv (.t 4)))⟩ (.cons ⟨none, (.call (some 83) 5 [(.t 79), (.t 80), (.t 81), (.t 82)])⟩ (.cons ⟨none, (.s 78 (.mv (.t 83)))⟩ (.cons ⟨none, (.s 84 (.ext (.t 78) 0))⟩ (.cons ⟨none, (.s 85 (.ext (.t 78) 1))⟩ (.cons ⟨none, (.s 16 (.mv (.t 84)))⟩ (.cons ⟨none, (.s 17 (.mv (.t 85)))⟩ .nil))))))))))) (.seq (.reg [] (.cons ⟨none, (.call (some 86) 6 [(.k (.int .i64 128))])⟩ (.cons ⟨none, (.s 18 (.mv (.t 86)))⟩ .nil))) (.seq (.reg [] (.cons ⟨none, (.s 88 (.mv (.t 18)))⟩ (.cons ⟨none, (.call (some 89) 7 [(.t 88), (.k (.int .i64 1))])⟩ (.cons ⟨none, (.s 87 (.mv (.t 89)))⟩ (.cons ⟨none, (.s 90 (.ext (.t 87) 0))⟩ (.cons ⟨none, (.s 91 (.ext (.t 87) 1))⟩ (.cons ⟨none, (.s 19 (.mv (.t 90)))⟩ (.cons ⟨none, (.s 20 (.mv (.t 91)))⟩ .nil)))))))) (.seq (.seq (.reg [] (.cons ⟨none, (.s 92 (.mv (.t 20)))⟩ (.cons ⟨none, (.call (some 93) 8 [(.t 92)])⟩ (.cons ⟨none, (.s 94 (.bin .neq (.t 93) (.k (.int .i64 0))))⟩ .nil)))) (.cond (.t 94) (.seq (.reg [] (.cons ⟨none, (.s 12 (.mv (.k (.bool false))))⟩ .nil)) .ret) .skip)) (.seq (.reg [] (.cons ⟨none, (.s 95 (.mv (.t 19)))⟩ (.cons ⟨none, (.s 96 (.mv (.t 2)))⟩ (.cons ⟨none, (.s 97 (.mv (.t 14)))⟩ (.cons ⟨none, (.call (some 98) 9 [(.t 95), (.t 96), (.t 97)])⟩ (.cons ⟨none, (.s 21 (.mv (.t 98)))⟩ .nil)))))) (.seq (.reg [] (.cons ⟨none, (.s 99 (.mv (.t 18)))⟩ (.cons ⟨none, (.r 100 (.lda 2 (.t 11)))⟩ (.cons ⟨none, (.call (some 101) 10 [(.t 99), (.t 100)])⟩ .nil)))) (.seq (.reg [] (.cons ⟨none, (.s 102 (.mv (.t 19)))⟩ (.cons ⟨none, (.s 103 (.mv (.t 2)))⟩ (.cons ⟨none, (.s 104 (.mv (.t 16)))⟩ (.cons ⟨none, (.call (some 105) 9 [(.t 102), (.t 103), (.t 104)])⟩ (.cons ⟨none, (.s 22 (.mv (.t 105)))⟩ .nil)))))) (.seq (.reg [] (.cons ⟨none, (.s 106 (.mv (.t 18)))⟩ (.cons ⟨none, (.call (some 107) 11 [(.t 106)])⟩ .nil))) (.seq (.reg [] (.cons ⟨none, (.s 109 (.mv (.t 19)))⟩ (.cons ⟨none, (.s 110 (.mv (.t 2)))⟩ (.cons ⟨none, (.call (some 111) 12 [(.t 109), (.t 110)])⟩ (.cons ⟨none, (.s 108 (.mv (.t 111)))⟩ (.cons ⟨none, (.s 112 (.ext (.t 108) 0))⟩ (.cons ⟨none, (.s 113 (.ext (.t 108) 1))⟩ (.cons ⟨none, (.s 23 (.mv (.t 112)))⟩ (.cons ⟨none, (.s 24 (.mv (.t 113)))⟩ .nil))))))))) (.seq (.reg [] (.cons ⟨none, (.w (some 114) (.mks 5 1 (.int .u8 0) (.k (.int .i64 80)) (.k (.int .i64 80))))⟩ (.cons ⟨none, (.s 25 (.mv (.t 114)))⟩ .nil))) (.seq (.seq (.reg [] (.cons ⟨none, (.s 26 (.mv (.k (.int .i64 0))))⟩ .nil)) (.block 0 (.loop (.seq (.seq (.reg [] (.cons ⟨none, (.s 115 (.mv (.t 26)))⟩ (.cons ⟨none, (.s 116 (.bin .lss (.t 115) (.k (.int .i64 80))))⟩ .nil))) (.cond (.t 116) .skip (.exit 0))) (.seq (.block 1 (.seq (.reg [] (.cons ⟨none, (.s 119 (.mv (.t 25)))⟩ (.cons ⟨none, (.s 120 (.mv (.t 26)))⟩ (.cons ⟨none, (.s 121 (.mv (.t 14)))⟩ (.cons ⟨none, (.s 122 (.mv (.t 26)))⟩ (.cons ⟨none, (.s 123 (.is 1 (.t 121) (.t 122)))⟩ (.cons ⟨none, (.r 124 (.ld (.int .u8 0) (.t 123)))⟩ (.cons ⟨none, (.s 125 (.is 1 (.t 119) (.t 120)))⟩ (.cons ⟨none, (.w none (.st (.t 125) (.t 124)))⟩ .nil))))))))) (.seq (.seq (.reg [] (.cons ⟨none, (.s 126 (.fa 0 (.t 11)))⟩ (.cons ⟨none, (.r 127 (.ld (.int .i64 0) (.t 126)))⟩ (.cons ⟨none, (.s 128 (.bin .eql (.t 127) (.k (.int .i64 0))))⟩ (.cons ⟨none, (.s 129 (.mv (.t 128)))⟩ (.cons ⟨(some (129, true)), (.s 130 (.mv (.t 26)))⟩ (.cons ⟨(some (129, true)), (.s 131 (.fa 1 (.t 11)))⟩ (.cons ⟨(some (129, true)), (.r 132 (.ld (.int .i64 0) (.t 131)))⟩ (.cons ⟨(some (129, true)), (.s 133 (.bin .lss (.t 130) (.t 132)))⟩ (.cons ⟨none, (.s 134 (.pick (.t 129) (.t 133) (.k (.bool false))))⟩ (.cons ⟨none, (.s 135 (.mv (.t 134)))⟩ (.cons ⟨(some (135, false)), (.s 136 (.fa 0 (.t 11)))⟩ (.cons ⟨(some (135, false)), (.r 137 (.ld (.int .i64 0) (.t 136)))⟩ (.cons ⟨(some (135, false)), (.s 138 (.bin .eql (.t 137) (.k (.int .i64 1))))⟩ (.cons ⟨none, (.s 139 (.pick (.t 135) (.k (.bool true)) (.t 138)))⟩ .nil))))))))))))))) (.cond (.t 139) (.reg [] (.cons ⟨none, (.s 140 (.mv (.t 25)))⟩ (.cons ⟨none, (.s 141 (.mv (.t 26)))⟩ (.cons ⟨none, (.s 142 (.is 1 (.t 140) (.t 141)))⟩ (.cons ⟨none, (.w none (.st (.t 142) (.k (.int .u8 255))))⟩ .nil))))) .skip)) (.seq (.reg [] (.cons ⟨none, (.s 143 (.fa 0 (.t 11)))⟩ (.cons ⟨none, (.r 144 (.ld (.int .i64 0) (.t 143)))⟩ (.cons ⟨none, (.s 145 (.bin .eql (.t 144) (.k (.int .i64 1))))⟩ (.cons ⟨none, (.s 146 (.mv (.t 145)))⟩ (.cons ⟨(some (146, true)), (.s 147 (.mv (.t 26)))⟩ (.cons ⟨(some (146, true)), (.s 148 (.fa 1 (.t 11)))⟩ (.cons ⟨(some (146, true)), (.r 149 (.ld (.int .i64 0) (.t 148)))⟩ (.cons ⟨(some (146, true)), (.s 150 (.bin .lss (.t 147) (.t 149)))⟩ (.cons ⟨none, (.s 151 (.pick (.t 146) (.t 150) (.k (.bool false))))⟩ .nil)))))))))) (.cond (.t 151) (.reg [] (.cons ⟨none, (.s 152 (.mv (.t 25)))⟩ (.cons ⟨none, (.s 153 (.mv (.t 26)))⟩ (.cons ⟨none, (.s 154 (.mv (.t 16)))⟩ (.cons ⟨none, (.s 155 (.mv (.t 26)))⟩ (.cons ⟨none, (.s 156 (.is 1 (.t 154) (.t 155)))⟩ (.cons ⟨none, (.r 157 (.ld (.int .u8 0) (.t 156)))⟩ (.cons ⟨none, (.s 158 (.is 1 (.t 152) (.t 153)))⟩ (.cons ⟨none, (.w none (.st (.t 158) (.t 157)))⟩ .nil))))))))) .skip))))) (.reg [] (.cons ⟨none, (.s 117 (.mv (.t 26)))⟩ (.cons ⟨none, (.s 118 (.bin .add (.t 117) (.k (.int .i64 1))))⟩ (.cons ⟨none, (.s 26 (.mv (.t 118)))⟩ .nil))))))))) (.seq (.reg [] (.cons ⟨none, (.s 159 (.mv (.t 19)))⟩ (.cons ⟨none, (.s 160 (.mv (.t 2)))⟩ (.cons ⟨none, (.s 161 (.mv (.t 16)))⟩ (.cons ⟨none, (.call (some 162) 9 [(.t 159), (.t 160), (.t 161)])⟩ (.cons ⟨none, (.s 27 (.mv (.t 162)))⟩ .nil)))))) (.seq (.reg [] (.cons ⟨none, (.s 164 (.mv (.t 19)))⟩ (.cons ⟨none, (.s 165 (.mv (.t 2)))⟩ (.cons ⟨none, (.call (some 166) 12 [(.t 164), (.t 165)])⟩ (.cons ⟨none, (.s 163 (.mv (.t 166)))⟩ (.cons ⟨none, (.s 167 (.ext (.t 163) 0))⟩ (.cons ⟨none, (.s 168 (.ext (.t 163) 1))⟩ (.cons ⟨none, (.s 28 (.mv (.t 167)))⟩ (.cons ⟨none, (.s 29 (.mv (.t 168)))⟩ .nil))))))))) (.seq (.reg [] (.cons ⟨none, (.s 169 (.mv (.t 21)))⟩ (.cons ⟨none, (.call (some 170) 8 [(.t 169)])⟩ (.cons ⟨none, (.s 171 (.bin .eql (.t 170) (.k (.int .i64 0))))⟩ (.cons ⟨none, (.s 172 (.mv (.t 171)))⟩ (.cons ⟨(some (172, true)), (.s 173 (.mv (.t 22)))⟩ (.cons ⟨(some (172, true)), (.call (some 174) 8 [(.t 173)])⟩ (.cons ⟨(some (172, true)), (.s 175 (.bin .eql (.t 174) (.k (.int .i64 8))))⟩ (.cons ⟨none, (.s 176 (.pick (.t 172) (.t 175) (.k (.bool false))))⟩ (.cons ⟨none, (.s 177 (.mv (.t 176)))⟩ (.cons ⟨(some (177, true)), (.s 178 (.mv (.t 23)))⟩ (.cons ⟨(some (177, true)), (.r 179 (.b2s (.t 178)))⟩ (.cons ⟨(some (177, true)), (.s 180 (.mv (.t 25)))⟩ (.cons ⟨(some (177, true)), (.r 181 (.b2s (.t 180)))⟩ (.cons ⟨(some (177, true)), (.s 182 (.binS .eql (.t 179) (.t 181)))⟩ (.cons ⟨none, (.s 183 (.pick (.t 177) (.t 182) (.k (.bool false))))⟩ (.cons ⟨none, (.s 184 (.mv (.t 183)))⟩ (.cons ⟨(some (184, true)), (.s 185 (.mv (.t 27)))⟩ (.cons ⟨(some (184, true)), (.call (some 186) 8 [(.t 185)])⟩ (.cons ⟨(some (184, true)), (.s 187 (.bin .eql (.t 186) (.k (.int .i64 0))))⟩ (.cons ⟨none, (.s 188 (.pick (.t 184) (.t 187) (.k (.bool false))))⟩ (.cons ⟨none, (.s 189 (.mv (.t 188)))⟩ (.cons ⟨(some (189, true)), (.s 190 (.mv (.t 28)))⟩ (.cons ⟨(some (189, true)), (.r 191 (.b2s (.t 190)))⟩ (.cons ⟨(some (189, true)), (.s 192 (.mv (.t 16)))⟩ (.cons ⟨(some (189, true)), (.r 193 (.b2s (.t 192)))⟩ (.cons ⟨(some (189, true)), (.s 194 (.binS .eql (.t 191) (.t 193)))⟩ (.cons ⟨none, (.s 195 (.pick (.t 189) (.t 194) (.k (.bool false))))⟩ (.cons ⟨none, (.s 196 (.mv (.t 195)))⟩ (.cons ⟨(some (196, true)), (.s 197 (.mv (.t 19)))⟩ (.cons ⟨(some (196, true)), (.r 198 (.lda 32 (.t 6)))⟩ (.cons ⟨(some (196, true)), (.s 199 (.mv (.t 1)))⟩ (.cons ⟨(some (196, true)), (.s 200 (.mv (.t 2)))⟩ (.cons ⟨(some (196, true)), (.call (some 201) 13 [(.t 197), (.t 198), (.t 199), (.t 200)])⟩ (.cons ⟨none, (.s 202 (.pick (.t 196) (.t 201) (.k (.bool false))))⟩ (.cons ⟨none, (.s 12 (.mv (.t 202)))⟩ .nil)))))))))))))))))))))))))))))))))))) .ret)))))))))))))))))), [(.tmp 12)]⟩
theorem low_portcullislaw25_VerityTears_2 : lowF Try.prog Try.f3 = some ir_portcullislaw25_VerityTears_2.strip := by kernel_rfl
theorem ok_portcullislaw25_VerityTears_2 {fu : Nat} (i0 : Nat) {X0b : Nat} {X0ty : Nat} {X0pr : List C} {X0ps : List C} {X0o : Nat} {X0c : Nat} {X0n : Nat} {X0fr : Nat × Nat} {key_ : List Int} {version_ : Int} {i_ : Int} {plain_ : List Int} {c_0 : Int} {c_1 : Int} (X0l : X0n = plain_.length) (X0S : 0 < X0n → X0pr.length = X0o) (X0C : X0n ≤ X0c) {t9001 : Bool} (h : fn_portcullislaw25_VerityTears_2 fu key_ version_ i_ plain_ c_0 c_1 = some t9001) :
  EV.Fn Try.prog 3 [.g (flat [.i .u8 key_]), ib .i64 version_, ib .i64 i_, .c (.v (.slice none 0 0)), .c (.s 0 X0b X0o X0n X0c), .g (flat [.c (.v (.int .i64 c_0)), .c (.v (.int .i64 c_1))])] [] [⟨i0, X0b, X0ty, true, X0fr, (.v undef), flat [.r X0pr, .i .u8 plain_, .r X0ps]⟩] (fun v u nw => v = bb t9001 ∧ u = [] ∧ nw = []) := by
 subst X0l
 have key : EV.Fn Try.prog 3 [.g (flat [.i .u8 key_]), ib .i64 version_, ib .i64 i_, .c (.v (.slice none 0 0)), .c (.s 0 X0b X0o plain_.length X0c), .g (flat [.c (.v (.int .i64 c_0)), .c (.v (.int .i64 c_1))])] [] [⟨0, X0b, X0ty, true, X0fr, (.v undef), flat [.r X0pr, .i .u8 plain_, .r X0ps]⟩] (fun v u nw => v = bb t9001 ∧ u = [] ∧ nw = []) := by
  unfold fn_portcullislaw25_VerityTears_2 at h
  refine d_fn (i := ir_portcullislaw25_VerityTears_2) (fn := Try.f3) (sl0 := [(0, .g (flat [.i .u8 key_])), (1, ib .i64 version_), (2, ib .i64 i_), (3, .c (.v (.slice none 0 0))), (4, .c (.s 0 X0b X0o plain_.length X0c)), (5, .g (flat [.c (.v (.int .i64 c_0)), .c (.v (.int .i64 c_1))]))]) (hp0 := [⟨0, X0b, X0ty, true, X0fr, (.v undef), flat [.r X0pr, .i .u8 plain_, .r X0ps]⟩]) (by kernel_rfl) low_portcullislaw25_VerityTears_2 mo rfl rfl rfl fun F z0 => ?_
  dsimp only [ir_portcullislaw25_VerityTears_2]
  refine gd_e h fun Xh_key_ h => ?_
  refine wpC_seq ?_
  refine d_reg rfl ?_
  refine d_box rfl (fun _ => trivial) rfl fun kb1 kz2 => ?_
  refine d_box rfl (fun _ => trivial) rfl fun kb3 kz4 => ?_
  refine wpI_s rfl trivial ?_
  refine wpI_nil ?_
  refine seqK_n ?_
  refine wpC_seq ?_
  refine d_reg rfl ?_
  refine bind_e h fun t7 ho6 h => ?_
  refine d_call (ok_portcullislaw25_alive     (h := ho6)) rfl rfl haveRw_n haveRo_n (own_of rfl) ?_
  rintro _ _ _ kz8 ⟨rfl, rfl, rfl⟩
  refine ⟨_, rfl, trivial, ?_⟩
  refine wpI_s rfl trivial ?_
  refine wpI_nil ?_
  refine seqK_n ?_
  refine wpC_seq ?_
  refine bind_e h fun o10 h hko10 => ?_
  refine d_join (fun (z : Nat) => (match z with | kz9 => ⟨[(1, ib .i64 version_), (2, ib .i64 i_), (3, .c (.v (.slice none 0 0))), (4, .c (.s 0 X0b X0o plain_.length X0c)), (6, .c (.p 100 kb1 0)), (11, .c (.p 101 kb3 0)), (13, bb t7), (68, bb true)], [⟨0, X0b, X0ty, true, X0fr, (.v undef), flat [.r X0pr, .i .u8 plain_, .r X0ps]⟩, ⟨100, kb1, 23, false, (0, 0), (.v (.int .u8 0)), flat [.i .u8 key_]⟩, ⟨101, kb3, 26, false, (0, 0), (.v (.int .i64 0)), flat [.c (.v (.int .i64 c_0)), .c (.v (.int .i64 c_1))]⟩], 102, kz9⟩ : St)) (fun (z : Nat) => match z with | kz9 => (True) ∧ () = o10) ?_ ?_
  ·refine d_reg rfl ?_
   refine wpI_s rfl trivial ?_
   refine d_b rfl trivial h fun t11 h => ?_
   refine wpI_s rfl trivial ?_
   refine d_guard rfl h (fun h => ?_) (fun h => ?_)
   ·refine wpI_s rfl trivial ?_
    refine d_guardT rfl ?_
    refine d_b rfl trivial h fun t12 h => ?_
    refine d_pickF rfl rfl rfl ?_
    refine wpI_s rfl trivial ?_
    refine d_guard rfl h (fun h => ?_) (fun h => ?_)
    ·refine wpI_s rfl trivial ?_
     refine d_guardT rfl ?_
     refine d_b rfl trivial h fun t13 h => ?_
     refine d_pickF rfl rfl rfl ?_
     refine wpI_s rfl trivial ?_
     refine d_guard rfl h (fun h => ?_) (fun h => ?_)
     ·refine wpI_s rfl trivial ?_
      refine d_guardT rfl ?_
      refine d_b rfl trivial h fun t14 h => ?_
      refine d_pickF rfl rfl rfl ?_
      refine wpI_s rfl trivial ?_
      refine d_guard rfl h (fun h => ?_) (fun h => ?_)
      ·refine wpI_s rfl trivial ?_
       refine d_guardT rfl ?_
       refine d_b rfl trivial h fun t15 h => ?_
       refine d_pickF rfl rfl rfl ?_
       refine wpI_s rfl trivial ?_
       refine d_guard rfl h (fun h => ?_) (fun h => ?_)
       ·refine wpI_s rfl trivial ?_
        refine d_guardT rfl ?_
        refine wpI_s rfl trivial ?_
        refine d_guardT rfl ?_
        refine d_bf (w := true) rfl trivial (by decide) ?_
        refine d_pickF rfl rfl rfl ?_
        refine wpI_s rfl trivial ?_
        refine d_guardF rfl rfl ?_
        refine d_guardF rfl rfl ?_
        refine d_guardF rfl rfl ?_
        refine d_pickT rfl rfl rfl ?_
        refine wpI_s rfl trivial ?_
        refine d_guardF rfl rfl ?_
        refine d_guardF rfl rfl ?_
        refine d_guardF rfl rfl ?_
        refine d_pickT rfl rfl rfl ?_
        refine wpI_s rfl trivial ?_
        refine d_guardF rfl rfl ?_
        refine d_guardF rfl rfl ?_
        refine d_guardF rfl rfl ?_
        refine d_pickT rfl rfl rfl ?_
        refine wpI_nil ?_
        refine jnK_n kz8 [0, 100, 101] ⟨trivial, Option.some.inj h⟩ (leS2_c rfl rfl (leS2_c rfl rfl (leS2_c rfl rfl (leS2_c rfl rfl (leS2_c rfl rfl (leS2_c rfl rfl (leS2_c rfl rfl (leS2_c rfl rfl leS2_n)))))))) (leH2_c rfl rfl rfl rfl rfl rfl (leH2_c rfl rfl rfl rfl rfl rfl (leH2_c rfl rfl rfl rfl rfl rfl leH2_n))) rfl rfl
       ·refine d_guardF rfl rfl ?_
        refine d_guardF rfl rfl ?_
        refine d_pickT rfl rfl rfl ?_
        refine wpI_s rfl trivial ?_
        refine d_guardF rfl rfl ?_
        refine d_guardF rfl rfl ?_
        refine d_guardF rfl rfl ?_
        refine d_pickT rfl rfl rfl ?_
        refine wpI_s rfl trivial ?_
        refine d_guardF rfl rfl ?_
        refine d_guardF rfl rfl ?_
        refine d_guardF rfl rfl ?_
        refine d_pickT rfl rfl rfl ?_
        refine wpI_s rfl trivial ?_
        refine d_guardF rfl rfl ?_
        refine d_guardF rfl rfl ?_
        refine d_guardF rfl rfl ?_
        refine d_pickT rfl rfl rfl ?_
        refine wpI_nil ?_
        refine jnK_n kz8 [0, 100, 101] ⟨trivial, Option.some.inj h⟩ (leS2_c rfl rfl (leS2_c rfl rfl (leS2_c rfl rfl (leS2_c rfl rfl (leS2_c rfl rfl (leS2_c rfl rfl (leS2_c rfl rfl (leS2_c rfl rfl leS2_n)))))))) (leH2_c rfl rfl rfl rfl rfl rfl (leH2_c rfl rfl rfl rfl rfl rfl (leH2_c rfl rfl rfl rfl rfl rfl leH2_n))) rfl rfl
      ·refine d_guardF rfl rfl ?_
       refine d_pickT rfl rfl rfl ?_
       refine wpI_s rfl trivial ?_
       refine d_guardF rfl rfl ?_
       refine d_guardF rfl rfl ?_
       refine d_guardF rfl rfl ?_
       refine d_pickT rfl rfl rfl ?_
       refine wpI_s rfl trivial ?_
       refine d_guardF rfl rfl ?_
       refine d_guardF rfl rfl ?_
       refine d_guardF rfl rfl ?_
       refine d_pickT rfl rfl rfl ?_
       refine wpI_s rfl trivial ?_
       refine d_guardF rfl rfl ?_
       refine d_guardF rfl rfl ?_
       refine d_guardF rfl rfl ?_
       refine d_pickT rfl rfl rfl ?_
       refine wpI_s rfl trivial ?_
       refine d_guardF rfl rfl ?_
       refine d_guardF rfl rfl ?_
       refine d_guardF rfl rfl ?_
       refine d_pickT rfl rfl rfl ?_
       refine wpI_nil ?_
       refine jnK_n kz8 [0, 100, 101] ⟨trivial, Option.some.inj h⟩ (leS2_c rfl rfl (leS2_c rfl rfl (leS2_c rfl rfl (leS2_c rfl rfl (leS2_c rfl rfl (leS2_c rfl rfl (leS2_c rfl rfl (leS2_c rfl rfl leS2_n)))))))) (leH2_c rfl rfl rfl rfl rfl rfl (leH2_c rfl rfl rfl rfl rfl rfl (leH2_c rfl rfl rfl rfl rfl rfl leH2_n))) rfl rfl
     ·refine d_guardF rfl rfl ?_
      refine d_pickT rfl rfl rfl ?_
      refine wpI_s rfl trivial ?_
      refine d_guardF rfl rfl ?_
      refine d_guardF rfl rfl ?_
      refine d_pickT rfl rfl rfl ?_
      refine wpI_s rfl trivial ?_
      refine d_guardF rfl rfl ?_
      refine d_guardF rfl rfl ?_
      refine d_guardF rfl rfl ?_
      refine d_pickT rfl rfl rfl ?_
      refine wpI_s rfl trivial ?_
      refine d_guardF rfl rfl ?_
      refine d_guardF rfl rfl ?_
      refine d_guardF rfl rfl ?_
      refine d_pickT rfl rfl rfl ?_
      refine wpI_s rfl trivial ?_
      refine d_guardF rfl rfl ?_
      refine d_guardF rfl rfl ?_
      refine d_guardF rfl rfl ?_
      refine d_pickT rfl rfl rfl ?_
      refine wpI_s rfl trivial ?_
      refine d_guardF rfl rfl ?_
      refine d_guardF rfl rfl ?_
      refine d_guardF rfl rfl ?_
      refine d_pickT rfl rfl rfl ?_
      refine wpI_nil ?_
      refine jnK_n kz8 [0, 100, 101] ⟨trivial, Option.some.inj h⟩ (leS2_c rfl rfl (leS2_c rfl rfl (leS2_c rfl rfl (leS2_c rfl rfl (leS2_c rfl rfl (leS2_c rfl rfl (leS2_c rfl rfl (leS2_c rfl rfl leS2_n)))))))) (leH2_c rfl rfl rfl rfl rfl rfl (leH2_c rfl rfl rfl rfl rfl rfl (leH2_c rfl rfl rfl rfl rfl rfl leH2_n))) rfl rfl
    ·refine d_guardF rfl rfl ?_
     refine d_pickT rfl rfl rfl ?_
     refine wpI_s rfl trivial ?_
     refine d_guardF rfl rfl ?_
     refine d_guardF rfl rfl ?_
     refine d_pickT rfl rfl rfl ?_
     refine wpI_s rfl trivial ?_
     refine d_guardF rfl rfl ?_
     refine d_guardF rfl rfl ?_
     refine d_pickT rfl rfl rfl ?_
     refine wpI_s rfl trivial ?_
     refine d_guardF rfl rfl ?_
     refine d_guardF rfl rfl ?_
     refine d_guardF rfl rfl ?_
     refine d_pickT rfl rfl rfl ?_
     refine wpI_s rfl trivial ?_
     refine d_guardF rfl rfl ?_
     refine d_guardF rfl rfl ?_
     refine d_guardF rfl rfl ?_
     refine d_pickT rfl rfl rfl ?_
     refine wpI_s rfl trivial ?_
     refine d_guardF rfl rfl ?_
     refine d_guardF rfl rfl ?_
     refine d_guardF rfl rfl ?_
     refine d_pickT rfl rfl rfl ?_
     refine wpI_s rfl trivial ?_
     refine d_guardF rfl rfl ?_
     refine d_guardF rfl rfl ?_
     refine d_guardF rfl rfl ?_
     refine d_pickT rfl rfl rfl ?_
     refine wpI_nil ?_
     refine jnK_n kz8 [0, 100, 101] ⟨trivial, Option.some.inj h⟩ (leS2_c rfl rfl (leS2_c rfl rfl (leS2_c rfl rfl (leS2_c rfl rfl (leS2_c rfl rfl (leS2_c rfl rfl (leS2_c rfl rfl (leS2_c rfl rfl leS2_n)))))))) (leH2_c rfl rfl rfl rfl rfl rfl (leH2_c rfl rfl rfl rfl rfl rfl (leH2_c rfl rfl rfl rfl rfl rfl leH2_n))) rfl rfl
   ·refine d_guardF rfl rfl ?_
    refine d_pickT rfl rfl rfl ?_
    refine wpI_s rfl trivial ?_
    refine d_guardF rfl rfl ?_
    refine d_guardF rfl rfl ?_
    refine d_pickT rfl rfl rfl ?_
    refine wpI_s rfl trivial ?_
    refine d_guardF rfl rfl ?_
    refine d_guardF rfl rfl ?_
    refine d_pickT rfl rfl rfl ?_
    refine wpI_s rfl trivial ?_
    refine d_guardF rfl rfl ?_
    refine d_guardF rfl rfl ?_
    refine d_pickT rfl rfl rfl ?_
    refine wpI_s rfl trivial ?_
    refine d_guardF rfl rfl ?_
    refine d_guardF rfl rfl ?_
    refine d_guardF rfl rfl ?_
    refine d_pickT rfl rfl rfl ?_
    refine wpI_s rfl trivial ?_
    refine d_guardF rfl rfl ?_
    refine d_guardF rfl rfl ?_
    refine d_guardF rfl rfl ?_
    refine d_pickT rfl rfl rfl ?_
    refine wpI_s rfl trivial ?_
    refine d_guardF rfl rfl ?_
    refine d_guardF rfl rfl ?_
    refine d_guardF rfl rfl ?_
    refine d_pickT rfl rfl rfl ?_
    refine wpI_s rfl trivial ?_
    refine d_guardF rfl rfl ?_
    refine d_guardF rfl rfl ?_
    refine d_guardF rfl rfl ?_
    refine d_pickT rfl rfl rfl ?_
    refine wpI_nil ?_
    refine jnK_n kz8 [0, 100, 101] ⟨trivial, Option.some.inj h⟩ (leS2_c rfl rfl (leS2_c rfl rfl (leS2_c rfl rfl (leS2_c rfl rfl (leS2_c rfl rfl (leS2_c rfl rfl (leS2_c rfl rfl (leS2_c rfl rfl leS2_n)))))))) (leH2_c rfl rfl rfl rfl rfl rfl (leH2_c rfl rfl rfl rfl rfl rfl (leH2_c rfl rfl rfl rfl rfl rfl leH2_n))) rfl rfl
  ·rintro kz9 ⟨_, rfl⟩
   show wpC _ _ _ _ _ (St.mk _ _ _ _)
   have h := hko10; clear hko10; try dsimp only at h
   refine wpC_condT rfl ?_
   refine wpC_seq ?_
   refine d_reg rfl ?_
   refine wpI_s rfl trivial ?_
   refine wpI_s rfl trivial ?_
   refine wpI_nil ?_
   refine seqK_n ?_
   refine wpC_ret ?_
   refine seqK_r ?_
   obtain rfl := Option.some.inj h
   exact d_ret2 [] [] ⟨rfl, rfl, rfl⟩ (rIs_t rfl rfl) leH2_n leH2_n rfl
 exact key.cong rfl blkEq_n (blkEq_c rfl rfl rfl rfl blkEq_n)

def ir_portcullislaw25_VerityTears_3 : IFn := ⟨203, (.seq (.reg [] (.cons ⟨none, (.w (some 6) (.box 23 32 (.int .u8 0) (.t 0)))⟩ (.cons ⟨none, (.w (some 11) (.box 26 2 (.int .i64 0) (.t 5)))⟩ (.cons ⟨none, (.s 12 (.mv (.k (.bool false))))⟩ .nil)))) (.seq (.reg [] (.cons ⟨none, (.call (some 30) 4 [])⟩ (.cons ⟨none, (.s 13 (.mv (.t 30)))⟩ .nil))) (.seq (.seqJ (.reg [] (.cons ⟨none, (.s 31 (.mv (.t 13)))⟩ (.cons ⟨none, (.s 32 (.un .not (.t 31)))⟩ (.cons ⟨none, (.s 33 (.mv (.t 32)))⟩ (.cons ⟨(some (33, false)), (.s 34 (.mv (.t 1)))⟩ (.cons ⟨(some (33, false)), (.s 35 (.bin .lss (.t 34) (.k (.int .i64 0))))⟩ (.cons ⟨none, (.s 36 (.pick (.t 33) (.k (.bool true)) (.t 35)))⟩ (.cons ⟨none, (.s 37 (.mv (.t 36)))⟩ (.cons ⟨(some (37, false)), (.s 38 (.mv (.t 1)))⟩ (.cons ⟨(some (37, false)), (.s 39 (.bin .gtr (.t 38) (.k (.int .i64 1073741824))))⟩ (.cons ⟨none, (.s 40 (.pick (.t 37) (.k (.bool true)) (.t 39)))⟩ (.cons ⟨none, (.s 41 (.mv (.t 40)))⟩ (.cons ⟨(some (41, false)), (.s 42 (.mv (.t 2)))⟩ (.cons ⟨(some (41, false)), (.s 43 (.bin .lss (.t 42) (.k (.int .i64 0))))⟩ (.cons ⟨none, (.s 44 (.pick (.t 41) (.k (.bool true)) (.t 43)))⟩ (.cons ⟨none, (.s 45 (.mv (.t 44)))⟩ (.cons ⟨(some (45, false)), (.s 46 (.mv (.t 2)))⟩ (.cons ⟨(some (45, false)), (.s 47 (.bin .gtr (.t 46) (.k (.int .i64 31))))⟩ (.cons ⟨none, (.s 48 (.pick (.t 45) (.k (.bool true)) (.t 47)))⟩ (.cons ⟨none, (.s 49 (.mv (.t 48)))⟩ (.cons ⟨(some (49, false)), (.s 50 (.mv (.t 3)))⟩ (.cons ⟨(some (49, false)), (.s 51 (.len (.t 50)))⟩ (.cons ⟨(some (49, false)), (.s 52 (.bin .neq (.t 51) (.k (.int .i64 64))))⟩ (.cons ⟨none, (.s 53 (.pick (.t 49) (.k (.bool true)) (.t 52)))⟩ (.cons ⟨none, (.s 54 (.mv (.t 53)))⟩ (.cons ⟨(some (54, false)), (.s 55 (.mv (.t 4)))⟩ (.cons ⟨(some (54, false)), (.s 56 (.len (.t 55)))⟩ (.cons ⟨(some (54, false)), (.s 57 (.bin .neq (.t 56) (.k (.int .i64 64))))⟩ (.cons ⟨none, (.s 58 (.pick (.t 54) (.k (.bool true)) (.t 57)))⟩ (.cons ⟨none, (.s 59 (.mv (.t 58)))⟩ (.cons ⟨(some (59, false)), (.s 60 (.fa 0 (.t 11)))⟩ (.cons ⟨(some (59, false)), (.r 61 (.ld (.int .i64 0) (.t 60)))⟩ (.cons ⟨(some (59, false)), (.s 62 (.bin .lss (.t 61) (.k (.int .i64 0))))⟩ (.cons ⟨none, (.s 63 (.pick (.t 59) (.k (.bool true)) (.t 62)))⟩ (.cons ⟨none, (.s 64 (.mv (.t 63)))⟩ (.cons ⟨(some (64, false)), (.s 65 (.fa 0 (.t 11)))⟩ (.cons ⟨(some (64, false)), (.r 66 (.ld (.int .i64 0) (.t 65)))⟩ (.cons ⟨(some (64, false)), (.s 67 (.bin .gtr (.t 66) (.k (.int .i64 1))))⟩ (.cons ⟨none, (.s 68 (.pick (.t 64) (.k (.bool true)) (.t 67)))⟩ .nil))))))))))))))))))))))))))))))))))))))) (.cond (.t 68) (.seq (.reg [] (.cons ⟨none, (.s 69 (.mv (.t 13)))⟩ (.cons ⟨none, (.s 12 (.mv (.t 69)))⟩ .nil))) .ret) .skip)) (.seq (.reg [] (.cons ⟨none, (.r 71 (.lda 32 (.t 6)))⟩ (.cons ⟨none, (.s 72 (.mv (.t 1)))⟩ (.cons ⟨none, (.s 73 (.mv (.t 2)))⟩ (.cons ⟨none, (.s 74 (.mv (.t 3)))⟩ (.cons ⟨none, (.call (some 75) 5 [(.t 71), (.t 72), (.t 73), (.t 74)])⟩ (.cons ⟨none, (.s 70 (.mv (.t 75)))⟩ (.cons ⟨none, (.s 76 (.ext (.t 70) 0))⟩ (.cons ⟨none, (.s 77 (.ext (.t 70) 1))⟩ (.cons ⟨none, (.s 14 (.mv (.t 76)))⟩ (.cons ⟨none, (.s 15 (.mv (.t 77)))⟩ .nil))))))))))) (.seq (.reg [] (.cons ⟨none, (.r 79 (.lda 32 (.t 6)))⟩ (.cons ⟨none, (.s 80 (.mv (.t 1)))⟩ (.cons ⟨none, (.s 81 (.mv (.t 2)))⟩ (.cons ⟨none, (.s 82 (.mv (.t 4)))⟩ (.cons ⟨none, (.call (some 83) 5 [(.t 79), (.t 80), (.t 81), (.t 82)])⟩ (.cons ⟨none, (.s 78 (.mv (.t 83)))⟩ (.cons ⟨none, (.s 84 (.ext (.t 78) 0))⟩ (.cons ⟨none, (.s 85 (.ext (.t 78) 1))⟩ (.cons ⟨none, (.s 16 (.mv (.t 84)))⟩ (.cons ⟨none, (.s 17 (.mv (.t 85)))⟩ .nil))))))))))) (.seq (.reg [] (.cons ⟨none, (.call (some 86) 6 [(.k (.int .i64 128))])⟩ (.cons ⟨none, (.s 18 (.mv (.t 86)))⟩ .nil))) (.seq (.reg [] (.cons ⟨none, (.s 88 (.mv (.t 18)))⟩ (.cons ⟨none, (.call (some 89) 7 [(.t 88), (.k (.int .i64 1))])⟩ (.cons ⟨none, (.s 87 (.mv (.t 89)))⟩ (.cons ⟨none, (.s 90 (.ext (.t 87) 0))⟩ (.cons ⟨none, (.s 91 (.ext (.t 87) 1))⟩ (.cons ⟨none, (.s 19 (.mv (.t 90)))⟩ (.cons ⟨none, (.s 20 (.mv (.t 91)))⟩ .nil)))))))) (.seq (.seq (.reg [] (.cons ⟨none, (.s 92 (.mv (.t 20)))⟩ (.cons ⟨none, (.call (some 93) 8 [(.t 92)])⟩ (.cons ⟨none, (.s 94 (.bin .neq (.t 93) (.k (.int .i64 0))))⟩ .nil)))) (.cond (.t 94) (.seq (.reg [] (.cons ⟨none, (.s 12 (.mv (.k (.bool false))))⟩ .nil)) .ret) .skip)) (.seq (.reg [] (.cons ⟨none, (.s 95 (.mv (.t 19)))⟩ (.cons ⟨none, (.s 96 (.mv (.t 2)))⟩ (.cons ⟨none, (.s 97 (.mv (.t 14)))⟩ (.cons ⟨none, (.call (some 98) 9 [(.t 95), (.t 96), (.t 97)])⟩ (.cons ⟨none, (.s 21 (.mv (.t 98)))⟩ .nil)))))) (.seq (.reg [] (.cons ⟨none, (.s 99 (.mv (.t 18)))⟩ (.cons ⟨none, (.r 100 (.lda 2 (.t 11)))⟩ (.cons ⟨none, (.call (some 101) 10 [(.t 99), (.t 100)])⟩ .nil)))) (.seq (.reg [] (.cons ⟨none, (.s 102 (.mv (.t 19)))⟩ (.cons ⟨none, (.s 103 (.mv (.t 2)))⟩ (.cons ⟨none, (.s 104 (.mv (.t 16)))⟩ (.cons ⟨none, (.call (some 105) 9 [(.t 102), (.t 103), (.t 104)])⟩ (.cons ⟨none, (.s 22 (.mv (.t 105)))⟩ .nil)))))) (.seq (.reg [] (.cons ⟨none, (.s 106 (.mv (.t 18)))⟩ (.cons ⟨none, (.call (some 107) 11 [(.t 106)])⟩ .nil))) (.seq (.reg [] (.cons ⟨none, (.s 109 (.mv (.t 19)))⟩ (.cons ⟨none, (.s 110 (.mv (.t 2)))⟩ (.cons ⟨none, (.call (some 111) 12 [(.t 109), (.t 110)])⟩ (.cons ⟨none, (.s 108 (.mv (.t 111)))⟩ (.cons ⟨none, (.s 112 (.ext (.t 108) 0))⟩ (.cons ⟨none, (.s 113 (.ext (.t 108) 1))⟩ (.cons ⟨none, (.s 23 (.mv (.t 112)))⟩ (.cons ⟨none, (.s 24 (.mv (.t 113)))⟩ .nil))))))))) (.seq (.reg [] (.cons ⟨none, (.w (some 114) (.mks 5 1 (.int .u8 0) (.k (.int .i64 80)) (.k (.int .i64 80))))⟩ (.cons ⟨none, (.s 25 (.mv (.t 114)))⟩ .nil))) (.seq (.seq (.reg [] (.cons ⟨none, (.s 26 (.mv (.k (.int .i64 0))))⟩ .nil)) (.block 0 (.loop (.seq (.seq (.reg [] (.cons ⟨none, (.s 115 (.mv (.t 26)))⟩ (.cons ⟨none, (.s 116 (.bin .lss (.t 115) (.k (.int .i64 80))))⟩ .nil))) (.cond (.t 116) .skip (.exit 0))) (.seq (.block 1 (.seq (.reg [] (.cons ⟨none, (.s 119 (.mv (.t 25)))⟩ (.cons ⟨none, (.s 120 (.mv (.t 26)))⟩ (.cons ⟨none, (.s 121 (.mv (.t 14)))⟩ (.cons ⟨none, (.s 122 (.mv (.t 26)))⟩ (.cons ⟨none, (.s 123 (.is 1 (.t 121) (.t 122)))⟩ (.cons ⟨none, (.r 124 (.ld (.int .u8 0) (.t 123)))⟩ (.cons ⟨none, (.s 125 (.is 1 (.t 119) (.t 120)))⟩ (.cons ⟨none, (.w none (.st (.t 125) (.t 124)))⟩ .nil))))))))) (.seq (.seq (.reg [] (.cons ⟨none, (.s 126 (.fa 0 (.t 11)))⟩ (.cons ⟨none, (.r 127 (.ld (.int .i64 0) (.t 126)))⟩ (.cons ⟨none, (.s 128 (.bin .eql (.t 127) (.k (.int .i64 0))))⟩ (.cons ⟨none, (.s 129 (.mv (.t 128)))⟩ (.cons ⟨(some (129, true)), (.s 130 (.mv (.t 26)))⟩ (.cons ⟨(some (129, true)), (.s 131 (.fa 1 (.t 11)))⟩ (.cons ⟨(some (129, true)), (.r 132 (.ld (.int .i64 0) (.t 131)))⟩ (.cons ⟨(some (129, true)), (.s 133 (.bin .lss (.t 130) (.t 132)))⟩ (.cons ⟨none, (.s 134 (.pick (.t 129) (.t 133) (.k (.bool false))))⟩ (.cons ⟨none, (.s 135 (.mv (.t 134)))⟩ (.cons ⟨(some (135, false)), (.s 136 (.fa 0 (.t 11)))⟩ (.cons ⟨(some (135, false)), (.r 137 (.ld (.int .i64 0) (.t 136)))⟩ (.cons ⟨(some (135, false)), (.s 138 (.bin .eql (.t 137) (.k (.int .i64 1))))⟩ (.cons ⟨none, (.s 139 (.pick (.t 135) (.k (.bool true)) (.t 138)))⟩ .nil))))))))))))))) (.cond (.t 139) (.reg [] (.cons ⟨none, (.s 140 (.mv (.t 25)))⟩ (.cons ⟨none, (.s 141 (.mv (.t 26)))⟩ (.cons ⟨none, (.s 142 (.is 1 (.t 140) (.t 141)))⟩ (.cons ⟨none, (.w none (.st (.t 142) (.k (.int .u8 255))))⟩ .nil))))) .skip)) (.seq (.reg [] (.cons ⟨none, (.s 143 (.fa 0 (.t 11)))⟩ (.cons ⟨none, (.r 144 (.ld (.int .i64 0) (.t 143)))⟩ (.cons ⟨none, (.s 145 (.bin .eql (.t 144) (.k (.int .i64 1))))⟩ (.cons ⟨none, (.s 146 (.mv (.t 145)))⟩ (.cons ⟨(some (146, true)), (.s 147 (.mv (.t 26)))⟩ (.cons ⟨(some (146, true)), (.s 148 (.fa 1 (.t 11)))⟩ (.cons ⟨(some (146, true)), (.r 149 (.ld (.int .i64 0) (.t 148)))⟩ (.cons ⟨(some (146, true)), (.s 150 (.bin .lss (.t 147) (.t 149)))⟩ (.cons ⟨none, (.s 151 (.pick (.t 146) (.t 150) (.k (.bool false))))⟩ .nil)))))))))) (.cond (.t 151) (.reg [] (.cons ⟨none, (.s 152 (.mv (.t 25)))⟩ (.cons ⟨none, (.s 153 (.mv (.t 26)))⟩ (.cons ⟨none, (.s 154 (.mv (.t 16)))⟩ (.cons ⟨none, (.s 155 (.mv (.t 26)))⟩ (.cons ⟨none, (.s 156 (.is 1 (.t 154) (.t 155)))⟩ (.cons ⟨none, (.r 157 (.ld (.int .u8 0) (.t 156)))⟩ (.cons ⟨none, (.s 158 (.is 1 (.t 152) (.t 153)))⟩ (.cons ⟨none, (.w none (.st (.t 158) (.t 157)))⟩ .nil))))))))) .skip))))) (.reg [] (.cons ⟨none, (.s 117 (.mv (.t 26)))⟩ (.cons ⟨none, (.s 118 (.bin .add (.t 117) (.k (.int .i64 1))))⟩ (.cons ⟨none, (.s 26 (.mv (.t 118)))⟩ .nil))))))))) (.seq (.reg [] (.cons ⟨none, (.s 159 (.mv (.t 19)))⟩ (.cons ⟨none, (.s 160 (.mv (.t 2)))⟩ (.cons ⟨none, (.s 161 (.mv (.t 16)))⟩ (.cons ⟨none, (.call (some 162) 9 [(.t 159), (.t 160), (.t 161)])⟩ (.cons ⟨none, (.s 27 (.mv (.t 162)))⟩ .nil)))))) (.seq (.reg [] (.cons ⟨none, (.s 164 (.mv (.t 19)))⟩ (.cons ⟨none, (.s 165 (.mv (.t 2)))⟩ (.cons ⟨none, (.call (some 166) 12 [(.t 164), (.t 165)])⟩ (.cons ⟨none, (.s 163 (.mv (.t 166)))⟩ (.cons ⟨none, (.s 167 (.ext (.t 163) 0))⟩ (.cons ⟨none, (.s 168 (.ext (.t 163) 1))⟩ (.cons ⟨none, (.s 28 (.mv (.t 167)))⟩ (.cons ⟨none, (.s 29 (.mv (.t 168)))⟩ .nil))))))))) (.seq (.reg [] (.cons ⟨none, (.s 169 (.mv (.t 21)))⟩ (.cons ⟨none, (.call (some 170) 8 [(.t 169)])⟩ (.cons ⟨none, (.s 171 (.bin .eql (.t 170) (.k (.int .i64 0))))⟩ (.cons ⟨none, (.s 172 (.mv (.t 171)))⟩ (.cons ⟨(some (172, true)), (.s 173 (.mv (.t 22)))⟩ (.cons ⟨(some (172, true)), (.call (some 174) 8 [(.t 173)])⟩ (.cons ⟨(some (172, true)), (.s 175 (.bin .eql (.t 174) (.k (.int .i64 8))))⟩ (.cons ⟨none, (.s 176 (.pick (.t 172) (.t 175) (.k (.bool false))))⟩ (.cons ⟨none, (.s 177 (.mv (.t 176)))⟩ (.cons ⟨(some (177, true)), (.s 178 (.mv (.t 23)))⟩ (.cons ⟨(some (177, true)), (.r 179 (.b2s (.t 178)))⟩ (.cons ⟨(some (177, true)), (.s 180 (.mv (.t 25)))⟩ (.cons ⟨(some (177, true)), (.r 181 (.b2s (.t 180)))⟩ (.cons ⟨(some (177, true)), (.s 182 (.binS .eql (.t 179) (.t 181)))⟩ (.cons ⟨none, (.s 183 (.pick (.t 177) (.t 182) (.k (.bool false))))⟩ (.cons ⟨none, (.s 184 (.mv (.t 183)))⟩ (.cons ⟨(some (184, true)), (.s 185 (.mv (.t 27)))⟩ (.cons ⟨(some (184, true)), (.call (some 186) 8 [(.t 185)])⟩ (.cons ⟨(some (184, true)), (.s 187 (.bin .eql (.t 186) (.k (.int .i64 0))))⟩ (.cons ⟨none, (.s 188 (.pick (.t 184) (.t 187) (.k (.bool false))))⟩ (.cons ⟨none, (.s 189 (.mv (.t 188)))⟩ (.cons ⟨(some (189, true)), (.s 190 (.mv (.t 28)))⟩ (.cons ⟨(some (189, true)), (.r 191 (.b2s (.t 190)))⟩ (.cons ⟨(some (189, true)), (.s 192 (.mv (.t 16)))⟩ (.cons ⟨(some (189, true)), (.r 193 (.b2s (.t 192)))⟩ (.cons ⟨(some (189, true)), (.s 194 (.binS .eql (.t 191) (.t 193)))⟩ (.cons ⟨none, (.s 195 (.pick (.t 189) (.t 194) (.k (.bool false))))⟩ (.cons ⟨none, (.s 196 (.mv (.t 195)))⟩ (.cons ⟨(some (196, true)), (.s 197 (.mv (.t 19)))⟩ (.cons ⟨(some (196, true)), (.r 198 (.lda 32 (.t 6)))⟩ (.cons ⟨(some (196, true)), (.s 199 (.mv (.t 1)))⟩ (.cons ⟨(some (196, true)), (.s 200 (.mv (.t 2)))⟩ (.cons ⟨(some (196, true)), (.call (some 201) 13 [(.t 197), (.t 198), (.t 199), (.t 200)])⟩ (.cons ⟨none, (.s 202 (.pick (.t 196) (.t 201) (.k (.bool false))))⟩ (.cons ⟨none, (.s 12 (.mv (.t 202)))⟩ .nil)))))))))))))))))))))))))))))))))))) .ret)))))))))))))))))), [(.tmp 12)]⟩
theorem low_portcullislaw25_VerityTears_3 : lowF Try.prog Try.f3 = some ir_portcullislaw25_VerityTears_3.strip := by kernel_rfl
theorem ok_portcullislaw25_VerityTears_3 {fu : Nat} (i0 : Nat) {X0b : Nat} {X0ty : Nat} {X0pr : List C} {X0ps : List C} {X0o : Nat} {X0c : Nat} {X0n : Nat} {X0fr : Nat × Nat} {key_ : List Int} {version_ : Int} {i_ : Int} {old_ : List Int} {c_0 : Int} {c_1 : Int} (X0l : X0n = old_.length) (X0S : 0 < X0n → X0pr.length = X0o) (X0C : X0n ≤ X0c) {t9001 : Bool} (h : fn_portcullislaw25_VerityTears_3 fu key_ version_ i_ old_ c_0 c_1 = some t9001) :
  EV.Fn Try.prog 3 [.g (flat [.i .u8 key_]), ib .i64 version_, ib .i64 i_, .c (.s 0 X0b X0o X0n X0c), .c (.v (.slice none 0 0)), .g (flat [.c (.v (.int .i64 c_0)), .c (.v (.int .i64 c_1))])] [] [⟨i0, X0b, X0ty, true, X0fr, (.v undef), flat [.r X0pr, .i .u8 old_, .r X0ps]⟩] (fun v u nw => v = bb t9001 ∧ u = [] ∧ nw = []) := by
 subst X0l
 have key : EV.Fn Try.prog 3 [.g (flat [.i .u8 key_]), ib .i64 version_, ib .i64 i_, .c (.s 0 X0b X0o old_.length X0c), .c (.v (.slice none 0 0)), .g (flat [.c (.v (.int .i64 c_0)), .c (.v (.int .i64 c_1))])] [] [⟨0, X0b, X0ty, true, X0fr, (.v undef), flat [.r X0pr, .i .u8 old_, .r X0ps]⟩] (fun v u nw => v = bb t9001 ∧ u = [] ∧ nw = []) := by
  unfold fn_portcullislaw25_VerityTears_3 at h
  refine d_fn (i := ir_portcullislaw25_VerityTears_3) (fn := Try.f3) (sl0 := [(0, .g (flat [.i .u8 key_])), (1, ib .i64 version_), (2, ib .i64 i_), (3, .c (.s 0 X0b X0o old_.length X0c)), (4, .c (.v (.slice none 0 0))), (5, .g (flat [.c (.v (.int .i64 c_0)), .c (.v (.int .i64 c_1))]))]) (hp0 := [⟨0, X0b, X0ty, true, X0fr, (.v undef), flat [.r X0pr, .i .u8 old_, .r X0ps]⟩]) (by kernel_rfl) low_portcullislaw25_VerityTears_3 mo rfl rfl rfl fun F z0 => ?_
  dsimp only [ir_portcullislaw25_VerityTears_3]
  refine gd_e h fun Xh_key_ h => ?_
  refine wpC_seq ?_
  refine d_reg rfl ?_
  refine d_box rfl (fun _ => trivial) rfl fun kb1 kz2 => ?_
  refine d_box rfl (fun _ => trivial) rfl fun kb3 kz4 => ?_
  refine wpI_s rfl trivial ?_
  refine wpI_nil ?_
  refine seqK_n ?_
  refine wpC_seq ?_
  refine d_reg rfl ?_
  refine bind_e h fun t7 ho6 h => ?_
  refine d_call (ok_portcullislaw25_alive     (h := ho6)) rfl rfl haveRw_n haveRo_n (own_of rfl) ?_
  rintro _ _ _ kz8 ⟨rfl, rfl, rfl⟩
  refine ⟨_, rfl, trivial, ?_⟩
  refine wpI_s rfl trivial ?_
  refine wpI_nil ?_
  refine seqK_n ?_
  refine wpC_seq ?_
  refine bind_e h fun o10 h hko10 => ?_
  refine d_join (fun (z : Nat) => (match z with | kz9 => ⟨[(1, ib .i64 version_), (2, ib .i64 i_), (3, .c (.s 0 X0b X0o old_.length X0c)), (4, .c (.v (.slice none 0 0))), (6, .c (.p 100 kb1 0)), (11, .c (.p 101 kb3 0)), (13, bb t7), (68, bb true)], [⟨0, X0b, X0ty, true, X0fr, (.v undef), flat [.r X0pr, .i .u8 old_, .r X0ps]⟩, ⟨100, kb1, 23, false, (0, 0), (.v (.int .u8 0)), flat [.i .u8 key_]⟩, ⟨101, kb3, 26, false, (0, 0), (.v (.int .i64 0)), flat [.c (.v (.int .i64 c_0)), .c (.v (.int .i64 c_1))]⟩], 102, kz9⟩ : St)) (fun (z : Nat) => match z with | kz9 => (True) ∧ () = o10) ?_ ?_
  ·refine d_reg rfl ?_
   refine wpI_s rfl trivial ?_
   refine d_b rfl trivial h fun t11 h => ?_
   refine wpI_s rfl trivial ?_
   refine d_guard rfl h (fun h => ?_) (fun h => ?_)
   ·refine wpI_s rfl trivial ?_
    refine d_guardT rfl ?_
    refine d_b rfl trivial h fun t12 h => ?_
    refine d_pickF rfl rfl rfl ?_
    refine wpI_s rfl trivial ?_
    refine d_guard rfl h (fun h => ?_) (fun h => ?_)
    ·refine wpI_s rfl trivial ?_
     refine d_guardT rfl ?_
     refine d_b rfl trivial h fun t13 h => ?_
     refine d_pickF rfl rfl rfl ?_
     refine wpI_s rfl trivial ?_
     refine d_guard rfl h (fun h => ?_) (fun h => ?_)
     ·refine wpI_s rfl trivial ?_
      refine d_guardT rfl ?_
      refine d_b rfl trivial h fun t14 h => ?_
      refine d_pickF rfl rfl rfl ?_
      refine wpI_s rfl trivial ?_
      refine d_guard rfl h (fun h => ?_) (fun h => ?_)
      ·refine wpI_s rfl trivial ?_
       refine d_guardT rfl ?_
       refine d_b rfl trivial h fun t15 h => ?_
       refine d_pickF rfl rfl rfl ?_
       refine wpI_s rfl trivial ?_
       refine d_guard rfl h (fun h => ?_) (fun h => ?_)
       ·refine wpI_s rfl trivial ?_
        refine d_guardT rfl ?_
        refine wpI_s rfl trivial ?_
        refine d_guardT rfl ?_
        refine d_b rfl trivial h fun t16 h => ?_
        refine d_pickF rfl rfl rfl ?_
        refine wpI_s rfl trivial ?_
        refine d_guard rfl h (fun h => ?_) (fun h => ?_)
        ·refine wpI_s rfl trivial ?_
         refine d_guardT rfl ?_
         refine wpI_s rfl trivial ?_
         refine d_guardT rfl ?_
         refine d_bf (w := true) rfl trivial (by decide) ?_
         refine d_pickF rfl rfl rfl ?_
         refine wpI_s rfl trivial ?_
         refine d_guardF rfl rfl ?_
         refine d_guardF rfl rfl ?_
         refine d_guardF rfl rfl ?_
         refine d_pickT rfl rfl rfl ?_
         refine wpI_s rfl trivial ?_
         refine d_guardF rfl rfl ?_
         refine d_guardF rfl rfl ?_
         refine d_guardF rfl rfl ?_
         refine d_pickT rfl rfl rfl ?_
         refine wpI_nil ?_
         refine jnK_n kz8 [0, 100, 101] ⟨trivial, Option.some.inj h⟩ (leS2_c rfl rfl (leS2_c rfl rfl (leS2_c rfl rfl (leS2_c rfl rfl (leS2_c rfl rfl (leS2_c rfl rfl (leS2_c rfl rfl (leS2_c rfl rfl leS2_n)))))))) (leH2_c rfl rfl rfl rfl rfl rfl (leH2_c rfl rfl rfl rfl rfl rfl (leH2_c rfl rfl rfl rfl rfl rfl leH2_n))) rfl rfl
        ·refine d_guardF rfl rfl ?_
         refine d_guardF rfl rfl ?_
         refine d_pickT rfl rfl rfl ?_
         refine wpI_s rfl trivial ?_
         refine d_guardF rfl rfl ?_
         refine d_guardF rfl rfl ?_
         refine d_guardF rfl rfl ?_
         refine d_pickT rfl rfl rfl ?_
         refine wpI_s rfl trivial ?_
         refine d_guardF rfl rfl ?_
         refine d_guardF rfl rfl ?_
         refine d_guardF rfl rfl ?_
         refine d_pickT rfl rfl rfl ?_
         refine wpI_nil ?_
         refine jnK_n kz8 [0, 100, 101] ⟨trivial, Option.some.inj h⟩ (leS2_c rfl rfl (leS2_c rfl rfl (leS2_c rfl rfl (leS2_c rfl rfl (leS2_c rfl rfl (leS2_c rfl rfl (leS2_c rfl rfl (leS2_c rfl rfl leS2_n)))))))) (leH2_c rfl rfl rfl rfl rfl rfl (leH2_c rfl rfl rfl rfl rfl rfl (leH2_c rfl rfl rfl rfl rfl rfl leH2_n))) rfl rfl
       ·refine d_guardF rfl rfl ?_
        refine d_guardF rfl rfl ?_
        refine d_pickT rfl rfl rfl ?_
        refine wpI_s rfl trivial ?_
        refine d_guardF rfl rfl ?_
        refine d_guardF rfl rfl ?_
        refine d_guardF rfl rfl ?_
        refine d_pickT rfl rfl rfl ?_
        refine wpI_s rfl trivial ?_
        refine d_guardF rfl rfl ?_
        refine d_guardF rfl rfl ?_
        refine d_guardF rfl rfl ?_
        refine d_pickT rfl rfl rfl ?_
        refine wpI_s rfl trivial ?_
        refine d_guardF rfl rfl ?_
        refine d_guardF rfl rfl ?_
        refine d_guardF rfl rfl ?_
        refine d_pickT rfl rfl rfl ?_
        refine wpI_nil ?_
        refine jnK_n kz8 [0, 100, 101] ⟨trivial, Option.some.inj h⟩ (leS2_c rfl rfl (leS2_c rfl rfl (leS2_c rfl rfl (leS2_c rfl rfl (leS2_c rfl rfl (leS2_c rfl rfl (leS2_c rfl rfl (leS2_c rfl rfl leS2_n)))))))) (leH2_c rfl rfl rfl rfl rfl rfl (leH2_c rfl rfl rfl rfl rfl rfl (leH2_c rfl rfl rfl rfl rfl rfl leH2_n))) rfl rfl
      ·refine d_guardF rfl rfl ?_
       refine d_pickT rfl rfl rfl ?_
       refine wpI_s rfl trivial ?_
       refine d_guardF rfl rfl ?_
       refine d_guardF rfl rfl ?_
       refine d_guardF rfl rfl ?_
       refine d_pickT rfl rfl rfl ?_
       refine wpI_s rfl trivial ?_
       refine d_guardF rfl rfl ?_
       refine d_guardF rfl rfl ?_
       refine d_guardF rfl rfl ?_
       refine d_pickT rfl rfl rfl ?_
       refine wpI_s rfl trivial ?_
       refine d_guardF rfl rfl ?_
       refine d_guardF rfl rfl ?_
       refine d_guardF rfl rfl ?_
       refine d_pickT rfl rfl rfl ?_
       refine wpI_s rfl trivial ?_
       refine d_guardF rfl rfl ?_
       refine d_guardF rfl rfl ?_
       refine d_guardF rfl rfl ?_
       refine d_pickT rfl rfl rfl ?_
       refine wpI_nil ?_
       refine jnK_n kz8 [0, 100, 101] ⟨trivial, Option.some.inj h⟩ (leS2_c rfl rfl (leS2_c rfl rfl (leS2_c rfl rfl (leS2_c rfl rfl (leS2_c rfl rfl (leS2_c rfl rfl (leS2_c rfl rfl (leS2_c rfl rfl leS2_n)))))))) (leH2_c rfl rfl rfl rfl rfl rfl (leH2_c rfl rfl rfl rfl rfl rfl (leH2_c rfl rfl rfl rfl rfl rfl leH2_n))) rfl rfl
     ·refine d_guardF rfl rfl ?_
      refine d_pickT rfl rfl rfl ?_
      refine wpI_s rfl trivial ?_
      refine d_guardF rfl rfl ?_
      refine d_guardF rfl rfl ?_
      refine d_pickT rfl rfl rfl ?_
      refine wpI_s rfl trivial ?_
      refine d_guardF rfl rfl ?_
      refine d_guardF rfl rfl ?_
      refine d_guardF rfl rfl ?_
      refine d_pickT rfl rfl rfl ?_
      refine wpI_s rfl trivial ?_
      refine d_guardF rfl rfl ?_
      refine d_guardF rfl rfl ?_
      refine d_guardF rfl rfl ?_
      refine d_pickT rfl rfl rfl ?_
      refine wpI_s rfl trivial ?_
      refine d_guardF rfl rfl ?_
      refine d_guardF rfl rfl ?_
      refine d_guardF rfl rfl ?_
      refine d_pickT rfl rfl rfl ?_
      refine wpI_s rfl trivial ?_
      refine d_guardF rfl rfl ?_
      refine d_guardF rfl rfl ?_
      refine d_guardF rfl rfl ?_
      refine d_pickT rfl rfl rfl ?_
      refine wpI_nil ?_
      refine jnK_n kz8 [0, 100, 101] ⟨trivial, Option.some.inj h⟩ (leS2_c rfl rfl (leS2_c rfl rfl (leS2_c rfl rfl (leS2_c rfl rfl (leS2_c rfl rfl (leS2_c rfl rfl (leS2_c rfl rfl (leS2_c rfl rfl leS2_n)))))))) (leH2_c rfl rfl rfl rfl rfl rfl (leH2_c rfl rfl rfl rfl rfl rfl (leH2_c rfl rfl rfl rfl rfl rfl leH2_n))) rfl rfl
    ·refine d_guardF rfl rfl ?_
     refine d_pickT rfl rfl rfl ?_
     refine wpI_s rfl trivial ?_
     refine d_guardF rfl rfl ?_
     refine d_guardF rfl rfl ?_
     refine d_pickT rfl rfl rfl ?_
     refine wpI_s rfl trivial ?_
     refine d_guardF rfl rfl ?_
     refine d_guardF rfl rfl ?_
     refine d_pickT rfl rfl rfl ?_
     refine wpI_s rfl trivial ?_
     refine d_guardF rfl rfl ?_
     refine d_guardF rfl rfl ?_
     refine d_guardF rfl rfl ?_
     refine d_pickT rfl rfl rfl ?_
     refine wpI_s rfl trivial ?_
     refine d_guardF rfl rfl ?_
     refine d_guardF rfl rfl ?_
     refine d_guardF rfl rfl ?_
     refine d_pickT rfl rfl rfl ?_
     refine wpI_s rfl trivial ?_
     refine d_guardF rfl rfl ?_
     refine d_guardF rfl rfl ?_
     refine d_guardF rfl rfl ?_
     refine d_pickT rfl rfl rfl ?_
     refine wpI_s rfl trivial ?_
     refine d_guardF rfl rfl ?_
     refine d_guardF rfl rfl ?_
     refine d_guardF rfl rfl ?_
     refine d_pickT rfl rfl rfl ?_
     refine wpI_nil ?_
     refine jnK_n kz8 [0, 100, 101] ⟨trivial, Option.some.inj h⟩ (leS2_c rfl rfl (leS2_c rfl rfl (leS2_c rfl rfl (leS2_c rfl rfl (leS2_c rfl rfl (leS2_c rfl rfl (leS2_c rfl rfl (leS2_c rfl rfl leS2_n)))))))) (leH2_c rfl rfl rfl rfl rfl rfl (leH2_c rfl rfl rfl rfl rfl rfl (leH2_c rfl rfl rfl rfl rfl rfl leH2_n))) rfl rfl
   ·refine d_guardF rfl rfl ?_
    refine d_pickT rfl rfl rfl ?_
    refine wpI_s rfl trivial ?_
    refine d_guardF rfl rfl ?_
    refine d_guardF rfl rfl ?_
    refine d_pickT rfl rfl rfl ?_
    refine wpI_s rfl trivial ?_
    refine d_guardF rfl rfl ?_
    refine d_guardF rfl rfl ?_
    refine d_pickT rfl rfl rfl ?_
    refine wpI_s rfl trivial ?_
    refine d_guardF rfl rfl ?_
    refine d_guardF rfl rfl ?_
    refine d_pickT rfl rfl rfl ?_
    refine wpI_s rfl trivial ?_
    refine d_guardF rfl rfl ?_
    refine d_guardF rfl rfl ?_
    refine d_guardF rfl rfl ?_
    refine d_pickT rfl rfl rfl ?_
    refine wpI_s rfl trivial ?_
    refine d_guardF rfl rfl ?_
    refine d_guardF rfl rfl ?_
    refine d_guardF rfl rfl ?_
    refine d_pickT rfl rfl rfl ?_
    refine wpI_s rfl trivial ?_
    refine d_guardF rfl rfl ?_
    refine d_guardF rfl rfl ?_
    refine d_guardF rfl rfl ?_
    refine d_pickT rfl rfl rfl ?_
    refine wpI_s rfl trivial ?_
    refine d_guardF rfl rfl ?_
    refine d_guardF rfl rfl ?_
    refine d_guardF rfl rfl ?_
    refine d_pickT rfl rfl rfl ?_
    refine wpI_nil ?_
    refine jnK_n kz8 [0, 100, 101] ⟨trivial, Option.some.inj h⟩ (leS2_c rfl rfl (leS2_c rfl rfl (leS2_c rfl rfl (leS2_c rfl rfl (leS2_c rfl rfl (leS2_c rfl rfl (leS2_c rfl rfl (leS2_c rfl rfl leS2_n)))))))) (leH2_c rfl rfl rfl rfl rfl rfl (leH2_c rfl rfl rfl rfl rfl rfl (leH2_c rfl rfl rfl rfl rfl rfl leH2_n))) rfl rfl
  ·rintro kz9 ⟨_, rfl⟩
   show wpC _ _ _ _ _ (St.mk _ _ _ _)
   have h := hko10; clear hko10; try dsimp only at h
   refine wpC_condT rfl ?_
   refine wpC_seq ?_
   refine d_reg rfl ?_
   refine wpI_s rfl trivial ?_
   refine wpI_s rfl trivial ?_
   refine wpI_nil ?_
   refine seqK_n ?_
   refine wpC_ret ?_
   refine seqK_r ?_
   obtain rfl := Option.some.inj h
   exact d_ret2 [] [] ⟨rfl, rfl, rfl⟩ (rIs_t rfl rfl) leH2_n leH2_n rfl
 exact key.cong rfl blkEq_n (blkEq_c rfl rfl rfl rfl blkEq_n)

def ir_portcullislaw25_VerityTears_4 : IFn := ⟨203, (.seq (.reg [] (.cons ⟨none, (.w (some 6) (.box 23 32 (.int .u8 0) (.t 0)))⟩ (.cons ⟨none, (.w (some 11) (.box 26 2 (.int .i64 0) (.t 5)))⟩ (.cons ⟨none, (.s 12 (.mv (.k (.bool false))))⟩ .nil)))) (.seq (.reg [] (.cons ⟨none, (.call (some 30) 4 [])⟩ (.cons ⟨none, (.s 13 (.mv (.t 30)))⟩ .nil))) (.seq (.seqJ (.reg [] (.cons ⟨none, (.s 31 (.mv (.t 13)))⟩ (.cons ⟨none, (.s 32 (.un .not (.t 31)))⟩ (.cons ⟨none, (.s 33 (.mv (.t 32)))⟩ (.cons ⟨(some (33, false)), (.s 34 (.mv (.t 1)))⟩ (.cons ⟨(some (33, false)), (.s 35 (.bin .lss (.t 34) (.k (.int .i64 0))))⟩ (.cons ⟨none, (.s 36 (.pick (.t 33) (.k (.bool true)) (.t 35)))⟩ (.cons ⟨none, (.s 37 (.mv (.t 36)))⟩ (.cons ⟨(some (37, false)), (.s 38 (.mv (.t 1)))⟩ (.cons ⟨(some (37, false)), (.s 39 (.bin .gtr (.t 38) (.k (.int .i64 1073741824))))⟩ (.cons ⟨none, (.s 40 (.pick (.t 37) (.k (.bool true)) (.t 39)))⟩ (.cons ⟨none, (.s 41 (.mv (.t 40)))⟩ (.cons ⟨(some (41, false)), (.s 42 (.mv (.t 2)))⟩ (.cons ⟨(some (41, false)), (.s 43 (.bin .lss (.t 42) (.k (.int .i64 0))))⟩ (.cons ⟨none, (.s 44 (.pick (.t 41) (.k (.bool true)) (.t 43)))⟩ (.cons ⟨none, (.s 45 (.mv (.t 44)))⟩ (.cons ⟨(some (45, false)), (.s 46 (.mv (.t 2)))⟩ (.cons ⟨(some (45, false)), (.s 47 (.bin .gtr (.t 46) (.k (.int .i64 31))))⟩ (.cons ⟨none, (.s 48 (.pick (.t 45) (.k (.bool true)) (.t 47)))⟩ (.cons ⟨none, (.s 49 (.mv (.t 48)))⟩ (.cons ⟨(some (49, false)), (.s 50 (.mv (.t 3)))⟩ (.cons ⟨(some (49, false)), (.s 51 (.len (.t 50)))⟩ (.cons ⟨(some (49, false)), (.s 52 (.bin .neq (.t 51) (.k (.int .i64 64))))⟩ (.cons ⟨none, (.s 53 (.pick (.t 49) (.k (.bool true)) (.t 52)))⟩ (.cons ⟨none, (.s 54 (.mv (.t 53)))⟩ (.cons ⟨(some (54, false)), (.s 55 (.mv (.t 4)))⟩ (.cons ⟨(some (54, false)), (.s 56 (.len (.t 55)))⟩ (.cons ⟨(some (54, false)), (.s 57 (.bin .neq (.t 56) (.k (.int .i64 64))))⟩ (.cons ⟨none, (.s 58 (.pick (.t 54) (.k (.bool true)) (.t 57)))⟩ (.cons ⟨none, (.s 59 (.mv (.t 58)))⟩ (.cons ⟨(some (59, false)), (.s 60 (.fa 0 (.t 11)))⟩ (.cons ⟨(some (59, false)), (.r 61 (.ld (.int .i64 0) (.t 60)))⟩ (.cons ⟨(some (59, false)), (.s 62 (.bin .lss (.t 61) (.k (.int .i64 0))))⟩ (.cons ⟨none, (.s 63 (.pick (.t 59) (.k (.bool true)) (.t 62)))⟩ (.cons ⟨none, (.s 64 (.mv (.t 63)))⟩ (.cons ⟨(some (64, false)), (.s 65 (.fa 0 (.t 11)))⟩ (.cons ⟨(some (64, false)), (.r 66 (.ld (.int .i64 0) (.t 65)))⟩ (.cons ⟨(some (64, false)), (.s 67 (.bin .gtr (.t 66) (.k (.int .i64 1))))⟩ (.cons ⟨none, (.s 68 (.pick (.t 64) (.k (.bool true)) (.t 67)))⟩ .nil))))))))))))))))))))))))))))))))))))))) (.cond (.t 68) (.seq (.reg [] (.cons ⟨none, (.s 69 (.mv (.t 13)))⟩ (.cons ⟨none, (.s 12 (.mv (.t 69)))⟩ .nil))) .ret) .skip)) (.seq (.reg [] (.cons ⟨none, (.r 71 (.lda 32 (.t 6)))⟩ (.cons ⟨none, (.s 72 (.mv (.t 1)))⟩ (.cons ⟨none, (.s 73 (.mv (.t 2)))⟩ (.cons ⟨none, (.s 74 (.mv (.t 3)))⟩ (.cons ⟨none, (.call (some 75) 5 [(.t 71), (.t 72), (.t 73), (.t 74)])⟩ (.cons ⟨none, (.s 70 (.mv (.t 75)))⟩ (.cons ⟨none, (.s 76 (.ext (.t 70) 0))⟩ (.cons ⟨none, (.s 77 (.ext (.t 70) 1))⟩ (.cons ⟨none, (.s 14 (.mv (.t 76)))⟩ (.cons ⟨none, (.s 15 (.mv (.t 77)))⟩ .nil))))))))))) (.seq (.reg [] (.cons ⟨none, (.r 79 (.lda 32 (.t 6)))⟩ (.cons ⟨none, (.s 80 (.mv (.t 1)))⟩ (.cons ⟨none, (.s 81 (.mv (.t 2)))⟩ (.cons ⟨none, (.s 82 (.mv (.t 4)))⟩ (.cons ⟨none, (.call (some 83) 5 [(.t 79), (.t 80), (.t 81), (.t 82)])⟩ (.cons ⟨none, (.s 78 (.mv (.t 83)))⟩ (.cons ⟨none, (.s 84 (.ext (.t 78) 0))⟩ (.cons ⟨none, (.s 85 (.ext (.t 78) 1))⟩ (.cons ⟨none, (.s 16 (.mv (.t 84)))⟩ (.cons ⟨none, (.s 17 (.mv (.t 85)))⟩ .nil))))))))))) (.seq (.reg [] (.cons ⟨none, (.call (some 86) 6 [(.k (.int .i64 128))])⟩ (.cons ⟨none, (.s 18 (.mv (.t 86)))⟩ .nil))) (.seq (.reg [] (.cons ⟨none, (.s 88 (.mv (.t 18)))⟩ (.cons ⟨none, (.call (some 89) 7 [(.t 88), (.k (.int .i64 1))])⟩ (.cons ⟨none, (.s 87 (.mv (.t 89)))⟩ (.cons ⟨none, (.s 90 (.ext (.t 87) 0))⟩ (.cons ⟨none, (.s 91 (.ext (.t 87) 1))⟩ (.cons ⟨none, (.s 19 (.mv (.t 90)))⟩ (.cons ⟨none, (.s 20 (.mv (.t 91)))⟩ .nil)))))))) (.seq (.seq (.reg [] (.cons ⟨none, (.s 92 (.mv (.t 20)))⟩ (.cons ⟨none, (.call (some 93) 8 [(.t 92)])⟩ (.cons ⟨none, (.s 94 (.bin .neq (.t 93) (.k (.int .i64 0))))⟩ .nil)))) (.cond (.t 94) (.seq (.reg [] (.cons ⟨none, (.s 12 (.mv (.k (.bool false))))⟩ .nil)) .ret) .skip)) (.seq (.reg [] (.cons ⟨none, (.s 95 (.mv (.t 19)))⟩ (.cons ⟨none, (.s 96 (.mv (.t 2)))⟩ (.cons ⟨none, (.s 97 (.mv (.t 14)))⟩ (.cons ⟨none, (.call (some 98) 9 [(.t 95), (.t 96), (.t 97)])⟩ (.cons ⟨none, (.s 21 (.mv (.t 98)))⟩ .nil)))))) (.seq (.reg [] (.cons ⟨none, (.s 99 (.mv (.t 18)))⟩ (.cons ⟨none, (.r 100 (.lda 2 (.t 11)))⟩ (.cons ⟨none, (.call (some 101) 10 [(.t 99), (.t 100)])⟩ .nil)))) (.seq (.reg [] (.cons ⟨none, (.s 102 (.mv (.t 19)))⟩ (.cons ⟨none, (.s 103 (.mv (.t 2)))⟩ (.cons ⟨none, (.s 104 (.mv (.t 16)))⟩ (.cons ⟨none, (.call (some 105) 9 [(.t 102), (.t 103), (.t 104)])⟩ (.cons ⟨none, (.s 22 (.mv (.t 105)))⟩ .nil)))))) (.seq (.reg [] (.cons ⟨none, (.s 106 (.mv (.t 18)))⟩ (.cons ⟨none, (.call (some 107) 11 [(.t 106)])⟩ .nil))) (.seq (.reg [] (.cons ⟨none, (.s 109 (.mv (.t 19)))⟩ (.cons ⟨none, (.s 110 (.mv (.t 2)))⟩ (.cons ⟨none, (.call (some 111) 12 [(.t 109), (.t 110)])⟩ (.cons ⟨none, (.s 108 (.mv (.t 111)))⟩ (.cons ⟨none, (.s 112 (.ext (.t 108) 0))⟩ (.cons ⟨none, (.s 113 (.ext (.t 108) 1))⟩ (.cons ⟨none, (.s 23 (.mv (.t 112)))⟩ (.cons ⟨none, (.s 24 (.mv (.t 113)))⟩ .nil))))))))) (.seq (.reg [] (.cons ⟨none, (.w (some 114) (.mks 5 1 (.int .u8 0) (.k (.int .i64 80)) (.k (.int .i64 80))))⟩ (.cons ⟨none, (.s 25 (.mv (.t 114)))⟩ .nil))) (.seq (.seq (.reg [] (.cons ⟨none, (.s 26 (.mv (.k (.int .i64 0))))⟩ .nil)) (.block 0 (.loop (.seq (.seq (.reg [] (.cons ⟨none, (.s 115 (.mv (.t 26)))⟩ (.cons ⟨none, (.s 116 (.bin .lss (.t 115) (.k (.int .i64 80))))⟩ .nil))) (.cond (.t 116) .skip (.exit 0))) (.seq (.block 1 (.seq (.reg [] (.cons ⟨none, (.s 119 (.mv (.t 25)))⟩ (.cons ⟨none, (.s 120 (.mv (.t 26)))⟩ (.cons ⟨none, (.s 121 (.mv (.t 14)))⟩ (.cons ⟨none, (.s 122 (.mv (.t 26)))⟩ (.cons ⟨none, (.s 123 (.is 1 (.t 121) (.t 122)))⟩ (.cons ⟨none, (.r 124 (.ld (.int .u8 0) (.t 123)))⟩ (.cons ⟨none, (.s 125 (.is 1 (.t 119) (.t 120)))⟩ (.cons ⟨none, (.w none (.st (.t 125) (.t 124)))⟩ .nil))))))))) (.seq (.seq (.reg [] (.cons ⟨none, (.s 126 (.fa 0 (.t 11)))⟩ (.cons ⟨none, (.r 127 (.ld (.int .i64 0) (.t 126)))⟩ (.cons ⟨none, (.s 128 (.bin .eql (.t 127) (.k (.int .i64 0))))⟩ (.cons ⟨none, (.s 129 (.mv (.t 128)))⟩ (.cons ⟨(some (129, true)), (.s 130 (.mv (.t 26)))⟩ (.cons ⟨(some (129, true)), (.s 131 (.fa 1 (.t 11)))⟩ (.cons ⟨(some (129, true)), (.r 132 (.ld (.int .i64 0) (.t 131)))⟩ (.cons ⟨(some (129, true)), (.s 133 (.bin .lss (.t 130) (.t 132)))⟩ (.cons ⟨none, (.s 134 (.pick (.t 129) (.t 133) (.k (.bool false))))⟩ (.cons ⟨none, (.s 135 (.mv (.t 134)))⟩ (.cons ⟨(some (135, false)), (.s 136 (.fa 0 (.t 11)))⟩ (.cons ⟨(some (135, false)), (.r 137 (.ld (.int .i64 0) (.t 136)))⟩ (.cons ⟨(some (135, false)), (.s 138 (.bin .eql (.t 137) (.k (.int .i64 1))))⟩ (.cons ⟨none, (.s 139 (.pick (.t 135) (.k (.bool true)) (.t 138)))⟩ .nil))))))))))))))) (.cond (.t 139) (.reg [] (.cons ⟨none, (.s 140 (.mv (.t 25)))⟩ (.cons ⟨none, (.s 141 (.mv (.t 26)))⟩ (.cons ⟨none, (.s 142 (.is 1 (.t 140) (.t 141)))⟩ (.cons ⟨none, (.w none (.st (.t 142) (.k (.int .u8 255))))⟩ .nil))))) .skip)) (.seq (.reg [] (.cons ⟨none, (.s 143 (.fa 0 (.t 11)))⟩ (.cons ⟨none, (.r 144 (.ld (.int .i64 0) (.t 143)))⟩ (.cons ⟨none, (.s 145 (.bin .eql (.t 144) (.k (.int .i64 1))))⟩ (.cons ⟨none, (.s 146 (.mv (.t 145)))⟩ (.cons ⟨(some (146, true)), (.s 147 (.mv (.t 26)))⟩ (.cons ⟨(some (146, true)), (.s 148 (.fa 1 (.t 11)))⟩ (.cons ⟨(some (146, true)), (.r 149 (.ld (.int .i64 0) (.t 148)))⟩ (.cons ⟨(some (146, true)), (.s 150 (.bin .lss (.t 147) (.t 149)))⟩ (.cons ⟨none, (.s 151 (.pick (.t 146) (.t 150) (.k (.bool false))))⟩ .nil)))))))))) (.cond (.t 151) (.reg [] (.cons ⟨none, (.s 152 (.mv (.t 25)))⟩ (.cons ⟨none, (.s 153 (.mv (.t 26)))⟩ (.cons ⟨none, (.s 154 (.mv (.t 16)))⟩ (.cons ⟨none, (.s 155 (.mv (.t 26)))⟩ (.cons ⟨none, (.s 156 (.is 1 (.t 154) (.t 155)))⟩ (.cons ⟨none, (.r 157 (.ld (.int .u8 0) (.t 156)))⟩ (.cons ⟨none, (.s 158 (.is 1 (.t 152) (.t 153)))⟩ (.cons ⟨none, (.w none (.st (.t 158) (.t 157)))⟩ .nil))))))))) .skip))))) (.reg [] (.cons ⟨none, (.s 117 (.mv (.t 26)))⟩ (.cons ⟨none, (.s 118 (.bin .add (.t 117) (.k (.int .i64 1))))⟩ (.cons ⟨none, (.s 26 (.mv (.t 118)))⟩ .nil))))))))) (.seq (.reg [] (.cons ⟨none, (.s 159 (.mv (.t 19)))⟩ (.cons ⟨none, (.s 160 (.mv (.t 2)))⟩ (.cons ⟨none, (.s 161 (.mv (.t 16)))⟩ (.cons ⟨none, (.call (some 162) 9 [(.t 159), (.t 160), (.t 161)])⟩ (.cons ⟨none, (.s 27 (.mv (.t 162)))⟩ .nil)))))) (.seq (.reg [] (.cons ⟨none, (.s 164 (.mv (.t 19)))⟩ (.cons ⟨none, (.s 165 (.mv (.t 2)))⟩ (.cons ⟨none, (.call (some 166) 12 [(.t 164), (.t 165)])⟩ (.cons ⟨none, (.s 163 (.mv (.t 166)))⟩ (.cons ⟨none, (.s 167 (.ext (.t 163) 0))⟩ (.cons ⟨none, (.s 168 (.ext (.t 163) 1))⟩ (.cons ⟨none, (.s 28 (.mv (.t 167)))⟩ (.cons ⟨none, (.s 29 (.mv (.t 168)))⟩ .nil))))))))) (.seq (.reg [] (.cons ⟨none, (.s 169 (.mv (.t 21)))⟩ (.cons ⟨none, (.call (some 170) 8 [(.t 169)])⟩ (.cons ⟨none, (.s 171 (.bin .eql (.t 170) (.k (.int .i64 0))))⟩ (.cons ⟨none, (.s 172 (.mv (.t 171)))⟩ (.cons ⟨(some (172, true)), (.s 173 (.mv (.t 22)))⟩ (.cons ⟨(some (172, true)), (.call (some 174) 8 [(.t 173)])⟩ (.cons ⟨(some (172, true)), (.s 175 (.bin .eql (.t 174) (.k (.int .i64 8))))⟩ (.cons ⟨none, (.s 176 (.pick (.t 172) (.t 175) (.k (.bool false))))⟩ (.cons ⟨none, (.s 177 (.mv (.t 176)))⟩ (.cons ⟨(some (177, true)), (.s 178 (.mv (.t 23)))⟩ (.cons ⟨(some (177, true)), (.r 179 (.b2s (.t 178)))⟩ (.cons ⟨(some (177, true)), (.s 180 (.mv (.t 25)))⟩ (.cons ⟨(some (177, true)), (.r 181 (.b2s (.t 180)))⟩ (.cons ⟨(some (177, true)), (.s 182 (.binS .eql (.t 179) (.t 181)))⟩ (.cons ⟨none, (.s 183 (.pick (.t 177) (.t 182) (.k (.bool false))))⟩ (.cons ⟨none, (.s 184 (.mv (.t 183)))⟩ (.cons ⟨(some (184, true)), (.s 185 (.mv (.t 27)))⟩ (.cons ⟨(some (184, true)), (.call (some 186) 8 [(.t 185)])⟩ (.cons ⟨(some (184, true)), (.s 187 (.bin .eql (.t 186) (.k (.int .i64 0))))⟩ (.cons ⟨none, (.s 188 (.pick (.t 184) (.t 187) (.k (.bool false))))⟩ (.cons ⟨none, (.s 189 (.mv (.t 188)))⟩ (.cons ⟨(some (189, true)), (.s 190 (.mv (.t 28)))⟩ (.cons ⟨(some (189, true)), (.r 191 (.b2s (.t 190)))⟩ (.cons ⟨(some (189, true)), (.s 192 (.mv (.t 16)))⟩ (.cons ⟨(some (189, true)), (.r 193 (.b2s (.t 192)))⟩ (.cons ⟨(some (189, true)), (.s 194 (.binS .eql (.t 191) (.t 193)))⟩ (.cons ⟨none, (.s 195 (.pick (.t 189) (.t 194) (.k (.bool false))))⟩ (.cons ⟨none, (.s 196 (.mv (.t 195)))⟩ (.cons ⟨(some (196, true)), (.s 197 (.mv (.t 19)))⟩ (.cons ⟨(some (196, true)), (.r 198 (.lda 32 (.t 6)))⟩ (.cons ⟨(some (196, true)), (.s 199 (.mv (.t 1)))⟩ (.cons ⟨(some (196, true)), (.s 200 (.mv (.t 2)))⟩ (.cons ⟨(some (196, true)), (.call (some 201) 13 [(.t 197), (.t 198), (.t 199), (.t 200)])⟩ (.cons ⟨none, (.s 202 (.pick (.t 196) (.t 201) (.k (.bool false))))⟩ (.cons ⟨none, (.s 12 (.mv (.t 202)))⟩ .nil)))))))))))))))))))))))))))))))))))) .ret)))))))))))))))))), [(.tmp 12)]⟩
theorem low_portcullislaw25_VerityTears_4 : lowF Try.prog Try.f3 = some ir_portcullislaw25_VerityTears_4.strip := by kernel_rfl
theorem ok_portcullislaw25_VerityTears_4 {fu : Nat} {key_ : List Int} {version_ : Int} {i_ : Int} {c_0 : Int} {c_1 : Int} {t9001 : Bool} (h : fn_portcullislaw25_VerityTears_4 fu key_ version_ i_ c_0 c_1 = some t9001) :
  EV.Fn Try.prog 3 [.g (flat [.i .u8 key_]), ib .i64 version_, ib .i64 i_, .c (.v (.slice none 0 0)), .c (.v (.slice none 0 0)), .g (flat [.c (.v (.int .i64 c_0)), .c (.v (.int .i64 c_1))])] [] [] (fun v u nw => v = bb t9001 ∧ u = [] ∧ nw = []) := by
 have key : EV.Fn Try.prog 3 [.g (flat [.i .u8 key_]), ib .i64 version_, ib .i64 i_, .c (.v (.slice none 0 0)), .c (.v (.slice none 0 0)), .g (flat [.c (.v (.int .i64 c_0)), .c (.v (.int .i64 c_1))])] [] [] (fun v u nw => v = bb t9001 ∧ u = [] ∧ nw = []) := by
  unfold fn_portcullislaw25_VerityTears_4 at h
  refine d_fn (i := ir_portcullislaw25_VerityTears_4) (fn := Try.f3) (sl0 := [(0, .g (flat [.i .u8 key_])), (1, ib .i64 version_), (2, ib .i64 i_), (3, .c (.v (.slice none 0 0))), (4, .c (.v (.slice none 0 0))), (5, .g (flat [.c (.v (.int .i64 c_0)), .c (.v (.int .i64 c_1))]))]) (hp0 := []) (by kernel_rfl) low_portcullislaw25_VerityTears_4 mo rfl rfl rfl fun F z0 => ?_
  dsimp only [ir_portcullislaw25_VerityTears_4]
  refine gd_e h fun Xh_key_ h => ?_
  refine wpC_seq ?_
  refine d_reg rfl ?_
  refine d_box rfl (fun _ => trivial) rfl fun kb1 kz2 => ?_
  refine d_box rfl (fun _ => trivial) rfl fun kb3 kz4 => ?_
  refine wpI_s rfl trivial ?_
  refine wpI_nil ?_
  refine seqK_n ?_
  refine wpC_seq ?_
  refine d_reg rfl ?_
  refine bind_e h fun t7 ho6 h => ?_
  refine d_call (ok_portcullislaw25_alive     (h := ho6)) rfl rfl haveRw_n haveRo_n (own_of rfl) ?_
  rintro _ _ _ kz8 ⟨rfl, rfl, rfl⟩
  refine ⟨_, rfl, trivial, ?_⟩
  refine wpI_s rfl trivial ?_
  refine wpI_nil ?_
  refine seqK_n ?_
  refine wpC_seq ?_
  refine bind_e h fun o10 h hko10 => ?_
  refine d_join (fun (z : Nat) => (match z with | kz9 => ⟨[(1, ib .i64 version_), (2, ib .i64 i_), (3, .c (.v (.slice none 0 0))), (4, .c (.v (.slice none 0 0))), (6, .c (.p 100 kb1 0)), (11, .c (.p 101 kb3 0)), (13, bb t7), (68, bb true)], [⟨100, kb1, 23, false, (0, 0), (.v (.int .u8 0)), flat [.i .u8 key_]⟩, ⟨101, kb3, 26, false, (0, 0), (.v (.int .i64 0)), flat [.c (.v (.int .i64 c_0)), .c (.v (.int .i64 c_1))]⟩], 102, kz9⟩ : St)) (fun (z : Nat) => match z with | kz9 => (True) ∧ () = o10) ?_ ?_
  ·refine d_reg rfl ?_
   refine wpI_s rfl trivial ?_
   refine d_b rfl trivial h fun t11 h => ?_
   refine wpI_s rfl trivial ?_
   refine d_guard rfl h (fun h => ?_) (fun h => ?_)
   ·refine wpI_s rfl trivial ?_
    refine d_guardT rfl ?_
    refine d_b rfl trivial h fun t12 h => ?_
    refine d_pickF rfl rfl rfl ?_
    refine wpI_s rfl trivial ?_
    refine d_guard rfl h (fun h => ?_) (fun h => ?_)
    ·refine wpI_s rfl trivial ?_
     refine d_guardT rfl ?_
     refine d_b rfl trivial h fun t13 h => ?_
     refine d_pickF rfl rfl rfl ?_
     refine wpI_s rfl trivial ?_
     refine d_guard rfl h (fun h => ?_) (fun h => ?_)
     ·refine wpI_s rfl trivial ?_
      refine d_guardT rfl ?_
      refine d_b rfl trivial h fun t14 h => ?_
      refine d_pickF rfl rfl rfl ?_
      refine wpI_s rfl trivial ?_
      refine d_guard rfl h (fun h => ?_) (fun h => ?_)
      ·refine wpI_s rfl trivial ?_
       refine d_guardT rfl ?_
       refine d_b rfl trivial h fun t15 h => ?_
       refine d_pickF rfl rfl rfl ?_
       refine wpI_s rfl trivial ?_
       refine d_guard rfl h (fun h => ?_) (fun h => ?_)
       ·refine wpI_s rfl trivial ?_
        refine d_guardT rfl ?_
        refine wpI_s rfl trivial ?_
        refine d_guardT rfl ?_
        refine d_bf (w := true) rfl trivial (by decide) ?_
        refine d_pickF rfl rfl rfl ?_
        refine wpI_s rfl trivial ?_
        refine d_guardF rfl rfl ?_
        refine d_guardF rfl rfl ?_
        refine d_guardF rfl rfl ?_
        refine d_pickT rfl rfl rfl ?_
        refine wpI_s rfl trivial ?_
        refine d_guardF rfl rfl ?_
        refine d_guardF rfl rfl ?_
        refine d_guardF rfl rfl ?_
        refine d_pickT rfl rfl rfl ?_
        refine wpI_s rfl trivial ?_
        refine d_guardF rfl rfl ?_
        refine d_guardF rfl rfl ?_
        refine d_guardF rfl rfl ?_
        refine d_pickT rfl rfl rfl ?_
        refine wpI_nil ?_
        refine jnK_n kz8 [100, 101] ⟨trivial, Option.some.inj h⟩ (leS2_c rfl rfl (leS2_c rfl rfl (leS2_c rfl rfl (leS2_c rfl rfl (leS2_c rfl rfl (leS2_c rfl rfl (leS2_c rfl rfl (leS2_c rfl rfl leS2_n)))))))) (leH2_c rfl rfl rfl rfl rfl rfl (leH2_c rfl rfl rfl rfl rfl rfl leH2_n)) rfl rfl
       ·refine d_guardF rfl rfl ?_
        refine d_guardF rfl rfl ?_
        refine d_pickT rfl rfl rfl ?_
        refine wpI_s rfl trivial ?_
        refine d_guardF rfl rfl ?_
        refine d_guardF rfl rfl ?_
        refine d_guardF rfl rfl ?_
        refine d_pickT rfl rfl rfl ?_
        refine wpI_s rfl trivial ?_
        refine d_guardF rfl rfl ?_
        refine d_guardF rfl rfl ?_
        refine d_guardF rfl rfl ?_
        refine d_pickT rfl rfl rfl ?_
        refine wpI_s rfl trivial ?_
        refine d_guardF rfl rfl ?_
        refine d_guardF rfl rfl ?_
        refine d_guardF rfl rfl ?_
        refine d_pickT rfl rfl rfl ?_
        refine wpI_nil ?_
        refine jnK_n kz8 [100, 101] ⟨trivial, Option.some.inj h⟩ (leS2_c rfl rfl (leS2_c rfl rfl (leS2_c rfl rfl (leS2_c rfl rfl (leS2_c rfl rfl (leS2_c rfl rfl (leS2_c rfl rfl (leS2_c rfl rfl leS2_n)))))))) (leH2_c rfl rfl rfl rfl rfl rfl (leH2_c rfl rfl rfl rfl rfl rfl leH2_n)) rfl rfl
      ·refine d_guardF rfl rfl ?_
       refine d_pickT rfl rfl rfl ?_
       refine wpI_s rfl trivial ?_
       refine d_guardF rfl rfl ?_
       refine d_guardF rfl rfl ?_
       refine d_guardF rfl rfl ?_
       refine d_pickT rfl rfl rfl ?_
       refine wpI_s rfl trivial ?_
       refine d_guardF rfl rfl ?_
       refine d_guardF rfl rfl ?_
       refine d_guardF rfl rfl ?_
       refine d_pickT rfl rfl rfl ?_
       refine wpI_s rfl trivial ?_
       refine d_guardF rfl rfl ?_
       refine d_guardF rfl rfl ?_
       refine d_guardF rfl rfl ?_
       refine d_pickT rfl rfl rfl ?_
       refine wpI_s rfl trivial ?_
       refine d_guardF rfl rfl ?_
       refine d_guardF rfl rfl ?_
       refine d_guardF rfl rfl ?_
       refine d_pickT rfl rfl rfl ?_
       refine wpI_nil ?_
       refine jnK_n kz8 [100, 101] ⟨trivial, Option.some.inj h⟩ (leS2_c rfl rfl (leS2_c rfl rfl (leS2_c rfl rfl (leS2_c rfl rfl (leS2_c rfl rfl (leS2_c rfl rfl (leS2_c rfl rfl (leS2_c rfl rfl leS2_n)))))))) (leH2_c rfl rfl rfl rfl rfl rfl (leH2_c rfl rfl rfl rfl rfl rfl leH2_n)) rfl rfl
     ·refine d_guardF rfl rfl ?_
      refine d_pickT rfl rfl rfl ?_
      refine wpI_s rfl trivial ?_
      refine d_guardF rfl rfl ?_
      refine d_guardF rfl rfl ?_
      refine d_pickT rfl rfl rfl ?_
      refine wpI_s rfl trivial ?_
      refine d_guardF rfl rfl ?_
      refine d_guardF rfl rfl ?_
      refine d_guardF rfl rfl ?_
      refine d_pickT rfl rfl rfl ?_
      refine wpI_s rfl trivial ?_
      refine d_guardF rfl rfl ?_
      refine d_guardF rfl rfl ?_
      refine d_guardF rfl rfl ?_
      refine d_pickT rfl rfl rfl ?_
      refine wpI_s rfl trivial ?_
      refine d_guardF rfl rfl ?_
      refine d_guardF rfl rfl ?_
      refine d_guardF rfl rfl ?_
      refine d_pickT rfl rfl rfl ?_
      refine wpI_s rfl trivial ?_
      refine d_guardF rfl rfl ?_
      refine d_guardF rfl rfl ?_
      refine d_guardF rfl rfl ?_
      refine d_pickT rfl rfl rfl ?_
      refine wpI_nil ?_
      refine jnK_n kz8 [100, 101] ⟨trivial, Option.some.inj h⟩ (leS2_c rfl rfl (leS2_c rfl rfl (leS2_c rfl rfl (leS2_c rfl rfl (leS2_c rfl rfl (leS2_c rfl rfl (leS2_c rfl rfl (leS2_c rfl rfl leS2_n)))))))) (leH2_c rfl rfl rfl rfl rfl rfl (leH2_c rfl rfl rfl rfl rfl rfl leH2_n)) rfl rfl
    ·refine d_guardF rfl rfl ?_
     refine d_pickT rfl rfl rfl ?_
     refine wpI_s rfl trivial ?_
     refine d_guardF rfl rfl ?_
     refine d_guardF rfl rfl ?_
     refine d_pickT rfl rfl rfl ?_
     refine wpI_s rfl trivial ?_
     refine d_guardF rfl rfl ?_
     refine d_guardF rfl rfl ?_
     refine d_pickT rfl rfl rfl ?_
     refine wpI_s rfl trivial ?_
     refine d_guardF rfl rfl ?_
     refine d_guardF rfl rfl ?_
     refine d_guardF rfl rfl ?_
     refine d_pickT rfl rfl rfl ?_
     refine wpI_s rfl trivial ?_
     refine d_guardF rfl rfl ?_
     refine d_guardF rfl rfl ?_
     refine d_guardF rfl rfl ?_
     refine d_pickT rfl rfl rfl ?_
     refine wpI_s rfl trivial ?_
     refine d_guardF rfl rfl ?_
     refine d_guardF rfl rfl ?_
     refine d_guardF rfl rfl ?_
     refine d_pickT rfl rfl rfl ?_
     refine wpI_s rfl trivial ?_
     refine d_guardF rfl rfl ?_
     refine d_guardF rfl rfl ?_
     refine d_guardF rfl rfl ?_
     refine d_pickT rfl rfl rfl ?_
     refine wpI_nil ?_
     refine jnK_n kz8 [100, 101] ⟨trivial, Option.some.inj h⟩ (leS2_c rfl rfl (leS2_c rfl rfl (leS2_c rfl rfl (leS2_c rfl rfl (leS2_c rfl rfl (leS2_c rfl rfl (leS2_c rfl rfl (leS2_c rfl rfl leS2_n)))))))) (leH2_c rfl rfl rfl rfl rfl rfl (leH2_c rfl rfl rfl rfl rfl rfl leH2_n)) rfl rfl
   ·refine d_guardF rfl rfl ?_
    refine d_pickT rfl rfl rfl ?_
    refine wpI_s rfl trivial ?_
    refine d_guardF rfl rfl ?_
    refine d_guardF rfl rfl ?_
    refine d_pickT rfl rfl rfl ?_
    refine wpI_s rfl trivial ?_
    refine d_guardF rfl rfl ?_
    refine d_guardF rfl rfl ?_
    refine d_pickT rfl rfl rfl ?_
    refine wpI_s rfl trivial ?_
    refine d_guardF rfl rfl ?_
    refine d_guardF rfl rfl ?_
    refine d_pickT rfl rfl rfl ?_
    refine wpI_s rfl trivial ?_
    refine d_guardF rfl rfl ?_
    refine d_guardF rfl rfl ?_
    refine d_guardF rfl rfl ?_
    refine d_pickT rfl rfl rfl ?_
    refine wpI_s rfl trivial ?_
    refine d_guardF rfl rfl ?_
    refine d_guardF rfl rfl ?_
    refine d_guardF rfl rfl ?_
    refine d_pickT rfl rfl rfl ?_
    refine wpI_s rfl trivial ?_
    refine d_guardF rfl rfl ?_
    refine d_guardF rfl rfl ?_
    refine d_guardF rfl rfl ?_
    refine d_pickT rfl rfl rfl ?_
    refine wpI_s rfl trivial ?_
    refine d_guardF rfl rfl ?_
    refine d_guardF rfl rfl ?_
    refine d_guardF rfl rfl ?_
    refine d_pickT rfl rfl rfl ?_
    refine wpI_nil ?_
    refine jnK_n kz8 [100, 101] ⟨trivial, Option.some.inj h⟩ (leS2_c rfl rfl (leS2_c rfl rfl (leS2_c rfl rfl (leS2_c rfl rfl (leS2_c rfl rfl (leS2_c rfl rfl (leS2_c rfl rfl (leS2_c rfl rfl leS2_n)))))))) (leH2_c rfl rfl rfl rfl rfl rfl (leH2_c rfl rfl rfl rfl rfl rfl leH2_n)) rfl rfl
  ·rintro kz9 ⟨_, rfl⟩
   show wpC _ _ _ _ _ (St.mk _ _ _ _)
   have h := hko10; clear hko10; try dsimp only at h
   refine wpC_condT rfl ?_
   refine wpC_seq ?_
   refine d_reg rfl ?_
   refine wpI_s rfl trivial ?_
   refine wpI_s rfl trivial ?_
   refine wpI_nil ?_
   refine seqK_n ?_
   refine wpC_ret ?_
   refine seqK_r ?_
   obtain rfl := Option.some.inj h
   exact d_ret2 [] [] ⟨rfl, rfl, rfl⟩ (rIs_t rfl rfl) leH2_n leH2_n rfl
 exact key.cong rfl blkEq_n blkEq_n

end Go.Proofs.Ythgbffnahanfhaa

/- That the functions of the program compute just this: part 2. No condition but those that a theorem names. -/
import Derived.Test.YthgbffnahanfhaaW1
set_option linter.unusedVariables false
set_option linter.unusedSimpArgs false
namespace Go.Proofs.Ythgbffnahanfhaa
open Go Go.EV
set_option maxRecDepth 100000
set_option maxHeartbeats 0
set_option linter.unusedVariables false
def ir_portcullisref1_Block : IFn := ⟨82, (.seq (.reg [] (.cons ⟨none, (.w (some 3) (.box 23 32 (.int .u8 0) (.t 0)))⟩ (.cons ⟨none, (.w (some 5) (.box 46 12 (.int .u8 0) (.t 2)))⟩ (.cons ⟨none, (.w (some 6) (.alo 75 (.int .u8 0) (List.replicate 64 (.int .u8 0))))⟩ .nil)))) (.seq (.reg [] (.cons ⟨none, (.w (some 7) (.alo 86 (.int .u32 0) (List.replicate 16 (.int .u32 0))))⟩ .nil)) (.seq (.reg [] (.cons ⟨none, (.s 15 (.ia 16 1 (.t 7) (.k (.int .i64 0))))⟩ (.cons ⟨none, (.w none (.st (.t 15) (.k (.int .u32 1634760805))))⟩ .nil))) (.seq (.reg [] (.cons ⟨none, (.s 16 (.ia 16 1 (.t 7) (.k (.int .i64 1))))⟩ (.cons ⟨none, (.w none (.st (.t 16) (.k (.int .u32 857760878))))⟩ .nil))) (.seq (.reg [] (.cons ⟨none, (.s 17 (.ia 16 1 (.t 7) (.k (.int .i64 2))))⟩ (.cons ⟨none, (.w none (.st (.t 17) (.k (.int .u32 2036477234))))⟩ .nil))) (.seq (.reg [] (.cons ⟨none, (.s 18 (.ia 16 1 (.t 7) (.k (.int .i64 3))))⟩ (.cons ⟨none, (.w none (.st (.t 18) (.k (.int .u32 1797285236))))⟩ .nil))) (.seq (.seq (.reg [] (.cons ⟨none, (.s 8 (.mv (.k (.int .i64 0))))⟩ .nil)) (.block 0 (.loop (.seq (.seq (.reg [] (.cons ⟨none, (.s 19 (.mv (.t 8)))⟩ (.cons ⟨none, (.s 20 (.bin .lss (.t 19) (.k (.int .i64 8))))⟩ .nil))) (.cond (.t 20) .skip (.exit 0))) (.seq (.block 1 (.reg [] (.cons ⟨none, (.s 23 (.mv (.t 8)))⟩ (.cons ⟨none, (.s 24 (.bin .add (.k (.int .i64 4)) (.t 23)))⟩ (.cons ⟨none, (.s 25 (.mv (.t 8)))⟩ (.cons ⟨none, (.s 26 (.bin .mul (.k (.int .i64 4)) (.t 25)))⟩ (.cons ⟨none, (.s 27 (.sla 32 1 (.t 3) (some (.t 26)) none none))⟩ (.cons ⟨none, (.call (some 28) 47 [(.t 27)])⟩ (.cons ⟨none, (.s 29 (.ia 16 1 (.t 7) (.t 24)))⟩ (.cons ⟨none, (.w none (.st (.t 29) (.t 28)))⟩ .nil)))))))))) (.reg [] (.cons ⟨none, (.s 21 (.mv (.t 8)))⟩ (.cons ⟨none, (.s 22 (.bin .add (.t 21) (.k (.int .i64 1))))⟩ (.cons ⟨none, (.s 8 (.mv (.t 22)))⟩ .nil))))))))) (.seq (.reg [] (.cons ⟨none, (.s 30 (.mv (.t 1)))⟩ (.cons ⟨none, (.s 31 (.bin .and (.t 30) (.k (.int .i64 4294967295))))⟩ (.cons ⟨none, (.s 32 (.cv .u32 (.t 31)))⟩ (.cons ⟨none, (.s 33 (.ia 16 1 (.t 7) (.k (.int .i64 12))))⟩ (.cons ⟨none, (.w none (.st (.t 33) (.t 32)))⟩ .nil)))))) (.seq (.seq (.reg [] (.cons ⟨none, (.s 9 (.mv (.k (.int .i64 0))))⟩ .nil)) (.block 2 (.loop (.seq (.seq (.reg [] (.cons ⟨none, (.s 34 (.mv (.t 9)))⟩ (.cons ⟨none, (.s 35 (.bin .lss (.t 34) (.k (.int .i64 3))))⟩ .nil))) (.cond (.t 35) .skip (.exit 2))) (.seq (.block 3 (.reg [] (.cons ⟨none, (.s 38 (.mv (.t 9)))⟩ (.cons ⟨none, (.s 39 (.bin .add (.k (.int .i64 13)) (.t 38)))⟩ (.cons ⟨none, (.s 40 (.mv (.t 9)))⟩ (.cons ⟨none, (.s 41 (.bin .mul (.k (.int .i64 4)) (.t 40)))⟩ (.cons ⟨none, (.s 42 (.sla 12 1 (.t 5) (some (.t 41)) none none))⟩ (.cons ⟨none, (.call (some 43) 47 [(.t 42)])⟩ (.cons ⟨none, (.s 44 (.ia 16 1 (.t 7) (.t 39)))⟩ (.cons ⟨none, (.w none (.st (.t 44) (.t 43)))⟩ .nil)))))))))) (.reg [] (.cons ⟨none, (.s 36 (.mv (.t 9)))⟩ (.cons ⟨none, (.s 37 (.bin .add (.t 36) (.k (.int .i64 1))))⟩ (.cons ⟨none, (.s 9 (.mv (.t 37)))⟩ .nil))))))))) (.seq (.reg [] (.cons ⟨none, (.r 45 (.lda 16 (.t 7)))⟩ (.cons ⟨none, (.w (some 10) (.alo 86 (.int .u32 0) (List.replicate 16 (.int .u32 0))))⟩ (.cons ⟨none, (.w none (.sta 16 (.t 10) (.t 45)))⟩ .nil)))) (.seq (.seq (.reg [] (.cons ⟨none, (.s 11 (.mv (.k (.int .i64 0))))⟩ .nil)) (.block 4 (.loop (.seq (.seq (.reg [] (.cons ⟨none, (.s 46 (.mv (.t 11)))⟩ (.cons ⟨none, (.s 47 (.bin .lss (.t 46) (.k (.int .i64 10))))⟩ .nil))) (.cond (.t 47) .skip (.exit 4))) (.seq (.block 5 (.seq (.reg [] (.cons ⟨none, (.call (some 50) 48 [(.t 10), (.k (.int .i64 0)), (.k (.int .i64 4)), (.k (.int .i64 8)), (.k (.int .i64 12))])⟩ .nil)) (.seq (.reg [] (.cons ⟨none, (.call (some 51) 48 [(.t 10), (.k (.int .i64 1)), (.k (.int .i64 5)), (.k (.int .i64 9)), (.k (.int .i64 13))])⟩ .nil)) (.seq (.reg [] (.cons ⟨none, (.call (some 52) 48 [(.t 10), (.k (.int .i64 2)), (.k (.int .i64 6)), (.k (.int .i64 10)), (.k (.int .i64 14))])⟩ .nil)) (.seq (.reg [] (.cons ⟨none, (.call (some 53) 48 [(.t 10), (.k (.int .i64 3)), (.k (.int .i64 7)), (.k (.int .i64 11)), (.k (.int .i64 15))])⟩ .nil)) (.seq (.reg [] (.cons ⟨none, (.call (some 54) 48 [(.t 10), (.k (.int .i64 0)), (.k (.int .i64 5)), (.k (.int .i64 10)), (.k (.int .i64 15))])⟩ .nil)) (.seq (.reg [] (.cons ⟨none, (.call (some 55) 48 [(.t 10), (.k (.int .i64 1)), (.k (.int .i64 6)), (.k (.int .i64 11)), (.k (.int .i64 12))])⟩ .nil)) (.seq (.reg [] (.cons ⟨none, (.call (some 56) 48 [(.t 10), (.k (.int .i64 2)), (.k (.int .i64 7)), (.k (.int .i64 8)), (.k (.int .i64 13))])⟩ .nil)) (.reg [] (.cons ⟨none, (.call (some 57) 48 [(.t 10), (.k (.int .i64 3)), (.k (.int .i64 4)), (.k (.int .i64 9)), (.k (.int .i64 14))])⟩ .nil)))))))))) (.reg [] (.cons ⟨none, (.s 48 (.mv (.t 11)))⟩ (.cons ⟨none, (.s 49 (.bin .add (.t 48) (.k (.int .i64 1))))⟩ (.cons ⟨none, (.s 11 (.mv (.t 49)))⟩ .nil))))))))) (.seq (.reg [] (.cons ⟨none, (.w (some 12) (.alo 75 (.int .u8 0) (List.replicate 64 (.int .u8 0))))⟩ .nil)) (.seq (.seq (.reg [] (.cons ⟨none, (.s 13 (.mv (.k (.int .i64 0))))⟩ .nil)) (.block 6 (.loop (.seq (.seq (.reg [] (.cons ⟨none, (.s 58 (.mv (.t 13)))⟩ (.cons ⟨none, (.s 59 (.bin .lss (.t 58) (.k (.int .i64 64))))⟩ .nil))) (.cond (.t 59) .skip (.exit 6))) (.seq (.block 7 (.seq (.reg [] (.cons ⟨none, (.s 62 (.mv (.t 13)))⟩ (.cons ⟨none, (.s 63 (.bin .quo (.t 62) (.k (.int .i64 4))))⟩ (.cons ⟨none, (.s 64 (.ia 16 1 (.t 10) (.t 63)))⟩ (.cons ⟨none, (.r 65 (.ld (.int .u32 0) (.t 64)))⟩ (.cons ⟨none, (.s 66 (.mv (.t 13)))⟩ (.cons ⟨none, (.s 67 (.bin .quo (.t 66) (.k (.int .i64 4))))⟩ (.cons ⟨none, (.s 68 (.ia 16 1 (.t 7) (.t 67)))⟩ (.cons ⟨none, (.r 69 (.ld (.int .u32 0) (.t 68)))⟩ (.cons ⟨none, (.s 70 (.bin .add (.t 65) (.t 69)))⟩ (.cons ⟨none, (.s 14 (.mv (.t 70)))⟩ .nil))))))))))) (.reg [] (.cons ⟨none, (.s 71 (.mv (.t 13)))⟩ (.cons ⟨none, (.s 72 (.mv (.t 14)))⟩ (.cons ⟨none, (.s 73 (.mv (.t 13)))⟩ (.cons ⟨none, (.s 74 (.bin .rem (.t 73) (.k (.int .i64 4))))⟩ (.cons ⟨none, (.s 75 (.bin .mul (.k (.int .i64 8)) (.t 74)))⟩ (.cons ⟨none, (.s 76 (.cv .u64 (.t 75)))⟩ (.cons ⟨none, (.s 77 (.bin .shr (.t 72) (.t 76)))⟩ (.cons ⟨none, (.s 78 (.bin .and (.t 77) (.k (.int .u32 255))))⟩ (.cons ⟨none, (.s 79 (.cv .u8 (.t 78)))⟩ (.cons ⟨none, (.s 80 (.ia 64 1 (.t 12) (.t 71)))⟩ (.cons ⟨none, (.w none (.st (.t 80) (.t 79)))⟩ .nil)))))))))))))) (.reg [] (.cons ⟨none, (.s 60 (.mv (.t 13)))⟩ (.cons ⟨none, (.s 61 (.bin .add (.t 60) (.k (.int .i64 1))))⟩ (.cons ⟨none, (.s 13 (.mv (.t 61)))⟩ .nil))))))))) (.seq (.reg [] (.cons ⟨none, (.r 81 (.lda 64 (.t 12)))⟩ (.cons ⟨none, (.w none (.sta 64 (.t 6) (.t 81)))⟩ .nil))) .ret)))))))))))))), [(.cell true 64 (.bool false) 6)]⟩
theorem low_portcullisref1_Block : lowF Try.prog Try.f38 = some ir_portcullisref1_Block.strip := by kernel_rfl
theorem ok_portcullisref1_Block {fu : Nat} {key_ : List Int} {counter_ : Int} {nonce_ : List Int} {l9001 : List Int} (h : fn_portcullisref1_Block fu key_ counter_ nonce_ = some l9001) :
  EV.Fn Try.prog 38 [.g (flat [.i .u8 key_]), ib .i64 counter_, .g (flat [.i .u8 nonce_])] [] [] (fun v u nw => v = .g (flat [.i .u8 l9001]) ∧ u = [] ∧ nw = [] ∧ (l9001.length = 64)) := by
 have key : EV.Fn Try.prog 38 [.g (flat [.i .u8 key_]), ib .i64 counter_, .g (flat [.i .u8 nonce_])] [] [] (fun v u nw => v = .g (flat [.i .u8 l9001]) ∧ u = [] ∧ nw = [] ∧ (l9001.length = 64)) := by
  unfold fn_portcullisref1_Block at h
  refine d_fn (i := ir_portcullisref1_Block) (fn := Try.f38) (sl0 := [(0, .g (flat [.i .u8 key_])), (1, ib .i64 counter_), (2, .g (flat [.i .u8 nonce_]))]) (hp0 := []) (by kernel_rfl) low_portcullisref1_Block mo rfl rfl rfl fun F z0 => ?_
  dsimp only [ir_portcullisref1_Block]
  refine gd_e h fun Xh_key_ h => ?_
  refine gd_e h fun Xh_nonce_ h => ?_
  refine wpC_seq ?_
  refine d_reg rfl ?_
  refine d_box rfl (fun _ => trivial) rfl fun kb1 kz2 => ?_
  refine d_box rfl (fun _ => trivial) rfl fun kb3 kz4 => ?_
  refine d_alo (g := [.i .u8 (List.replicate 64 0)]) (zeros_flat _ _ _) (fun _ => trivial) fun kb5 kz6 => ?_
  refine wpI_nil ?_
  refine seqK_n ?_
  refine wpC_seq ?_
  refine d_reg rfl ?_
  refine d_alo (g := [.i .u32 (List.replicate 16 0)]) (zeros_flat _ _ _) (fun _ => trivial) fun kb7 kz8 => ?_
  refine wpI_nil ?_
  refine seqK_n ?_
  refine wpC_seq ?_
  refine d_reg rfl ?_
  refine wpI_s rfl (by decide) ?_
  refine d_st 0 (q := 0) rfl rfl rfl rfl h (ar_offi (0) rfl) (fun _ => rfl) (fun _ => rfl) (fun _ => trivial) fun l9 h10 h => ?_
  refine wpI_nil ?_
  refine seqK_n ?_
  refine wpC_seq ?_
  refine d_reg rfl ?_
  refine wpI_s rfl (by decide) ?_
  refine d_st 0 (q := 1) rfl rfl rfl rfl h (ar_offi (1) rfl) (fun _ => rfl) (fun _ => rfl) (fun _ => trivial) fun l11 h12 h => ?_
  refine wpI_nil ?_
  refine seqK_n ?_
  refine wpC_seq ?_
  refine d_reg rfl ?_
  refine wpI_s rfl (by decide) ?_
  refine d_st 0 (q := 2) rfl rfl rfl rfl h (ar_offi (2) rfl) (fun _ => rfl) (fun _ => rfl) (fun _ => trivial) fun l13 h14 h => ?_
  refine wpI_nil ?_
  refine seqK_n ?_
  refine wpC_seq ?_
  refine d_reg rfl ?_
  refine wpI_s rfl (by decide) ?_
  refine d_st 0 (q := 3) rfl rfl rfl rfl h (ar_offi (3) rfl) (fun _ => rfl) (fun _ => rfl) (fun _ => trivial) fun l15 h16 h => ?_
  refine wpI_nil ?_
  refine seqK_n ?_
  refine wpC_seq ?_
  refine wpC_seq ?_
  refine d_reg rfl ?_
  refine wpI_s rfl trivial ?_
  refine wpI_nil ?_
  refine seqK_n ?_
  refine wpC_block ?_
  refine bind_e h fun o24 h hko24 => ?_
  refine d_loop (fun (z : List Int × Int × Nat) => match z with | (l17, x19, kz20) => (l17, x19)) (fun (z : List Int × Int × Nat) => (match z with | (l17, x19, kz20) => ⟨[(1, ib .i64 counter_), (3, .c (.p 100 kb1 0)), (5, .c (.p 101 kb3 0)), (6, .c (.p 102 kb5 0)), (7, .c (.p 103 kb7 0)), (8, ib .i64 x19)], [⟨100, kb1, 23, false, (0, 0), (.v (.int .u8 0)), flat [.i .u8 key_]⟩, ⟨101, kb3, 46, false, (0, 0), (.v (.int .u8 0)), flat [.i .u8 nonce_]⟩, ⟨102, kb5, 75, false, (0, 0), (.v (.int .u8 0)), flat [.i .u8 (List.replicate 64 0)]⟩, ⟨103, kb7, 86, false, (0, 0), (.v (.int .u32 0)), flat [.i .u32 l17]⟩], 104, kz20⟩ : St)) (fun (z : List Int × Int × Nat) => match z with | (l17, x19, kz20) => (l17.length = 16)) (l15, 0, kz8) [100, 101, 102, 103] h (h16.trans (h14.trans (h12.trans (h10.trans List.length_replicate)))) (leS2_c rfl rfl (leS2_c rfl rfl (leS2_c rfl rfl (leS2_c rfl rfl (leS2_c rfl rfl (leS2_c rfl rfl leS2_n)))))) (leH2_c rfl rfl rfl rfl rfl rfl (leH2_c rfl rfl rfl rfl rfl rfl (leH2_c rfl rfl rfl rfl rfl rfl (leH2_c rfl rfl rfl rfl rfl rfl leH2_n)))) rfl rfl ?_
  rintro rec ⟨l17, x19, kz20⟩ h18 h
  show wpC _ _ _ _ _ (St.mk _ _ _ _)
  unfold fn_portcullisref1_Block_l1 at h; try dsimp only at h
  refine wpC_seq ?_
  refine wpC_seq ?_
  refine d_reg rfl ?_
  refine wpI_s rfl trivial ?_
  refine d_b rfl trivial h fun t25 h => ?_
  refine wpI_nil ?_
  refine seqK_n ?_
  refine d_cond rfl h (fun h => ?_) (fun h => ?_)
  ·refine wpC_skip ?_
   refine seqK_n ?_
   refine wpC_seq ?_
   refine wpC_block ?_
   refine d_reg rfl ?_
   refine wpI_s rfl trivial ?_
   refine d_n rfl trivial h fun x26 h => ?_
   refine wpI_s rfl trivial ?_
   refine d_n rfl trivial h fun x27 h => ?_
   refine gd_e h fun g28 h => ?_
   refine d_sla rfl rfl rfl g28 fun ko29 kc30 h31 h32 => ?_
   replace h31 : 0 < (32 - x27.toNat) → 0 + x27.toNat = ko29 := by intro h0; have := h31 (by omega); omega
   replace h32 : (32 - x27.toNat) ≤ kc30 := by omega
   have h33 : x27.toNat + (32 - x27.toNat) ≤ 32 := by have := g28; omega
   refine bind_e h fun x40 ho39 h => ?_
   obtain ⟨kp34, kq35, hw36, hp37⟩ := win_eq (g := [.i .u8 key_]) (j := 0) (kd := .u8) (l := key_) (q := x27.toNat) (n := (32 - x27.toNat)) (p := 0) rfl (by rw [Xh_key_]; first | exact h33 | (rw [Nat.zero_add]; exact h33)) rfl
   refine d_call (ok_portcullisref1_little (i0 := 100)  (X0b := kb1) (X0ty := 23) (X0pr := kp34) (X0ps := kq35) (X0o := ko29) (X0c := kc30) (X0n := (32 - x27.toNat)) (X0l := (sub_len (by rw [Xh_key_]; first | exact h33 | (rw [Nat.zero_add]; exact h33))).symm) (X0S := (fun h0 => hp37.trans (h31 h0))) (X0C := h32) (h := ho39)) rfl rfl haveRw_n (haveRo_c rfl hw36 haveRo_n) (own_of rfl) ?_
   rintro _ _ _ kz41 ⟨rfl, rfl, rfl⟩
   refine ⟨_, rfl, trivial, ?_⟩
   refine gd_e h fun g42 h => ?_
   refine wpI_s rfl g42 ?_
   refine d_st 0 (q := x26.toNat) rfl rfl rfl rfl h (ar_offi (x26) rfl) (fun _ => rfl) (fun _ => rfl) (fun _ => trivial) fun l43 h44 h => ?_
   refine wpI_nil ?_
   refine blockK_n ?_
   refine seqK_n ?_
   refine d_reg rfl ?_
   refine wpI_s rfl trivial ?_
   refine d_n rfl trivial h fun x45 h => ?_
   refine wpI_s rfl trivial ?_
   refine wpI_nil ?_
   refine lpK_n (l43, x45, kz41) [100, 101, 102, 103] (h44.trans h18) h (leS2_c rfl rfl (leS2_c rfl rfl (leS2_c rfl rfl (leS2_c rfl rfl (leS2_c rfl rfl (leS2_c rfl rfl leS2_n)))))) (leH2_c rfl rfl rfl rfl rfl rfl (leH2_c rfl rfl rfl rfl rfl rfl (leH2_c rfl rfl rfl rfl rfl rfl (leH2_c rfl rfl rfl rfl rfl rfl leH2_n)))) rfl rfl
  ·refine wpC_exit ?_
   refine seqK_x ?_
   obtain rfl := Option.some.inj h
   have h := hko24; clear hko24; try dsimp only at h
   refine lpK_x ?_
   refine blockK_x ?_
   refine seqK_n ?_
   refine wpC_seq ?_
   refine d_reg rfl ?_
   refine wpI_s rfl trivial ?_
   refine d_n rfl trivial h fun x46 h => ?_
   refine d_n rfl trivial h fun x47 h => ?_
   refine wpI_s rfl (by decide) ?_
   refine d_st 0 (q := 12) rfl rfl rfl rfl h (ar_offi (12) rfl) (fun _ => rfl) (fun _ => rfl) (fun _ => trivial) fun l48 h49 h => ?_
   refine wpI_nil ?_
   refine seqK_n ?_
   refine wpC_seq ?_
   refine wpC_seq ?_
   refine d_reg rfl ?_
   refine wpI_s rfl trivial ?_
   refine wpI_nil ?_
   refine seqK_n ?_
   refine wpC_block ?_
   refine bind_e h fun o57 h hko57 => ?_
   refine d_loop (fun (z : List Int × Int × Nat) => match z with | (l50, x52, kz53) => (l50, x52)) (fun (z : List Int × Int × Nat) => (match z with | (l50, x52, kz53) => ⟨[(5, .c (.p 101 kb3 0)), (6, .c (.p 102 kb5 0)), (7, .c (.p 103 kb7 0)), (9, ib .i64 x52)], [⟨101, kb3, 46, false, (0, 0), (.v (.int .u8 0)), flat [.i .u8 nonce_]⟩, ⟨102, kb5, 75, false, (0, 0), (.v (.int .u8 0)), flat [.i .u8 (List.replicate 64 0)]⟩, ⟨103, kb7, 86, false, (0, 0), (.v (.int .u32 0)), flat [.i .u32 l50]⟩], 104, kz53⟩ : St)) (fun (z : List Int × Int × Nat) => match z with | (l50, x52, kz53) => (l50.length = 16)) (l48, 0, kz20) [101, 102, 103] h (h49.trans h18) (leS2_c rfl rfl (leS2_c rfl rfl (leS2_c rfl rfl (leS2_c rfl rfl leS2_n)))) (leH2_c rfl rfl rfl rfl rfl rfl (leH2_c rfl rfl rfl rfl rfl rfl (leH2_c rfl rfl rfl rfl rfl rfl leH2_n))) rfl rfl ?_
   rintro rec ⟨l50, x52, kz53⟩ h51 h
   show wpC _ _ _ _ _ (St.mk _ _ _ _)
   unfold fn_portcullisref1_Block_l2 at h; try dsimp only at h
   refine wpC_seq ?_
   refine wpC_seq ?_
   refine d_reg rfl ?_
   refine wpI_s rfl trivial ?_
   refine d_b rfl trivial h fun t58 h => ?_
   refine wpI_nil ?_
   refine seqK_n ?_
   refine d_cond rfl h (fun h => ?_) (fun h => ?_)
   ·refine wpC_skip ?_
    refine seqK_n ?_
    refine wpC_seq ?_
    refine wpC_block ?_
    refine d_reg rfl ?_
    refine wpI_s rfl trivial ?_
    refine d_n rfl trivial h fun x59 h => ?_
    refine wpI_s rfl trivial ?_
    refine d_n rfl trivial h fun x60 h => ?_
    refine gd_e h fun g61 h => ?_
    refine d_sla rfl rfl rfl g61 fun ko62 kc63 h64 h65 => ?_
    replace h64 : 0 < (12 - x60.toNat) → 0 + x60.toNat = ko62 := by intro h0; have := h64 (by omega); omega
    replace h65 : (12 - x60.toNat) ≤ kc63 := by omega
    have h66 : x60.toNat + (12 - x60.toNat) ≤ 12 := by have := g61; omega
    refine bind_e h fun x73 ho72 h => ?_
    obtain ⟨kp67, kq68, hw69, hp70⟩ := win_eq (g := [.i .u8 nonce_]) (j := 0) (kd := .u8) (l := nonce_) (q := x60.toNat) (n := (12 - x60.toNat)) (p := 0) rfl (by rw [Xh_nonce_]; first | exact h66 | (rw [Nat.zero_add]; exact h66)) rfl
    refine d_call (ok_portcullisref1_little (i0 := 101)  (X0b := kb3) (X0ty := 46) (X0pr := kp67) (X0ps := kq68) (X0o := ko62) (X0c := kc63) (X0n := (12 - x60.toNat)) (X0l := (sub_len (by rw [Xh_nonce_]; first | exact h66 | (rw [Nat.zero_add]; exact h66))).symm) (X0S := (fun h0 => hp70.trans (h64 h0))) (X0C := h65) (h := ho72)) rfl rfl haveRw_n (haveRo_c rfl hw69 haveRo_n) (own_of rfl) ?_
    rintro _ _ _ kz74 ⟨rfl, rfl, rfl⟩
    refine ⟨_, rfl, trivial, ?_⟩
    refine gd_e h fun g75 h => ?_
    refine wpI_s rfl g75 ?_
    refine d_st 0 (q := x59.toNat) rfl rfl rfl rfl h (ar_offi (x59) rfl) (fun _ => rfl) (fun _ => rfl) (fun _ => trivial) fun l76 h77 h => ?_
    refine wpI_nil ?_
    refine blockK_n ?_
    refine seqK_n ?_
    refine d_reg rfl ?_
    refine wpI_s rfl trivial ?_
    refine d_n rfl trivial h fun x78 h => ?_
    refine wpI_s rfl trivial ?_
    refine wpI_nil ?_
    refine lpK_n (l76, x78, kz74) [101, 102, 103] (h77.trans h51) h (leS2_c rfl rfl (leS2_c rfl rfl (leS2_c rfl rfl (leS2_c rfl rfl leS2_n)))) (leH2_c rfl rfl rfl rfl rfl rfl (leH2_c rfl rfl rfl rfl rfl rfl (leH2_c rfl rfl rfl rfl rfl rfl leH2_n))) rfl rfl
   ·refine wpC_exit ?_
    refine seqK_x ?_
    obtain rfl := Option.some.inj h
    have h := hko57; clear hko57; try dsimp only at h
    refine lpK_x ?_
    refine blockK_x ?_
    refine seqK_n ?_
    refine wpC_seq ?_
    refine d_reg rfl ?_
    refine d_lda 0 1 rfl rfl rfl rfl (by simp only [flen, h51]) ?_
    refine d_alo (g := [.i .u32 (List.replicate 16 0)]) (zeros_flat _ _ _) (fun _ => trivial) fun kb79 kz80 => ?_
    refine d_sta 0 rfl rfl rfl rfl rfl (by simp only [flen, h51]) (by simp only [flen, List.length_replicate]) rfl rfl trivial ?_
    refine wpI_nil ?_
    refine seqK_n ?_
    refine wpC_seq ?_
    refine wpC_seq ?_
    refine d_reg rfl ?_
    refine wpI_s rfl trivial ?_
    refine wpI_nil ?_
    refine seqK_n ?_
    refine wpC_block ?_
    refine bind_e h fun o88 h hko88 => ?_
    refine d_loop (fun (z : List Int × Int × Nat) => match z with | (l81, x83, kz84) => (l81, x83)) (fun (z : List Int × Int × Nat) => (match z with | (l81, x83, kz84) => ⟨[(6, .c (.p 102 kb5 0)), (7, .c (.p 103 kb7 0)), (10, .c (.p 104 kb79 0)), (11, ib .i64 x83)], [⟨102, kb5, 75, false, (0, 0), (.v (.int .u8 0)), flat [.i .u8 (List.replicate 64 0)]⟩, ⟨103, kb7, 86, false, (0, 0), (.v (.int .u32 0)), flat [.i .u32 l50]⟩, ⟨104, kb79, 86, false, (0, 0), (.v (.int .u32 0)), flat [.i .u32 l81]⟩], 105, kz84⟩ : St)) (fun (z : List Int × Int × Nat) => match z with | (l81, x83, kz84) => (l81.length = 16)) (l50, 0, kz80) [102, 103, 104] h h51 (leS2_c rfl rfl (leS2_c rfl rfl (leS2_c rfl rfl (leS2_c rfl rfl leS2_n)))) (leH2_c rfl rfl rfl rfl rfl rfl (leH2_c rfl rfl rfl rfl rfl rfl (leH2_c rfl rfl rfl rfl rfl rfl leH2_n))) rfl rfl ?_
    rintro rec ⟨l81, x83, kz84⟩ h82 h
    show wpC _ _ _ _ _ (St.mk _ _ _ _)
    unfold fn_portcullisref1_Block_l3 at h; try dsimp only at h
    refine wpC_seq ?_
    refine wpC_seq ?_
    refine d_reg rfl ?_
    refine wpI_s rfl trivial ?_
    refine d_b rfl trivial h fun t89 h => ?_
    refine wpI_nil ?_
    refine seqK_n ?_
    refine d_cond rfl h (fun h => ?_) (fun h => ?_)
    ·refine wpC_skip ?_
     refine seqK_n ?_
     refine wpC_seq ?_
     refine wpC_block ?_
     refine wpC_seq ?_
     refine d_reg rfl ?_
     refine bind_e h fun l92 ho91 h => ?_
     refine d_call (ok_portcullisref1_quarter (i0 := 104)  (X0b := kb79) (X0ty := 86)  (h := ho91)) rfl rfl (haveRw_c rfl haveRw_n) haveRo_n (own_of rfl) ?_
     rintro _ _ _ kz94 ⟨rfl, rfl, rfl, h93⟩
     refine ⟨_, rfl, trivial, ?_⟩
     refine gd_e h fun g95 h => ?_
     refine wpI_nil ?_
     refine seqK_n ?_
     refine wpC_seq ?_
     refine d_reg rfl ?_
     refine bind_e h fun l98 ho97 h => ?_
     refine d_call (ok_portcullisref1_quarter (i0 := 104)  (X0b := kb79) (X0ty := 86)  (h := ho97)) rfl rfl (haveRw_c rfl haveRw_n) haveRo_n (own_of rfl) ?_
     rintro _ _ _ kz100 ⟨rfl, rfl, rfl, h99⟩
     refine ⟨_, rfl, trivial, ?_⟩
     refine gd_e h fun g101 h => ?_
     refine wpI_nil ?_
     refine seqK_n ?_
     refine wpC_seq ?_
     refine d_reg rfl ?_
     refine bind_e h fun l104 ho103 h => ?_
     refine d_call (ok_portcullisref1_quarter (i0 := 104)  (X0b := kb79) (X0ty := 86)  (h := ho103)) rfl rfl (haveRw_c rfl haveRw_n) haveRo_n (own_of rfl) ?_
     rintro _ _ _ kz106 ⟨rfl, rfl, rfl, h105⟩
     refine ⟨_, rfl, trivial, ?_⟩
     refine gd_e h fun g107 h => ?_
     refine wpI_nil ?_
     refine seqK_n ?_
     refine wpC_seq ?_
     refine d_reg rfl ?_
     refine bind_e h fun l110 ho109 h => ?_
     refine d_call (ok_portcullisref1_quarter (i0 := 104)  (X0b := kb79) (X0ty := 86)  (h := ho109)) rfl rfl (haveRw_c rfl haveRw_n) haveRo_n (own_of rfl) ?_
     rintro _ _ _ kz112 ⟨rfl, rfl, rfl, h111⟩
     refine ⟨_, rfl, trivial, ?_⟩
     refine gd_e h fun g113 h => ?_
     refine wpI_nil ?_
     refine seqK_n ?_
     refine wpC_seq ?_
     refine d_reg rfl ?_
     refine bind_e h fun l116 ho115 h => ?_
     refine d_call (ok_portcullisref1_quarter (i0 := 104)  (X0b := kb79) (X0ty := 86)  (h := ho115)) rfl rfl (haveRw_c rfl haveRw_n) haveRo_n (own_of rfl) ?_
     rintro _ _ _ kz118 ⟨rfl, rfl, rfl, h117⟩
     refine ⟨_, rfl, trivial, ?_⟩
     refine gd_e h fun g119 h => ?_
     refine wpI_nil ?_
     refine seqK_n ?_
     refine wpC_seq ?_
     refine d_reg rfl ?_
     refine bind_e h fun l122 ho121 h => ?_
     refine d_call (ok_portcullisref1_quarter (i0 := 104)  (X0b := kb79) (X0ty := 86)  (h := ho121)) rfl rfl (haveRw_c rfl haveRw_n) haveRo_n (own_of rfl) ?_
     rintro _ _ _ kz124 ⟨rfl, rfl, rfl, h123⟩
     refine ⟨_, rfl, trivial, ?_⟩
     refine gd_e h fun g125 h => ?_
     refine wpI_nil ?_
     refine seqK_n ?_
     refine wpC_seq ?_
     refine d_reg rfl ?_
     refine bind_e h fun l128 ho127 h => ?_
     refine d_call (ok_portcullisref1_quarter (i0 := 104)  (X0b := kb79) (X0ty := 86)  (h := ho127)) rfl rfl (haveRw_c rfl haveRw_n) haveRo_n (own_of rfl) ?_
     rintro _ _ _ kz130 ⟨rfl, rfl, rfl, h129⟩
     refine ⟨_, rfl, trivial, ?_⟩
     refine gd_e h fun g131 h => ?_
     refine wpI_nil ?_
     refine seqK_n ?_
     refine d_reg rfl ?_
     refine bind_e h fun l134 ho133 h => ?_
     refine d_call (ok_portcullisref1_quarter (i0 := 104)  (X0b := kb79) (X0ty := 86)  (h := ho133)) rfl rfl (haveRw_c rfl haveRw_n) haveRo_n (own_of rfl) ?_
     rintro _ _ _ kz136 ⟨rfl, rfl, rfl, h135⟩
     refine ⟨_, rfl, trivial, ?_⟩
     refine gd_e h fun g137 h => ?_
     refine wpI_nil ?_
     refine blockK_n ?_
     refine seqK_n ?_
     refine d_reg rfl ?_
     refine wpI_s rfl trivial ?_
     refine d_n rfl trivial h fun x138 h => ?_
     refine wpI_s rfl trivial ?_
     refine wpI_nil ?_
     refine lpK_n (l134, x138, kz136) [102, 103, 104] g137 h (leS2_c rfl rfl (leS2_c rfl rfl (leS2_c rfl rfl (leS2_c rfl rfl leS2_n)))) (leH2_c rfl rfl rfl rfl rfl rfl (leH2_c rfl rfl rfl rfl rfl rfl (leH2_c rfl rfl rfl rfl rfl rfl leH2_n))) rfl rfl
    ·refine wpC_exit ?_
     refine seqK_x ?_
     obtain rfl := Option.some.inj h
     have h := hko88; clear hko88; try dsimp only at h
     refine lpK_x ?_
     refine blockK_x ?_
     refine seqK_n ?_
     refine wpC_seq ?_
     refine d_reg rfl ?_
     refine d_alo (g := [.i .u8 (List.replicate 64 0)]) (zeros_flat _ _ _) (fun _ => trivial) fun kb139 kz140 => ?_
     refine wpI_nil ?_
     refine seqK_n ?_
     refine wpC_seq ?_
     refine wpC_seq ?_
     refine d_reg rfl ?_
     refine wpI_s rfl trivial ?_
     refine wpI_nil ?_
     refine seqK_n ?_
     refine wpC_block ?_
     refine bind_e h fun o148 h hko148 => ?_
     refine d_loop (fun (z : List Int × Int × Nat) => match z with | (l141, x143, kz144) => (l141, x143)) (fun (z : List Int × Int × Nat) => (match z with | (l141, x143, kz144) => ⟨[(6, .c (.p 102 kb5 0)), (7, .c (.p 103 kb7 0)), (10, .c (.p 104 kb79 0)), (12, .c (.p 105 kb139 0)), (13, ib .i64 x143)], [⟨102, kb5, 75, false, (0, 0), (.v (.int .u8 0)), flat [.i .u8 (List.replicate 64 0)]⟩, ⟨103, kb7, 86, false, (0, 0), (.v (.int .u32 0)), flat [.i .u32 l50]⟩, ⟨104, kb79, 86, false, (0, 0), (.v (.int .u32 0)), flat [.i .u32 l81]⟩, ⟨105, kb139, 75, false, (0, 0), (.v (.int .u8 0)), flat [.i .u8 l141]⟩], 106, kz144⟩ : St)) (fun (z : List Int × Int × Nat) => match z with | (l141, x143, kz144) => (l141.length = 64)) ((List.replicate 64 0), 0, kz140) [102, 103, 104, 105] h List.length_replicate (leS2_c rfl rfl (leS2_c rfl rfl (leS2_c rfl rfl (leS2_c rfl rfl (leS2_c rfl rfl leS2_n))))) (leH2_c rfl rfl rfl rfl rfl rfl (leH2_c rfl rfl rfl rfl rfl rfl (leH2_c rfl rfl rfl rfl rfl rfl (leH2_c rfl rfl rfl rfl rfl rfl leH2_n)))) rfl rfl ?_
     rintro rec ⟨l141, x143, kz144⟩ h142 h
     show wpC _ _ _ _ _ (St.mk _ _ _ _)
     unfold fn_portcullisref1_Block_l4 at h; try dsimp only at h
     refine wpC_seq ?_
     refine wpC_seq ?_
     refine d_reg rfl ?_
     refine wpI_s rfl trivial ?_
     refine d_b rfl trivial h fun t149 h => ?_
     refine wpI_nil ?_
     refine seqK_n ?_
     refine d_cond rfl h (fun h => ?_) (fun h => ?_)
     ·refine wpC_skip ?_
      refine seqK_n ?_
      refine wpC_seq ?_
      refine wpC_block ?_
      refine wpC_seq ?_
      refine d_reg rfl ?_
      refine wpI_s rfl trivial ?_
      refine d_n rfl (by decide) h fun x150 h => ?_
      refine gd_e h fun g151 h => ?_
      refine wpI_s rfl g151 ?_
      refine d_ld 0 (q := x150.toNat) rfl rfl rfl h (ar_offi (x150) rfl) fun x152 h => ?_
      refine wpI_s rfl trivial ?_
      refine d_n rfl (by decide) h fun x153 h => ?_
      refine gd_e h fun g154 h => ?_
      refine wpI_s rfl g154 ?_
      refine d_ld 0 (q := x153.toNat) rfl rfl rfl h (ar_offi (x153) rfl) fun x155 h => ?_
      refine d_n rfl trivial h fun x156 h => ?_
      refine wpI_s rfl trivial ?_
      refine wpI_nil ?_
      refine seqK_n ?_
      refine d_reg rfl ?_
      refine wpI_s rfl trivial ?_
      refine wpI_s rfl trivial ?_
      refine wpI_s rfl trivial ?_
      refine d_n rfl (by decide) h fun x157 h => ?_
      refine d_n rfl trivial h fun x158 h => ?_
      refine d_n rfl trivial h fun x159 h => ?_
      refine gd_e h fun g160 h => ?_
      refine d_n rfl g160 h fun x161 h => ?_
      refine d_n rfl trivial h fun x162 h => ?_
      refine d_n rfl trivial h fun x163 h => ?_
      refine gd_e h fun g164 h => ?_
      refine wpI_s rfl g164 ?_
      refine d_st 0 (q := x143.toNat) rfl rfl rfl rfl h (ar_offi (x143) rfl) (fun _ => rfl) (fun _ => rfl) (fun _ => trivial) fun l165 h166 h => ?_
      refine wpI_nil ?_
      refine blockK_n ?_
      refine seqK_n ?_
      refine d_reg rfl ?_
      refine wpI_s rfl trivial ?_
      refine d_n rfl trivial h fun x167 h => ?_
      refine wpI_s rfl trivial ?_
      refine wpI_nil ?_
      refine lpK_n (l165, x167, kz144) [102, 103, 104, 105] (h166.trans h142) h (leS2_c rfl rfl (leS2_c rfl rfl (leS2_c rfl rfl (leS2_c rfl rfl (leS2_c rfl rfl leS2_n))))) (leH2_c rfl rfl rfl rfl rfl rfl (leH2_c rfl rfl rfl rfl rfl rfl (leH2_c rfl rfl rfl rfl rfl rfl (leH2_c rfl rfl rfl rfl rfl rfl leH2_n)))) rfl rfl
     ·refine wpC_exit ?_
      refine seqK_x ?_
      obtain rfl := Option.some.inj h
      have h := hko148; clear hko148; try dsimp only at h
      refine lpK_x ?_
      refine blockK_x ?_
      refine seqK_n ?_
      refine wpC_seq ?_
      refine d_reg rfl ?_
      refine d_lda 0 1 rfl rfl rfl rfl (by simp only [flen, h142]) ?_
      refine d_sta 0 rfl rfl rfl rfl rfl (by simp only [flen, h142]) (by simp only [flen, List.length_replicate]) rfl rfl trivial ?_
      refine wpI_nil ?_
      refine seqK_n ?_
      refine wpC_ret ?_
      obtain rfl := Option.some.inj h
      exact d_ret2 [] [] ⟨rfl, rfl, rfl, h142⟩ (rIs_a 0 1 rfl rfl rfl rfl (by simp only [flen, h142])) leH2_n leH2_n rfl
 exact key.cong rfl blkEq_n blkEq_n

def ir_portcullisref1_Turn : IFn := ⟨46, (.seq (.reg [] (.cons ⟨none, (.w (some 4) (.box 23 32 (.int .u8 0) (.t 0)))⟩ (.cons ⟨none, (.w (some 6) (.box 46 12 (.int .u8 0) (.t 2)))⟩ (.cons ⟨none, (.s 8 (.mv (.k (.slice none 0 0))))⟩ .nil)))) (.seq (.reg [] (.cons ⟨none, (.s 13 (.mv (.t 3)))⟩ (.cons ⟨none, (.app (some 14) 5 1 (.int .u8 0) (.k (.slice none 0 0)) (.t 13))⟩ (.cons ⟨none, (.s 9 (.mv (.t 14)))⟩ .nil)))) (.seq (.reg [] (.cons ⟨none, (.s 15 (.mv (.t 1)))⟩ (.cons ⟨none, (.s 16 (.bin .and (.t 15) (.k (.int .i64 4294967295))))⟩ (.cons ⟨none, (.s 10 (.mv (.t 16)))⟩ .nil)))) (.seq (.reg [] (.cons ⟨none, (.w (some 11) (.alo 75 (.int .u8 0) (List.replicate 64 (.int .u8 0))))⟩ .nil)) (.seq (.seq (.reg [] (.cons ⟨none, (.s 12 (.mv (.k (.int .i64 0))))⟩ .nil)) (.block 0 (.loop (.seq (.seq (.reg [] (.cons ⟨none, (.s 17 (.mv (.t 12)))⟩ (.cons ⟨none, (.s 18 (.mv (.t 9)))⟩ (.cons ⟨none, (.s 19 (.len (.t 18)))⟩ (.cons ⟨none, (.s 20 (.bin .lss (.t 17) (.t 19)))⟩ .nil))))) (.cond (.t 20) .skip (.exit 0))) (.seq (.block 1 (.seqJ (.seq (.reg [] (.cons ⟨none, (.s 23 (.mv (.t 12)))⟩ (.cons ⟨none, (.s 24 (.bin .rem (.t 23) (.k (.int .i64 64))))⟩ (.cons ⟨none, (.s 25 (.bin .eql (.t 24) (.k (.int .i64 0))))⟩ .nil)))) (.cond (.t 25) (.reg [] (.cons ⟨none, (.r 26 (.lda 32 (.t 4)))⟩ (.cons ⟨none, (.s 27 (.mv (.t 10)))⟩ (.cons ⟨none, (.s 28 (.mv (.t 12)))⟩ (.cons ⟨none, (.s 29 (.bin .quo (.t 28) (.k (.int .i64 64))))⟩ (.cons ⟨none, (.s 30 (.bin .add (.t 27) (.t 29)))⟩ (.cons ⟨none, (.r 31 (.lda 12 (.t 6)))⟩ (.cons ⟨none, (.call (some 32) 38 [(.t 26), (.t 30), (.t 31)])⟩ (.cons ⟨none, (.w none (.sta 64 (.t 11) (.t 32)))⟩ .nil))))))))) .skip)) (.reg [] (.cons ⟨none, (.s 33 (.mv (.t 9)))⟩ (.cons ⟨none, (.s 34 (.mv (.t 12)))⟩ (.cons ⟨none, (.s 35 (.mv (.t 9)))⟩ (.cons ⟨none, (.s 36 (.mv (.t 12)))⟩ (.cons ⟨none, (.s 37 (.is 1 (.t 35) (.t 36)))⟩ (.cons ⟨none, (.r 38 (.ld (.int .u8 0) (.t 37)))⟩ (.cons ⟨none, (.s 39 (.mv (.t 12)))⟩ (.cons ⟨none, (.s 40 (.bin .rem (.t 39) (.k (.int .i64 64))))⟩ (.cons ⟨none, (.s 41 (.ia 64 1 (.t 11) (.t 40)))⟩ (.cons ⟨none, (.r 42 (.ld (.int .u8 0) (.t 41)))⟩ (.cons ⟨none, (.s 43 (.bin .xor (.t 38) (.t 42)))⟩ (.cons ⟨none, (.s 44 (.is 1 (.t 33) (.t 34)))⟩ (.cons ⟨none, (.w none (.st (.t 44) (.t 43)))⟩ .nil)))))))))))))))) (.reg [] (.cons ⟨none, (.s 21 (.mv (.t 12)))⟩ (.cons ⟨none, (.s 22 (.bin .add (.t 21) (.k (.int .i64 1))))⟩ (.cons ⟨none, (.s 12 (.mv (.t 22)))⟩ .nil))))))))) (.seq (.reg [] (.cons ⟨none, (.s 45 (.mv (.t 9)))⟩ (.cons ⟨none, (.s 8 (.mv (.t 45)))⟩ .nil))) .ret)))))), [(.tmp 8)]⟩
theorem low_portcullisref1_Turn : lowF Try.prog Try.f26 = some ir_portcullisref1_Turn.strip := by kernel_rfl
theorem ok_portcullisref1_Turn {fu : Nat} (i0 : Nat) (n0 : Nat) {X0b : Nat} {X0ty : Nat} {X0pr : List C} {X0ps : List C} {X0o : Nat} {X0c : Nat} {X0n : Nat} {X0fr : Nat × Nat} {key_ : List Int} {counter_ : Int} {nonce_ : List Int} {b_ : List Int} (X0l : X0n = b_.length) (X0S : 0 < X0n → X0pr.length = X0o) (X0C : X0n ≤ X0c) {l9002 : List Int} (h : fn_portcullisref1_Turn fu key_ counter_ nonce_ b_ = some l9002) :
  EV.Fn Try.prog 26 [.g (flat [.i .u8 key_]), ib .i64 counter_, .g (flat [.i .u8 nonce_]), .c (.s 0 X0b X0o X0n X0c)] [] [⟨i0, X0b, X0ty, true, X0fr, (.v undef), flat [.r X0pr, .i .u8 b_, .r X0ps]⟩] (fun v u nw => ∃ (kn9001 : Nat) (kw9003 : List C) (kn9004 : Nat), v = .c (.s n0 kn9001 0 l9002.length kn9004) ∧ u = [] ∧ nw = [⟨n0, kn9001, 5, false, (0, 0), .v undef, flat [.r [], .i .u8 l9002, .r kw9003]⟩] ∧ (kn9004 ≤ l9002.length + kw9003.length) ∧ (l9002.length ≤ kn9004)) := by
 subst X0l
 have key : EV.Fn Try.prog 26 [.g (flat [.i .u8 key_]), ib .i64 counter_, .g (flat [.i .u8 nonce_]), .c (.s 0 X0b X0o b_.length X0c)] [] [⟨0, X0b, X0ty, true, X0fr, (.v undef), flat [.r X0pr, .i .u8 b_, .r X0ps]⟩] (fun v u nw => ∃ (kn9001 : Nat) (kw9003 : List C) (kn9004 : Nat), v = .c (.s n0 kn9001 0 l9002.length kn9004) ∧ u = [] ∧ nw = [⟨n0, kn9001, 5, false, (0, 0), .v undef, flat [.r [], .i .u8 l9002, .r kw9003]⟩] ∧ (kn9004 ≤ l9002.length + kw9003.length) ∧ (l9002.length ≤ kn9004)) := by
  unfold fn_portcullisref1_Turn at h
  refine d_fn (i := ir_portcullisref1_Turn) (fn := Try.f26) (sl0 := [(0, .g (flat [.i .u8 key_])), (1, ib .i64 counter_), (2, .g (flat [.i .u8 nonce_])), (3, .c (.s 0 X0b X0o b_.length X0c))]) (hp0 := [⟨0, X0b, X0ty, true, X0fr, (.v undef), flat [.r X0pr, .i .u8 b_, .r X0ps]⟩]) (by kernel_rfl) low_portcullisref1_Turn mo rfl rfl rfl fun F z0 => ?_
  dsimp only [ir_portcullisref1_Turn]
  refine gd_e h fun Xh_key_ h => ?_
  refine gd_e h fun Xh_nonce_ h => ?_
  refine wpC_seq ?_
  refine d_reg rfl ?_
  refine d_box rfl (fun _ => trivial) rfl fun kb1 kz2 => ?_
  refine d_box rfl (fun _ => trivial) rfl fun kb3 kz4 => ?_
  refine wpI_s rfl trivial ?_
  refine wpI_nil ?_
  refine seqK_n ?_
  refine wpC_seq ?_
  refine d_reg rfl ?_
  refine wpI_s rfl trivial ?_
  refine cond_d h (fun h5 h => ?_) (fun h5 h => ?_)
  ·refine gd_e h fun g6 h => ?_
   refine d_appnil rfl rfl rfl h (fun w hw => Src.of_eq (src_slice (j2 := 1) (p2 := X0pr.length) (q2 := 0) hw rfl rfl rfl (hs_zero X0S) (by rw [Nat.zero_add]; exact (Nat.le_refl _))) (sub_full rfl)) h5 g6 rfl fun l7 kb8 kc9 kp10 kz11 h12 h13 h => ?_
   refine wpI_s rfl trivial ?_
   refine wpI_nil ?_
   refine seqK_n ?_
   refine wpC_seq ?_
   refine d_reg rfl ?_
   refine wpI_s rfl trivial ?_
   refine d_n rfl trivial h fun x14 h => ?_
   refine wpI_s rfl trivial ?_
   refine wpI_nil ?_
   refine seqK_n ?_
   refine wpC_seq ?_
   refine d_reg rfl ?_
   refine d_alo (g := [.i .u8 (List.replicate 64 0)]) (zeros_flat _ _ _) (fun _ => trivial) fun kb15 kz16 => ?_
   refine wpI_nil ?_
   refine seqK_n ?_
   refine wpC_seq ?_
   refine wpC_seq ?_
   refine d_reg rfl ?_
   refine wpI_s rfl trivial ?_
   refine wpI_nil ?_
   refine seqK_n ?_
   refine wpC_block ?_
   refine bind_e h fun o26 h hko26 => ?_
   refine d_loop (fun (z : List Int × List Int × Int × Nat) => match z with | (l17, l19, x21, kz22) => (l17, l19, x21)) (fun (z : List Int × List Int × Int × Nat) => (match z with | (l17, l19, x21, kz22) => ⟨[(4, .c (.p 100 kb1 0)), (6, .c (.p 101 kb3 0)), (9, .c (.s 102 kb8 0 l7.length kc9)), (10, ib .i64 x14), (11, .c (.p 103 kb15 0)), (12, ib .i64 x21)], [⟨100, kb1, 23, false, (0, 0), (.v (.int .u8 0)), flat [.i .u8 key_]⟩, ⟨101, kb3, 46, false, (0, 0), (.v (.int .u8 0)), flat [.i .u8 nonce_]⟩, ⟨102, kb8, 5, false, (0, 0), (.v (.int .u8 0)), flat [.r [], .i .u8 l17, .r kp10]⟩, ⟨103, kb15, 75, false, (0, 0), (.v (.int .u8 0)), flat [.i .u8 l19]⟩], 104, kz22⟩ : St)) (fun (z : List Int × List Int × Int × Nat) => match z with | (l17, l19, x21, kz22) => (l17.length = l7.length) ∧ (l19.length = 64)) (l7, (List.replicate 64 0), 0, kz16) [100, 101, 102, 103] h ⟨rfl, List.length_replicate⟩ (leS2_c rfl rfl (leS2_c rfl rfl (leS2_c rfl rfl (leS2_c rfl rfl (leS2_c rfl rfl (leS2_c rfl rfl leS2_n)))))) (leH2_c rfl rfl rfl rfl rfl rfl (leH2_c rfl rfl rfl rfl rfl rfl (leH2_c rfl rfl rfl rfl rfl rfl (leH2_c rfl rfl rfl rfl rfl rfl leH2_n)))) rfl rfl ?_
   rintro rec ⟨l17, l19, x21, kz22⟩ ⟨h18, h20⟩ h
   show wpC _ _ _ _ _ (St.mk _ _ _ _)
   unfold fn_portcullisref1_Turn_l1 at h; try dsimp only at h
   refine wpC_seq ?_
   refine wpC_seq ?_
   refine d_reg rfl ?_
   refine wpI_s rfl trivial ?_
   refine wpI_s rfl trivial ?_
   refine wpI_s rfl trivial ?_
   refine d_b rfl trivial h fun t27 h => ?_
   refine wpI_nil ?_
   refine seqK_n ?_
   refine d_cond rfl h (fun h => ?_) (fun h => ?_)
   ·refine wpC_skip ?_
    refine seqK_n ?_
    refine wpC_seq ?_
    refine wpC_block ?_
    refine bind_e h fun o31 h hko31 => ?_
    refine d_join (fun (z : List Int × Nat) => (match z with | (l28, kz30) => ⟨[(4, .c (.p 100 kb1 0)), (6, .c (.p 101 kb3 0)), (9, .c (.s 102 kb8 0 l7.length kc9)), (10, ib .i64 x14), (11, .c (.p 103 kb15 0)), (12, ib .i64 x21)], [⟨100, kb1, 23, false, (0, 0), (.v (.int .u8 0)), flat [.i .u8 key_]⟩, ⟨101, kb3, 46, false, (0, 0), (.v (.int .u8 0)), flat [.i .u8 nonce_]⟩, ⟨102, kb8, 5, false, (0, 0), (.v (.int .u8 0)), flat [.r [], .i .u8 l17, .r kp10]⟩, ⟨103, kb15, 75, false, (0, 0), (.v (.int .u8 0)), flat [.i .u8 l28]⟩], 104, kz30⟩ : St)) (fun (z : List Int × Nat) => match z with | (l28, kz30) => ((l28.length = 64)) ∧ l28 = o31) ?_ ?_
    ·refine wpC_seq ?_
     refine d_reg rfl ?_
     refine wpI_s rfl trivial ?_
     refine d_n rfl (by decide) h fun x32 h => ?_
     refine d_b rfl trivial h fun t33 h => ?_
     refine wpI_nil ?_
     refine seqK_n ?_
     refine d_cond rfl h (fun h => ?_) (fun h => ?_)
     ·refine d_reg rfl ?_
      refine d_lda 0 1 rfl rfl rfl rfl (by simp only [flen, Xh_key_]) ?_
      refine wpI_s rfl trivial ?_
      refine wpI_s rfl trivial ?_
      refine d_n rfl (by decide) h fun x34 h => ?_
      refine d_n rfl trivial h fun x35 h => ?_
      refine d_lda 0 1 rfl rfl rfl rfl (by simp only [flen, Xh_nonce_]) ?_
      refine bind_e h fun l38 ho37 h => ?_
      refine d_call (ok_portcullisref1_Block     (h := ho37)) rfl rfl haveRw_n haveRo_n (own_of rfl) ?_
      rintro _ _ _ kz40 ⟨rfl, rfl, rfl, h39⟩
      refine ⟨_, rfl, trivial, ?_⟩
      refine gd_e h fun g41 h => ?_
      refine d_sta 0 rfl rfl rfl rfl rfl (by simp only [flen, g41]) (by simp only [flen, h20]) rfl rfl trivial ?_
      refine wpI_nil ?_
      refine jnK_n (l38, kz40) [100, 101, 102, 103] ⟨g41, Option.some.inj h⟩ (leS2_c rfl rfl (leS2_c rfl rfl (leS2_c rfl rfl (leS2_c rfl rfl (leS2_c rfl rfl (leS2_c rfl rfl leS2_n)))))) (leH2_c rfl rfl rfl rfl rfl rfl (leH2_c rfl rfl rfl rfl rfl rfl (leH2_c rfl rfl rfl rfl rfl rfl (leH2_c rfl rfl rfl rfl rfl rfl leH2_n)))) rfl rfl
     ·refine wpC_skip ?_
      refine jnK_n (l19, kz22) [100, 101, 102, 103] ⟨h20, Option.some.inj h⟩ (leS2_c rfl rfl (leS2_c rfl rfl (leS2_c rfl rfl (leS2_c rfl rfl (leS2_c rfl rfl (leS2_c rfl rfl leS2_n)))))) (leH2_c rfl rfl rfl rfl rfl rfl (leH2_c rfl rfl rfl rfl rfl rfl (leH2_c rfl rfl rfl rfl rfl rfl (leH2_c rfl rfl rfl rfl rfl rfl leH2_n)))) rfl rfl
    ·rintro ⟨l28, kz30⟩ ⟨h29, rfl⟩
     show wpC _ _ _ _ _ (St.mk _ _ _ _)
     have h := hko31; clear hko31; try dsimp only at h
     refine d_reg rfl ?_
     refine wpI_s rfl trivial ?_
     refine wpI_s rfl trivial ?_
     refine wpI_s rfl trivial ?_
     refine wpI_s rfl trivial ?_
     refine gd_e h fun g42 h => ?_
     refine wpI_s rfl g42 ?_
     refine d_ld 1 (q := x21.toNat) rfl rfl rfl h (sl_offP0 (i := x21) rfl (fun _ => rfl) g42) fun x43 h => ?_
     refine wpI_s rfl trivial ?_
     refine d_n rfl (by decide) h fun x44 h => ?_
     refine gd_e h fun g45 h => ?_
     refine wpI_s rfl g45 ?_
     refine d_ld 0 (q := x44.toNat) rfl rfl rfl h (ar_offi (x44) rfl) fun x46 h => ?_
     refine d_n rfl trivial h fun x47 h => ?_
     refine gd_e h fun g48 h => ?_
     refine wpI_s rfl g48 ?_
     refine d_st 1 (q := x21.toNat) rfl rfl rfl rfl h (sl_offP0 (i := x21) rfl (fun _ => rfl) g48) (fun _ => rfl) (fun _ => rfl) (fun _ => trivial) fun l49 h50 h => ?_
     refine wpI_nil ?_
     refine blockK_n ?_
     refine seqK_n ?_
     refine d_reg rfl ?_
     refine wpI_s rfl trivial ?_
     refine d_n rfl trivial h fun x51 h => ?_
     refine wpI_s rfl trivial ?_
     refine wpI_nil ?_
     refine lpK_n (l49, l28, x51, kz30) [100, 101, 102, 103] ⟨(h50.trans h18), h29⟩ h (leS2_c rfl rfl (leS2_c rfl rfl (leS2_c rfl rfl (leS2_c rfl rfl (leS2_c rfl rfl (leS2_c rfl rfl leS2_n)))))) (leH2_c rfl rfl rfl rfl rfl rfl (leH2_c rfl rfl rfl rfl rfl rfl (leH2_c rfl rfl rfl rfl rfl rfl (leH2_c rfl rfl rfl rfl rfl rfl leH2_n)))) rfl rfl
   ·refine wpC_exit ?_
    refine seqK_x ?_
    obtain rfl := Option.some.inj h
    have h := hko26; clear hko26; try dsimp only at h
    refine lpK_x ?_
    refine blockK_x ?_
    refine seqK_n ?_
    refine wpC_seq ?_
    refine d_reg rfl ?_
    refine wpI_s rfl trivial ?_
    refine wpI_s rfl trivial ?_
    refine wpI_nil ?_
    refine seqK_n ?_
    refine wpC_ret ?_
    obtain rfl := Option.some.inj h
    exact d_ret2 [] [102] ⟨kb8, kp10, kc9, rfl, rfl, rfl, (le_lenp h18 h12), (le_lenl h18 h13)⟩ (rIs_t rfl (den_s (h18).symm)) leH2_n (leH2_c rfl rfl rfl rfl rfl rfl leH2_n) rfl
  ·cases h
 exact key.cong rfl blkEq_n (blkEq_c rfl rfl rfl rfl blkEq_n)

def ir_portcullisref1_filled : IFn := ⟨11, (.seq (.reg [] (.cons ⟨none, (.s 2 (.mv (.k (.slice none 0 0))))⟩ .nil)) (.seq (.block 0 (.loop (.seq (.seq (.reg [] (.cons ⟨none, (.s 3 (.mv (.t 0)))⟩ (.cons ⟨none, (.s 4 (.len (.t 3)))⟩ (.cons ⟨none, (.s 5 (.bin .rem (.t 4) (.k (.int .i64 16))))⟩ (.cons ⟨none, (.s 6 (.bin .neq (.t 5) (.k (.int .i64 0))))⟩ .nil))))) (.cond (.t 6) .skip (.exit 0))) (.block 1 (.reg [] (.cons ⟨none, (.s 7 (.mv (.t 0)))⟩ (.cons ⟨none, (.w (some 8) (.bsl 5 (.int .u8 0) [(.int .u8 0)] 1 [(0, (1, (.k (.int .u8 0))))]))⟩ (.cons ⟨none, (.app (some 9) 5 1 (.int .u8 0) (.t 7) (.t 8))⟩ (.cons ⟨none, (.s 0 (.mv (.t 9)))⟩ .nil))))))))) (.seq (.reg [] (.cons ⟨none, (.s 10 (.mv (.t 0)))⟩ (.cons ⟨none, (.s 2 (.mv (.t 10)))⟩ .nil))) .ret))), [(.tmp 2)]⟩
theorem low_portcullisref1_filled : lowF Try.prog Try.f39 = some ir_portcullisref1_filled.strip := by kernel_rfl
theorem ok_portcullisref1_filled {fu : Nat} (i0 : Nat) (n0 : Nat) {X0b : Nat} {X0ty : Nat} {X0pr : List C} {X0ps : List C} {X0o : Nat} {X0c : Nat} {X0n : Nat} {b_ : List Int} (X0l : X0n = b_.length) (X0O : X0pr.length = X0o) (X0C : X0n ≤ X0c) (X0R : X0c ≤ X0n + X0ps.length) {l9004 : List Int} (h : fn_portcullisref1_filled fu b_ = some l9004) :
  EV.FnC Try.prog 39 [.c (.s 0 X0b X0o X0n X0c)] [⟨i0, X0b, X0ty, false, (0, 0), (.v undef), flat [.r X0pr, .i .u8 b_, .r X0ps]⟩] [] [] (fun v u nw => ∃ (kn9001 : Nat) (kn9002 : Nat) (kw9003 : List C) (kw9005 : List C) (kn9006 : Nat) (kn9007 : Nat), v = .c (.s n0 kn9001 kn9006 l9004.length kn9007) ∧ u = [] ∧ nw = [⟨n0, kn9001, kn9002, false, (0, 0), .v undef, flat [.r kw9003, .i .u8 l9004, .r kw9005]⟩] ∧ (kw9003.length = kn9006) ∧ (kn9007 ≤ l9004.length + kw9005.length) ∧ (l9004.length ≤ kn9007)) := by
 subst X0l
 have key : EV.FnC Try.prog 39 [.c (.s 0 X0b X0o b_.length X0c)] [⟨0, X0b, X0ty, false, (0, 0), (.v undef), flat [.r X0pr, .i .u8 b_, .r X0ps]⟩] [] [] (fun v u nw => ∃ (kn9001 : Nat) (kn9002 : Nat) (kw9003 : List C) (kw9005 : List C) (kn9006 : Nat) (kn9007 : Nat), v = .c (.s n0 kn9001 kn9006 l9004.length kn9007) ∧ u = [] ∧ nw = [⟨n0, kn9001, kn9002, false, (0, 0), .v undef, flat [.r kw9003, .i .u8 l9004, .r kw9005]⟩] ∧ (kw9003.length = kn9006) ∧ (kn9007 ≤ l9004.length + kw9005.length) ∧ (l9004.length ≤ kn9007)) := by
  unfold fn_portcullisref1_filled at h
  refine d_fnC (i := ir_portcullisref1_filled) (fn := Try.f39) (sl0 := [(0, .c (.s 0 X0b X0o b_.length X0c))]) (hp0 := [⟨0, X0b, X0ty, false, (0, 0), (.v undef), flat [.r X0pr, .i .u8 b_, .r X0ps]⟩]) (by kernel_rfl) low_portcullisref1_filled mo rfl rfl rfl fun F z0 => ?_
  dsimp only [ir_portcullisref1_filled]
  refine wpC_seq ?_
  refine d_reg rfl ?_
  refine wpI_s rfl trivial ?_
  refine wpI_nil ?_
  refine seqK_n ?_
  refine wpC_seq ?_
  refine wpC_block ?_
  refine bind_e h fun o23 h hko23 => ?_
  refine d_loop (fun (z : List Int × Nat × Nat × List C × List C × Nat × Nat × Nat) => match z with | (l4, kn1, kn2, kw3, kw5, kn6, kn7, kz11) => l4) (fun (z : List Int × Nat × Nat × List C × List C × Nat × Nat × Nat) => (match z with | (l4, kn1, kn2, kw3, kw5, kn6, kn7, kz11) => ⟨[(0, .c (.s 0 kn1 kn6 l4.length kn7))], [⟨0, kn1, kn2, false, (0, 0), (.v undef), flat [.r kw3, .i .u8 l4, .r kw5]⟩], 100, kz11⟩ : St)) (fun (z : List Int × Nat × Nat × List C × List C × Nat × Nat × Nat) => match z with | (l4, kn1, kn2, kw3, kw5, kn6, kn7, kz11) => (kw3.length = kn6) ∧ (kn7 ≤ l4.length + kw5.length) ∧ (l4.length ≤ kn7)) (b_, X0b, X0ty, X0pr, X0ps, X0o, X0c, z0) [0] h ⟨X0O, X0R, X0C⟩ (leS2_c rfl rfl leS2_n) (leH2_c rfl rfl rfl rfl rfl rfl leH2_n) rfl rfl ?_
  rintro rec ⟨l4, kn1, kn2, kw3, kw5, kn6, kn7, kz11⟩ ⟨h8, h9, h10⟩ h
  show wpC _ _ _ _ _ (St.mk _ _ _ _)
  unfold fn_portcullisref1_filled_l1 at h; try dsimp only at h
  refine wpC_seq ?_
  refine wpC_seq ?_
  refine d_reg rfl ?_
  refine wpI_s rfl trivial ?_
  refine wpI_s rfl trivial ?_
  refine d_n rfl (by decide) h fun x24 h => ?_
  refine d_b rfl trivial h fun t25 h => ?_
  refine wpI_nil ?_
  refine seqK_n ?_
  refine d_cond rfl h (fun h => ?_) (fun h => ?_)
  ·refine wpC_skip ?_
   refine seqK_n ?_
   refine wpC_block ?_
   refine d_reg rfl ?_
   refine wpI_s rfl trivial ?_
   refine d_bsl (g := [.r [], .i .u8 [0], .r []]) (by rfl) (fun _ => trivial) fun kb26 kz27 => ?_
   refine gd_e h fun g28 h => ?_
   refine d_appo rfl rfl rfl rfl h8 h9 h (fun w hw => Src.of_eq (src_slice (j2 := 1) (p2 := 0) (q2 := 0) hw rfl rfl rfl (hs_zero (fun _ => rfl)) (by rw [Nat.zero_add]; exact (Nat.le_refl _))) (sub_full rfl)) g28 rfl rfl fun l29 kb30 ko31 kc32 kt33 kp34 kq35 kz36 h37 h38 h39 h => ?_
   refine wpI_s rfl trivial ?_
   refine wpI_nil ?_
   refine blockK_n ?_
   refine lpK_n (l29, kb30, kt33, kp34, kq35, ko31, kc32, kz36) [101] ⟨h37, h38, h39⟩ h (leS2_c rfl rfl leS2_n) (leH2_c rfl rfl rfl rfl rfl rfl leH2_n) rfl rfl
  ·refine wpC_exit ?_
   refine seqK_x ?_
   obtain rfl := Option.some.inj h
   have h := hko23; clear hko23; try dsimp only at h
   refine lpK_x ?_
   refine blockK_x ?_
   refine seqK_n ?_
   refine wpC_seq ?_
   refine d_reg rfl ?_
   refine wpI_s rfl trivial ?_
   refine wpI_s rfl trivial ?_
   refine wpI_nil ?_
   refine seqK_n ?_
   refine wpC_ret ?_
   obtain rfl := Option.some.inj h
   exact d_ret2 [] [0] ⟨kn1, kn2, kw3, kw5, kn6, kn7, rfl, rfl, rfl, h8, h9, h10⟩ (rIs_t rfl rfl) leH2_n (leH2_c rfl rfl rfl rfl rfl rfl leH2_n) rfl
 exact key.cong rfl (blkEq_c rfl rfl rfl rfl blkEq_n) rfl blkEq_n

def ir_portcullisref1_length : IFn := ⟨20, (.seq (.reg [] (.cons ⟨none, (.s 2 (.mv (.k (.slice none 0 0))))⟩ .nil)) (.seq (.reg [] (.cons ⟨none, (.s 3 (.mv (.k (.slice none 0 0))))⟩ .nil)) (.seq (.seq (.reg [] (.cons ⟨none, (.s 4 (.mv (.k (.int .i64 0))))⟩ .nil)) (.block 0 (.loop (.seq (.seq (.reg [] (.cons ⟨none, (.s 5 (.mv (.t 4)))⟩ (.cons ⟨none, (.s 6 (.bin .lss (.t 5) (.k (.int .i64 8))))⟩ .nil))) (.cond (.t 6) .skip (.exit 0))) (.seq (.block 1 (.reg [] (.cons ⟨none, (.s 9 (.mv (.t 3)))⟩ (.cons ⟨none, (.s 10 (.mv (.t 0)))⟩ (.cons ⟨none, (.s 11 (.mv (.t 4)))⟩ (.cons ⟨none, (.s 12 (.bin .mul (.k (.int .i64 8)) (.t 11)))⟩ (.cons ⟨none, (.s 13 (.cv .u64 (.t 12)))⟩ (.cons ⟨none, (.s 14 (.bin .shr (.t 10) (.t 13)))⟩ (.cons ⟨none, (.s 15 (.bin .and (.t 14) (.k (.int .i64 255))))⟩ (.cons ⟨none, (.s 16 (.cv .u8 (.t 15)))⟩ (.cons ⟨none, (.w (some 17) (.bsl 5 (.int .u8 0) [(.int .u8 0)] 1 [(0, (1, (.t 16)))]))⟩ (.cons ⟨none, (.app (some 18) 5 1 (.int .u8 0) (.t 9) (.t 17))⟩ (.cons ⟨none, (.s 3 (.mv (.t 18)))⟩ .nil))))))))))))) (.reg [] (.cons ⟨none, (.s 7 (.mv (.t 4)))⟩ (.cons ⟨none, (.s 8 (.bin .add (.t 7) (.k (.int .i64 1))))⟩ (.cons ⟨none, (.s 4 (.mv (.t 8)))⟩ .nil))))))))) (.seq (.reg [] (.cons ⟨none, (.s 19 (.mv (.t 3)))⟩ (.cons ⟨none, (.s 2 (.mv (.t 19)))⟩ .nil))) .ret)))), [(.tmp 2)]⟩
theorem low_portcullisref1_length : lowF Try.prog Try.f40 = some ir_portcullisref1_length.strip := by kernel_rfl
theorem ok_portcullisref1_length {fu : Nat} (n0 : Nat) {n_ : Int} {l9004 : List Int} (h : fn_portcullisref1_length fu n_ = some l9004) :
  EV.Fn Try.prog 40 [ib .i64 n_] [] [] (fun v u nw => ∃ (kn9001 : Nat) (kn9002 : Nat) (kw9003 : List C) (kw9005 : List C) (kn9006 : Nat) (kn9007 : Nat), v = .c (.s n0 kn9001 kn9006 l9004.length kn9007) ∧ u = [] ∧ nw = [⟨n0, kn9001, kn9002, false, (0, 0), .v undef, flat [.r kw9003, .i .u8 l9004, .r kw9005]⟩] ∧ (kw9003.length = kn9006) ∧ (kn9007 ≤ l9004.length + kw9005.length) ∧ (l9004.length ≤ kn9007)) := by
 have key : EV.Fn Try.prog 40 [ib .i64 n_] [] [] (fun v u nw => ∃ (kn9001 : Nat) (kn9002 : Nat) (kw9003 : List C) (kw9005 : List C) (kn9006 : Nat) (kn9007 : Nat), v = .c (.s n0 kn9001 kn9006 l9004.length kn9007) ∧ u = [] ∧ nw = [⟨n0, kn9001, kn9002, false, (0, 0), .v undef, flat [.r kw9003, .i .u8 l9004, .r kw9005]⟩] ∧ (kw9003.length = kn9006) ∧ (kn9007 ≤ l9004.length + kw9005.length) ∧ (l9004.length ≤ kn9007)) := by
  unfold fn_portcullisref1_length at h
  refine d_fn (i := ir_portcullisref1_length) (fn := Try.f40) (sl0 := [(0, ib .i64 n_)]) (hp0 := []) (by kernel_rfl) low_portcullisref1_length mo rfl rfl rfl fun F z0 => ?_
  dsimp only [ir_portcullisref1_length]
  refine wpC_seq ?_
  refine d_reg rfl ?_
  refine wpI_s rfl trivial ?_
  refine wpI_nil ?_
  refine seqK_n ?_
  refine wpC_seq ?_
  refine d_reg rfl ?_
  refine wpI_s rfl trivial ?_
  refine wpI_nil ?_
  refine seqK_n ?_
  refine wpC_seq ?_
  refine wpC_seq ?_
  refine d_reg rfl ?_
  refine wpI_s rfl trivial ?_
  refine wpI_nil ?_
  refine seqK_n ?_
  refine wpC_block ?_
  refine bind_e h fun o25 h hko25 => ?_
  refine d_loop (fun (z : (Nat) ⊕ (List Int × Int × Nat × Nat × List C × List C × Nat × Nat × Nat)) => match z with | .inl kz1 => Sum.inl () | .inr ((l5, x12, kn2, kn3, kw4, kw6, kn7, kn8, kz13)) => Sum.inr ((l5, x12))) (fun (z : (Nat) ⊕ (List Int × Int × Nat × Nat × List C × List C × Nat × Nat × Nat)) => (match z with | .inl kz1 => ⟨[(0, ib .i64 n_), (3, .c (.v (.slice none 0 0))), (4, ib .i64 0)], [], 100, kz1⟩ | .inr ((l5, x12, kn2, kn3, kw4, kw6, kn7, kn8, kz13)) => ⟨[(0, ib .i64 n_), (3, .c (.s 101 kn2 kn7 l5.length kn8)), (4, ib .i64 x12)], [⟨101, kn2, kn3, false, (0, 0), (.v (.int .u8 0)), flat [.r kw4, .i .u8 l5, .r kw6]⟩], 102, kz13⟩ : St)) (fun (z : (Nat) ⊕ (List Int × Int × Nat × Nat × List C × List C × Nat × Nat × Nat)) => match z with | .inl kz1 => True | .inr ((l5, x12, kn2, kn3, kw4, kw6, kn7, kn8, kz13)) => (kw4.length = kn7) ∧ (kn8 ≤ l5.length + kw6.length) ∧ (l5.length ≤ kn8)) (Sum.inl z0) [] h trivial (leS2_c rfl rfl (leS2_c rfl rfl (leS2_c rfl rfl leS2_n))) leH2_n rfl rfl ?_
  rintro rec (kz1 | ⟨l5, x12, kn2, kn3, kw4, kw6, kn7, kn8, kz13⟩)
  ·rintro _ h
   show wpC _ _ _ _ _ (St.mk _ _ _ _)
   unfold fn_portcullisref1_length_l1 at h; try dsimp only at h
   refine wpC_seq ?_
   refine wpC_seq ?_
   refine d_reg rfl ?_
   refine wpI_s rfl trivial ?_
   refine d_bf (w := true) rfl trivial (by decide) ?_
   refine wpI_nil ?_
   refine seqK_n ?_
   refine wpC_condT rfl ?_
   refine wpC_skip ?_
   refine seqK_n ?_
   refine wpC_seq ?_
   refine wpC_block ?_
   refine d_reg rfl ?_
   refine wpI_s rfl trivial ?_
   refine wpI_s rfl trivial ?_
   refine wpI_s rfl trivial ?_
   refine d_nf (w := 0) rfl trivial (by decide) ?_
   refine d_nf (w := 0) rfl trivial (by decide) ?_
   refine d_n rfl (by decide) h fun x26 h => ?_
   refine d_n rfl trivial h fun x27 h => ?_
   refine d_n rfl trivial h fun x28 h => ?_
   refine d_bsl (g := [.r [], .i .u8 [x28], .r []]) (by rfl) (fun _ => trivial) fun kb29 kz30 => ?_
   refine gd_e h fun g31 h => ?_
   refine d_appnil rfl rfl rfl h (fun w hw => Src.of_eq (src_slice (j2 := 1) (p2 := 0) (q2 := 0) hw rfl rfl rfl (hs_zero (fun _ => rfl)) (by rw [Nat.zero_add]; exact (Nat.le_refl _))) (sub_full rfl)) (by first | exact Nat.zero_lt_succ _ | (rw [rfl]; decide) | (rw [sub_len (by rw [Nat.zero_add]; exact (Nat.le_refl _))]; decide)) g31 rfl fun l32 kb33 kc34 kp35 kz36 h37 h38 h => ?_
   refine wpI_s rfl trivial ?_
   refine wpI_nil ?_
   refine blockK_n ?_
   refine seqK_n ?_
   refine d_reg rfl ?_
   refine wpI_s rfl trivial ?_
   refine d_nf (w := 1) rfl trivial (by decide) ?_
   refine wpI_s rfl trivial ?_
   refine wpI_nil ?_
   refine lpK_n (Sum.inr ((l32, 1, kb33, 5, [], kp35, 0, kc34, kz36))) [101] ⟨rfl, h37, h38⟩ h (leS2_c rfl rfl (leS2_c rfl rfl (leS2_c rfl rfl leS2_n))) (leH2_c rfl rfl rfl rfl rfl rfl leH2_n) rfl rfl
  ·rintro ⟨h9, h10, h11⟩ h
   show wpC _ _ _ _ _ (St.mk _ _ _ _)
   unfold fn_portcullisref1_length_l1 at h; try dsimp only at h
   refine wpC_seq ?_
   refine wpC_seq ?_
   refine d_reg rfl ?_
   refine wpI_s rfl trivial ?_
   refine d_b rfl trivial h fun t39 h => ?_
   refine wpI_nil ?_
   refine seqK_n ?_
   refine d_cond rfl h (fun h => ?_) (fun h => ?_)
   ·refine wpC_skip ?_
    refine seqK_n ?_
    refine wpC_seq ?_
    refine wpC_block ?_
    refine d_reg rfl ?_
    refine wpI_s rfl trivial ?_
    refine wpI_s rfl trivial ?_
    refine wpI_s rfl trivial ?_
    refine d_n rfl trivial h fun x40 h => ?_
    refine d_n rfl trivial h fun x41 h => ?_
    refine gd_e h fun g42 h => ?_
    refine d_n rfl g42 h fun x43 h => ?_
    refine d_n rfl trivial h fun x44 h => ?_
    refine d_n rfl trivial h fun x45 h => ?_
    refine d_bsl (g := [.r [], .i .u8 [x45], .r []]) (by rfl) (fun _ => trivial) fun kb46 kz47 => ?_
    refine gd_e h fun g48 h => ?_
    refine d_appo rfl rfl rfl rfl h9 h10 h (fun w hw => Src.of_eq (src_slice (j2 := 1) (p2 := 0) (q2 := 0) hw rfl rfl rfl (hs_zero (fun _ => rfl)) (by rw [Nat.zero_add]; exact (Nat.le_refl _))) (sub_full rfl)) g48 rfl rfl fun l49 kb50 ko51 kc52 kt53 kp54 kq55 kz56 h57 h58 h59 h => ?_
    refine wpI_s rfl trivial ?_
    refine wpI_nil ?_
    refine blockK_n ?_
    refine seqK_n ?_
    refine d_reg rfl ?_
    refine wpI_s rfl trivial ?_
    refine d_n rfl trivial h fun x60 h => ?_
    refine wpI_s rfl trivial ?_
    refine wpI_nil ?_
    refine lpK_n (Sum.inr ((l49, x60, kb50, kt53, kp54, kq55, ko51, kc52, kz56))) [103] ⟨h57, h58, h59⟩ h (leS2_c rfl rfl (leS2_c rfl rfl (leS2_c rfl rfl leS2_n))) (leH2_c rfl rfl rfl rfl rfl rfl leH2_n) rfl rfl
   ·refine wpC_exit ?_
    refine seqK_x ?_
    obtain rfl := Option.some.inj h
    have h := hko25; clear hko25; try dsimp only at h
    refine lpK_x ?_
    refine blockK_x ?_
    refine seqK_n ?_
    refine wpC_seq ?_
    refine d_reg rfl ?_
    refine wpI_s rfl trivial ?_
    refine wpI_s rfl trivial ?_
    refine wpI_nil ?_
    refine seqK_n ?_
    refine wpC_ret ?_
    obtain rfl := Option.some.inj h
    exact d_ret2 [] [101] ⟨kn2, kn3, kw4, kw6, kn7, kn8, rfl, rfl, rfl, h9, h10, h11⟩ (rIs_t rfl rfl) leH2_n (leH2_c rfl rfl rfl rfl rfl rfl leH2_n) rfl
 exact key.cong rfl blkEq_n blkEq_n

def ir_portcullisref1_carried : IFn := ⟨40, (.seq (.reg [] (.cons ⟨none, (.w (some 1) (.box 90 17 (.int .i64 0) (.t 0)))⟩ (.cons ⟨none, (.w (some 2) (.alo 90 (.int .i64 0) (List.replicate 17 (.int .i64 0))))⟩ .nil))) (.seq (.seq (.reg [] (.cons ⟨none, (.s 3 (.mv (.k (.int .i64 0))))⟩ .nil)) (.block 0 (.loop (.seq (.seq (.reg [] (.cons ⟨none, (.s 6 (.mv (.t 3)))⟩ (.cons ⟨none, (.s 7 (.bin .lss (.t 6) (.k (.int .i64 3))))⟩ .nil))) (.cond (.t 7) .skip (.exit 0))) (.seq (.block 1 (.seq (.reg [] (.cons ⟨none, (.s 4 (.mv (.k (.int .i64 0))))⟩ .nil)) (.seq (.seq (.reg [] (.cons ⟨none, (.s 5 (.mv (.k (.int .i64 0))))⟩ .nil)) (.block 2 (.loop (.seq (.seq (.reg [] (.cons ⟨none, (.s 10 (.mv (.t 5)))⟩ (.cons ⟨none, (.s 11 (.bin .lss (.t 10) (.k (.int .i64 16))))⟩ .nil))) (.cond (.t 11) .skip (.exit 2))) (.seq (.block 3 (.seq (.reg [] (.cons ⟨none, (.s 14 (.mv (.t 4)))⟩ (.cons ⟨none, (.s 15 (.mv (.t 5)))⟩ (.cons ⟨none, (.s 16 (.ia 17 1 (.t 1) (.t 15)))⟩ (.cons ⟨none, (.r 17 (.ld (.int .i64 0) (.t 16)))⟩ (.cons ⟨none, (.s 18 (.bin .add (.t 14) (.t 17)))⟩ (.cons ⟨none, (.s 4 (.mv (.t 18)))⟩ .nil))))))) (.seq (.reg [] (.cons ⟨none, (.s 19 (.mv (.t 5)))⟩ (.cons ⟨none, (.s 20 (.mv (.t 4)))⟩ (.cons ⟨none, (.s 21 (.bin .and (.t 20) (.k (.int .i64 255))))⟩ (.cons ⟨none, (.s 22 (.ia 17 1 (.t 1) (.t 19)))⟩ (.cons ⟨none, (.w none (.st (.t 22) (.t 21)))⟩ .nil)))))) (.reg [] (.cons ⟨none, (.s 23 (.mv (.t 4)))⟩ (.cons ⟨none, (.s 24 (.bin .shr (.t 23) (.k (.int .u64 8))))⟩ (.cons ⟨none, (.s 4 (.mv (.t 24)))⟩ .nil))))))) (.reg [] (.cons ⟨none, (.s 12 (.mv (.t 5)))⟩ (.cons ⟨none, (.s 13 (.bin .add (.t 12) (.k (.int .i64 1))))⟩ (.cons ⟨none, (.s 5 (.mv (.t 13)))⟩ .nil))))))))) (.seq (.reg [] (.cons ⟨none, (.s 25 (.mv (.t 4)))⟩ (.cons ⟨none, (.s 26 (.ia 17 1 (.t 1) (.k (.int .i64 16))))⟩ (.cons ⟨none, (.r 27 (.ld (.int .i64 0) (.t 26)))⟩ (.cons ⟨none, (.s 28 (.bin .add (.t 25) (.t 27)))⟩ (.cons ⟨none, (.s 4 (.mv (.t 28)))⟩ .nil)))))) (.seq (.reg [] (.cons ⟨none, (.s 29 (.mv (.t 4)))⟩ (.cons ⟨none, (.s 30 (.bin .and (.t 29) (.k (.int .i64 3))))⟩ (.cons ⟨none, (.s 31 (.ia 17 1 (.t 1) (.k (.int .i64 16))))⟩ (.cons ⟨none, (.w none (.st (.t 31) (.t 30)))⟩ .nil))))) (.reg [] (.cons ⟨none, (.s 32 (.ia 17 1 (.t 1) (.k (.int .i64 0))))⟩ (.cons ⟨none, (.r 33 (.ld (.int .i64 0) (.t 32)))⟩ (.cons ⟨none, (.s 34 (.mv (.t 4)))⟩ (.cons ⟨none, (.s 35 (.bin .shr (.t 34) (.k (.int .u64 2))))⟩ (.cons ⟨none, (.s 36 (.bin .mul (.k (.int .i64 5)) (.t 35)))⟩ (.cons ⟨none, (.s 37 (.bin .add (.t 33) (.t 36)))⟩ (.cons ⟨none, (.s 38 (.ia 17 1 (.t 1) (.k (.int .i64 0))))⟩ (.cons ⟨none, (.w none (.st (.t 38) (.t 37)))⟩ .nil)))))))))))))) (.reg [] (.cons ⟨none, (.s 8 (.mv (.t 3)))⟩ (.cons ⟨none, (.s 9 (.bin .add (.t 8) (.k (.int .i64 1))))⟩ (.cons ⟨none, (.s 3 (.mv (.t 9)))⟩ .nil))))))))) (.seq (.reg [] (.cons ⟨none, (.r 39 (.lda 17 (.t 1)))⟩ (.cons ⟨none, (.w none (.sta 17 (.t 2) (.t 39)))⟩ .nil))) .ret))), [(.cell true 17 (.bool false) 2)]⟩
theorem low_portcullisref1_carried : lowF Try.prog Try.f56 = some ir_portcullisref1_carried.strip := by kernel_rfl
theorem ok_portcullisref1_carried {fu : Nat} {h_ : List Int} {l9001 : List Int} (h : fn_portcullisref1_carried fu h_ = some l9001) :
  EV.Fn Try.prog 56 [.g (flat [.i .i64 h_])] [] [] (fun v u nw => v = .g (flat [.i .i64 l9001]) ∧ u = [] ∧ nw = [] ∧ (l9001.length = 17)) := by
 have key : EV.Fn Try.prog 56 [.g (flat [.i .i64 h_])] [] [] (fun v u nw => v = .g (flat [.i .i64 l9001]) ∧ u = [] ∧ nw = [] ∧ (l9001.length = 17)) := by
  unfold fn_portcullisref1_carried at h
  refine d_fn (i := ir_portcullisref1_carried) (fn := Try.f56) (sl0 := [(0, .g (flat [.i .i64 h_]))]) (hp0 := []) (by kernel_rfl) low_portcullisref1_carried mo rfl rfl rfl fun F z0 => ?_
  dsimp only [ir_portcullisref1_carried]
  refine gd_e h fun Xh_h_ h => ?_
  refine wpC_seq ?_
  refine d_reg rfl ?_
  refine d_box rfl (fun _ => trivial) rfl fun kb1 kz2 => ?_
  refine d_alo (g := [.i .i64 (List.replicate 17 0)]) (zeros_flat _ _ _) (fun _ => trivial) fun kb3 kz4 => ?_
  refine wpI_nil ?_
  refine seqK_n ?_
  refine wpC_seq ?_
  refine wpC_seq ?_
  refine d_reg rfl ?_
  refine wpI_s rfl trivial ?_
  refine wpI_nil ?_
  refine seqK_n ?_
  refine wpC_block ?_
  refine bind_e h fun o12 h hko12 => ?_
  refine d_loop (fun (z : List Int × Int × Nat) => match z with | (l5, x7, kz8) => (l5, x7)) (fun (z : List Int × Int × Nat) => (match z with | (l5, x7, kz8) => ⟨[(1, .c (.p 100 kb1 0)), (2, .c (.p 101 kb3 0)), (3, ib .i64 x7)], [⟨100, kb1, 90, false, (0, 0), (.v (.int .i64 0)), flat [.i .i64 l5]⟩, ⟨101, kb3, 90, false, (0, 0), (.v (.int .i64 0)), flat [.i .i64 (List.replicate 17 0)]⟩], 102, kz8⟩ : St)) (fun (z : List Int × Int × Nat) => match z with | (l5, x7, kz8) => (l5.length = 17)) (h_, 0, kz4) [100, 101] h Xh_h_ (leS2_c rfl rfl (leS2_c rfl rfl (leS2_c rfl rfl leS2_n))) (leH2_c rfl rfl rfl rfl rfl rfl (leH2_c rfl rfl rfl rfl rfl rfl leH2_n)) rfl rfl ?_
  rintro rec ⟨l5, x7, kz8⟩ h6 h
  show wpC _ _ _ _ _ (St.mk _ _ _ _)
  unfold fn_portcullisref1_carried_l2 at h; try dsimp only at h
  refine wpC_seq ?_
  refine wpC_seq ?_
  refine d_reg rfl ?_
  refine wpI_s rfl trivial ?_
  refine d_b rfl trivial h fun t13 h => ?_
  refine wpI_nil ?_
  refine seqK_n ?_
  refine d_cond rfl h (fun h => ?_) (fun h => ?_)
  ·refine wpC_skip ?_
   refine seqK_n ?_
   refine wpC_seq ?_
   refine wpC_block ?_
   refine wpC_seq ?_
   refine d_reg rfl ?_
   refine wpI_s rfl trivial ?_
   refine wpI_nil ?_
   refine seqK_n ?_
   refine wpC_seq ?_
   refine wpC_seq ?_
   refine d_reg rfl ?_
   refine wpI_s rfl trivial ?_
   refine wpI_nil ?_
   refine seqK_n ?_
   refine wpC_block ?_
   refine bind_e h fun o23 h hko23 => ?_
   refine d_loop (fun (z : List Int × Int × Int × Nat) => match z with | (l14, x16, x17, kz18) => (l14, x16, x17)) (fun (z : List Int × Int × Int × Nat) => (match z with | (l14, x16, x17, kz18) => ⟨[(1, .c (.p 100 kb1 0)), (2, .c (.p 101 kb3 0)), (3, ib .i64 x7), (4, ib .i64 x16), (5, ib .i64 x17)], [⟨100, kb1, 90, false, (0, 0), (.v (.int .i64 0)), flat [.i .i64 l14]⟩, ⟨101, kb3, 90, false, (0, 0), (.v (.int .i64 0)), flat [.i .i64 (List.replicate 17 0)]⟩], 102, kz18⟩ : St)) (fun (z : List Int × Int × Int × Nat) => match z with | (l14, x16, x17, kz18) => (l14.length = 17)) (l5, 0, 0, kz8) [100, 101] h h6 (leS2_c rfl rfl (leS2_c rfl rfl (leS2_c rfl rfl (leS2_c rfl rfl (leS2_c rfl rfl leS2_n))))) (leH2_c rfl rfl rfl rfl rfl rfl (leH2_c rfl rfl rfl rfl rfl rfl leH2_n)) rfl rfl ?_
   rintro rec ⟨l14, x16, x17, kz18⟩ h15 h
   show wpC _ _ _ _ _ (St.mk _ _ _ _)
   unfold fn_portcullisref1_carried_l1 at h; try dsimp only at h
   refine wpC_seq ?_
   refine wpC_seq ?_
   refine d_reg rfl ?_
   refine wpI_s rfl trivial ?_
   refine d_b rfl trivial h fun t24 h => ?_
   refine wpI_nil ?_
   refine seqK_n ?_
   refine d_cond rfl h (fun h => ?_) (fun h => ?_)
   ·refine wpC_skip ?_
    refine seqK_n ?_
    refine wpC_seq ?_
    refine wpC_block ?_
    refine wpC_seq ?_
    refine d_reg rfl ?_
    refine wpI_s rfl trivial ?_
    refine wpI_s rfl trivial ?_
    refine gd_e h fun g25 h => ?_
    refine wpI_s rfl g25 ?_
    refine d_ld 0 (q := x17.toNat) rfl rfl rfl h (ar_offi (x17) rfl) fun x26 h => ?_
    refine d_n rfl trivial h fun x27 h => ?_
    refine wpI_s rfl trivial ?_
    refine wpI_nil ?_
    refine seqK_n ?_
    refine wpC_seq ?_
    refine d_reg rfl ?_
    refine wpI_s rfl trivial ?_
    refine wpI_s rfl trivial ?_
    refine d_n rfl trivial h fun x28 h => ?_
    refine gd_e h fun g29 h => ?_
    refine wpI_s rfl g29 ?_
    refine d_st 0 (q := x17.toNat) rfl rfl rfl rfl h (ar_offi (x17) rfl) (fun _ => rfl) (fun _ => rfl) (fun _ => trivial) fun l30 h31 h => ?_
    refine wpI_nil ?_
    refine seqK_n ?_
    refine d_reg rfl ?_
    refine wpI_s rfl trivial ?_
    refine d_n rfl (by decide) h fun x32 h => ?_
    refine wpI_s rfl trivial ?_
    refine wpI_nil ?_
    refine blockK_n ?_
    refine seqK_n ?_
    refine d_reg rfl ?_
    refine wpI_s rfl trivial ?_
    refine d_n rfl trivial h fun x33 h => ?_
    refine wpI_s rfl trivial ?_
    refine wpI_nil ?_
    refine lpK_n (l30, x32, x33, kz18) [100, 101] (h31.trans h15) h (leS2_c rfl rfl (leS2_c rfl rfl (leS2_c rfl rfl (leS2_c rfl rfl (leS2_c rfl rfl leS2_n))))) (leH2_c rfl rfl rfl rfl rfl rfl (leH2_c rfl rfl rfl rfl rfl rfl leH2_n)) rfl rfl
   ·refine wpC_exit ?_
    refine seqK_x ?_
    obtain rfl := Option.some.inj h
    have h := hko23; clear hko23; try dsimp only at h
    refine lpK_x ?_
    refine blockK_x ?_
    refine seqK_n ?_
    refine wpC_seq ?_
    refine d_reg rfl ?_
    refine wpI_s rfl trivial ?_
    refine wpI_s rfl (by decide) ?_
    refine d_ld 0 (q := 16) rfl rfl rfl h (ar_offi (16) rfl) fun x34 h => ?_
    refine d_n rfl trivial h fun x35 h => ?_
    refine wpI_s rfl trivial ?_
    refine wpI_nil ?_
    refine seqK_n ?_
    refine wpC_seq ?_
    refine d_reg rfl ?_
    refine wpI_s rfl trivial ?_
    refine d_n rfl trivial h fun x36 h => ?_
    refine wpI_s rfl (by decide) ?_
    refine d_st 0 (q := 16) rfl rfl rfl rfl h (ar_offi (16) rfl) (fun _ => rfl) (fun _ => rfl) (fun _ => trivial) fun l37 h38 h => ?_
    refine wpI_nil ?_
    refine seqK_n ?_
    refine d_reg rfl ?_
    refine wpI_s rfl (by decide) ?_
    refine d_ld 0 (q := 0) rfl rfl rfl h (ar_offi (0) rfl) fun x39 h => ?_
    refine wpI_s rfl trivial ?_
    refine d_n rfl (by decide) h fun x40 h => ?_
    refine d_n rfl trivial h fun x41 h => ?_
    refine d_n rfl trivial h fun x42 h => ?_
    refine wpI_s rfl (by decide) ?_
    refine d_st 0 (q := 0) rfl rfl rfl rfl h (ar_offi (0) rfl) (fun _ => rfl) (fun _ => rfl) (fun _ => trivial) fun l43 h44 h => ?_
    refine wpI_nil ?_
    refine blockK_n ?_
    refine seqK_n ?_
    refine d_reg rfl ?_
    refine wpI_s rfl trivial ?_
    refine d_n rfl trivial h fun x45 h => ?_
    refine wpI_s rfl trivial ?_
    refine wpI_nil ?_
    refine lpK_n (l43, x45, kz18) [100, 101] (h44.trans (h38.trans h15)) h (leS2_c rfl rfl (leS2_c rfl rfl (leS2_c rfl rfl leS2_n))) (leH2_c rfl rfl rfl rfl rfl rfl (leH2_c rfl rfl rfl rfl rfl rfl leH2_n)) rfl rfl
  ·refine wpC_exit ?_
   refine seqK_x ?_
   obtain rfl := Option.some.inj h
   have h := hko12; clear hko12; try dsimp only at h
   refine lpK_x ?_
   refine blockK_x ?_
   refine seqK_n ?_
   refine wpC_seq ?_
   refine d_reg rfl ?_
   refine d_lda 0 1 rfl rfl rfl rfl (by simp only [flen, h6]) ?_
   refine d_sta 0 rfl rfl rfl rfl rfl (by simp only [flen, h6]) (by simp only [flen, List.length_replicate]) rfl rfl trivial ?_
   refine wpI_nil ?_
   refine seqK_n ?_
   refine wpC_ret ?_
   obtain rfl := Option.some.inj h
   exact d_ret2 [] [] ⟨rfl, rfl, rfl, h6⟩ (rIs_a 0 1 rfl rfl rfl rfl (by simp only [flen, h6])) leH2_n leH2_n rfl
 exact key.cong rfl blkEq_n blkEq_n

def ir_portcullisref1_times : IFn := ⟨54, (.seq (.reg [] (.cons ⟨none, (.w (some 2) (.box 90 17 (.int .i64 0) (.t 0)))⟩ (.cons ⟨none, (.w (some 3) (.box 90 17 (.int .i64 0) (.t 1)))⟩ (.cons ⟨none, (.w (some 4) (.alo 90 (.int .i64 0) (List.replicate 17 (.int .i64 0))))⟩ .nil)))) (.seq (.reg [] (.cons ⟨none, (.w (some 5) (.alo 90 (.int .i64 0) (List.replicate 17 (.int .i64 0))))⟩ .nil)) (.seq (.seq (.reg [] (.cons ⟨none, (.s 6 (.mv (.k (.int .i64 0))))⟩ .nil)) (.block 0 (.loop (.seq (.seq (.reg [] (.cons ⟨none, (.s 10 (.mv (.t 6)))⟩ (.cons ⟨none, (.s 11 (.bin .lss (.t 10) (.k (.int .i64 17))))⟩ .nil))) (.cond (.t 11) .skip (.exit 0))) (.seq (.block 1 (.seq (.reg [] (.cons ⟨none, (.s 7 (.mv (.k (.int .i64 0))))⟩ .nil)) (.seq (.seq (.reg [] (.cons ⟨none, (.s 8 (.mv (.k (.int .i64 0))))⟩ .nil)) (.block 2 (.loop (.seq (.seq (.reg [] (.cons ⟨none, (.s 14 (.mv (.t 8)))⟩ (.cons ⟨none, (.s 15 (.mv (.t 6)))⟩ (.cons ⟨none, (.s 16 (.bin .leq (.t 14) (.t 15)))⟩ .nil)))) (.cond (.t 16) .skip (.exit 2))) (.seq (.block 3 (.reg [] (.cons ⟨none, (.s 19 (.mv (.t 7)))⟩ (.cons ⟨none, (.s 20 (.mv (.t 8)))⟩ (.cons ⟨none, (.s 21 (.ia 17 1 (.t 2) (.t 20)))⟩ (.cons ⟨none, (.r 22 (.ld (.int .i64 0) (.t 21)))⟩ (.cons ⟨none, (.s 23 (.mv (.t 6)))⟩ (.cons ⟨none, (.s 24 (.mv (.t 8)))⟩ (.cons ⟨none, (.s 25 (.bin .sub (.t 23) (.t 24)))⟩ (.cons ⟨none, (.s 26 (.ia 17 1 (.t 3) (.t 25)))⟩ (.cons ⟨none, (.r 27 (.ld (.int .i64 0) (.t 26)))⟩ (.cons ⟨none, (.s 28 (.bin .mul (.t 22) (.t 27)))⟩ (.cons ⟨none, (.s 29 (.bin .add (.t 19) (.t 28)))⟩ (.cons ⟨none, (.s 7 (.mv (.t 29)))⟩ .nil)))))))))))))) (.reg [] (.cons ⟨none, (.s 17 (.mv (.t 8)))⟩ (.cons ⟨none, (.s 18 (.bin .add (.t 17) (.k (.int .i64 1))))⟩ (.cons ⟨none, (.s 8 (.mv (.t 18)))⟩ .nil))))))))) (.seq (.seq (.reg [] (.cons ⟨none, (.s 30 (.mv (.t 6)))⟩ (.cons ⟨none, (.s 31 (.bin .add (.t 30) (.k (.int .i64 1))))⟩ (.cons ⟨none, (.s 9 (.mv (.t 31)))⟩ .nil)))) (.block 4 (.loop (.seq (.seq (.reg [] (.cons ⟨none, (.s 32 (.mv (.t 9)))⟩ (.cons ⟨none, (.s 33 (.bin .lss (.t 32) (.k (.int .i64 17))))⟩ .nil))) (.cond (.t 33) .skip (.exit 4))) (.seq (.block 5 (.reg [] (.cons ⟨none, (.s 36 (.mv (.t 7)))⟩ (.cons ⟨none, (.s 37 (.mv (.t 9)))⟩ (.cons ⟨none, (.s 38 (.ia 17 1 (.t 2) (.t 37)))⟩ (.cons ⟨none, (.r 39 (.ld (.int .i64 0) (.t 38)))⟩ (.cons ⟨none, (.s 40 (.bin .mul (.k (.int .i64 320)) (.t 39)))⟩ (.cons ⟨none, (.s 41 (.mv (.t 6)))⟩ (.cons ⟨none, (.s 42 (.bin .add (.t 41) (.k (.int .i64 17))))⟩ (.cons ⟨none, (.s 43 (.mv (.t 9)))⟩ (.cons ⟨none, (.s 44 (.bin .sub (.t 42) (.t 43)))⟩ (.cons ⟨none, (.s 45 (.ia 17 1 (.t 3) (.t 44)))⟩ (.cons ⟨none, (.r 46 (.ld (.int .i64 0) (.t 45)))⟩ (.cons ⟨none, (.s 47 (.bin .mul (.t 40) (.t 46)))⟩ (.cons ⟨none, (.s 48 (.bin .add (.t 36) (.t 47)))⟩ (.cons ⟨none, (.s 7 (.mv (.t 48)))⟩ .nil)))))))))))))))) (.reg [] (.cons ⟨none, (.s 34 (.mv (.t 9)))⟩ (.cons ⟨none, (.s 35 (.bin .add (.t 34) (.k (.int .i64 1))))⟩ (.cons ⟨none, (.s 9 (.mv (.t 35)))⟩ .nil))))))))) (.reg [] (.cons ⟨none, (.s 49 (.mv (.t 6)))⟩ (.cons ⟨none, (.s 50 (.mv (.t 7)))⟩ (.cons ⟨none, (.s 51 (.ia 17 1 (.t 5) (.t 49)))⟩ (.cons ⟨none, (.w none (.st (.t 51) (.t 50)))⟩ .nil))))))))) (.reg [] (.cons ⟨none, (.s 12 (.mv (.t 6)))⟩ (.cons ⟨none, (.s 13 (.bin .add (.t 12) (.k (.int .i64 1))))⟩ (.cons ⟨none, (.s 6 (.mv (.t 13)))⟩ .nil))))))))) (.seq (.reg [] (.cons ⟨none, (.r 52 (.lda 17 (.t 5)))⟩ (.cons ⟨none, (.call (some 53) 56 [(.t 52)])⟩ (.cons ⟨none, (.w none (.sta 17 (.t 4) (.t 53)))⟩ .nil)))) .ret)))), [(.cell true 17 (.bool false) 4)]⟩
theorem low_portcullisref1_times : lowF Try.prog Try.f49 = some ir_portcullisref1_times.strip := by kernel_rfl
theorem ok_portcullisref1_times {fu : Nat} {h_ : List Int} {r_ : List Int} {l9001 : List Int} (h : fn_portcullisref1_times fu h_ r_ = some l9001) :
  EV.Fn Try.prog 49 [.g (flat [.i .i64 h_]), .g (flat [.i .i64 r_])] [] [] (fun v u nw => v = .g (flat [.i .i64 l9001]) ∧ u = [] ∧ nw = [] ∧ (l9001.length = 17)) := by
 have key : EV.Fn Try.prog 49 [.g (flat [.i .i64 h_]), .g (flat [.i .i64 r_])] [] [] (fun v u nw => v = .g (flat [.i .i64 l9001]) ∧ u = [] ∧ nw = [] ∧ (l9001.length = 17)) := by
  unfold fn_portcullisref1_times at h
  refine d_fn (i := ir_portcullisref1_times) (fn := Try.f49) (sl0 := [(0, .g (flat [.i .i64 h_])), (1, .g (flat [.i .i64 r_]))]) (hp0 := []) (by kernel_rfl) low_portcullisref1_times mo rfl rfl rfl fun F z0 => ?_
  dsimp only [ir_portcullisref1_times]
  refine gd_e h fun Xh_h_ h => ?_
  refine gd_e h fun Xh_r_ h => ?_
  refine wpC_seq ?_
  refine d_reg rfl ?_
  refine d_box rfl (fun _ => trivial) rfl fun kb1 kz2 => ?_
  refine d_box rfl (fun _ => trivial) rfl fun kb3 kz4 => ?_
  refine d_alo (g := [.i .i64 (List.replicate 17 0)]) (zeros_flat _ _ _) (fun _ => trivial) fun kb5 kz6 => ?_
  refine wpI_nil ?_
  refine seqK_n ?_
  refine wpC_seq ?_
  refine d_reg rfl ?_
  refine d_alo (g := [.i .i64 (List.replicate 17 0)]) (zeros_flat _ _ _) (fun _ => trivial) fun kb7 kz8 => ?_
  refine wpI_nil ?_
  refine seqK_n ?_
  refine wpC_seq ?_
  refine wpC_seq ?_
  refine d_reg rfl ?_
  refine wpI_s rfl trivial ?_
  refine wpI_nil ?_
  refine seqK_n ?_
  refine wpC_block ?_
  refine bind_e h fun o16 h hko16 => ?_
  refine d_loop (fun (z : List Int × Int × Nat) => match z with | (l9, x11, kz12) => (l9, x11)) (fun (z : List Int × Int × Nat) => (match z with | (l9, x11, kz12) => ⟨[(2, .c (.p 100 kb1 0)), (3, .c (.p 101 kb3 0)), (4, .c (.p 102 kb5 0)), (5, .c (.p 103 kb7 0)), (6, ib .i64 x11)], [⟨100, kb1, 90, false, (0, 0), (.v (.int .i64 0)), flat [.i .i64 h_]⟩, ⟨101, kb3, 90, false, (0, 0), (.v (.int .i64 0)), flat [.i .i64 r_]⟩, ⟨102, kb5, 90, false, (0, 0), (.v (.int .i64 0)), flat [.i .i64 (List.replicate 17 0)]⟩, ⟨103, kb7, 90, false, (0, 0), (.v (.int .i64 0)), flat [.i .i64 l9]⟩], 104, kz12⟩ : St)) (fun (z : List Int × Int × Nat) => match z with | (l9, x11, kz12) => (l9.length = 17)) ((List.replicate 17 0), 0, kz8) [100, 101, 102, 103] h List.length_replicate (leS2_c rfl rfl (leS2_c rfl rfl (leS2_c rfl rfl (leS2_c rfl rfl (leS2_c rfl rfl leS2_n))))) (leH2_c rfl rfl rfl rfl rfl rfl (leH2_c rfl rfl rfl rfl rfl rfl (leH2_c rfl rfl rfl rfl rfl rfl (leH2_c rfl rfl rfl rfl rfl rfl leH2_n)))) rfl rfl ?_
  rintro rec ⟨l9, x11, kz12⟩ h10 h
  show wpC _ _ _ _ _ (St.mk _ _ _ _)
  unfold fn_portcullisref1_times_l3 at h; try dsimp only at h
  refine wpC_seq ?_
  refine wpC_seq ?_
  refine d_reg rfl ?_
  refine wpI_s rfl trivial ?_
  refine d_b rfl trivial h fun t17 h => ?_
  refine wpI_nil ?_
  refine seqK_n ?_
  refine d_cond rfl h (fun h => ?_) (fun h => ?_)
  ·refine wpC_skip ?_
   refine seqK_n ?_
   refine wpC_seq ?_
   refine wpC_block ?_
   refine wpC_seq ?_
   refine d_reg rfl ?_
   refine wpI_s rfl trivial ?_
   refine wpI_nil ?_
   refine seqK_n ?_
   refine wpC_seq ?_
   refine wpC_seq ?_
   refine d_reg rfl ?_
   refine wpI_s rfl trivial ?_
   refine wpI_nil ?_
   refine seqK_n ?_
   refine wpC_block ?_
   refine bind_e h fun o23 h hko23 => ?_
   refine d_loop (fun (z : Int × Int × Nat) => match z with | (x18, x19, kz20) => (x18, x19)) (fun (z : Int × Int × Nat) => (match z with | (x18, x19, kz20) => ⟨[(2, .c (.p 100 kb1 0)), (3, .c (.p 101 kb3 0)), (4, .c (.p 102 kb5 0)), (5, .c (.p 103 kb7 0)), (6, ib .i64 x11), (7, ib .i64 x18), (8, ib .i64 x19)], [⟨100, kb1, 90, false, (0, 0), (.v (.int .i64 0)), flat [.i .i64 h_]⟩, ⟨101, kb3, 90, false, (0, 0), (.v (.int .i64 0)), flat [.i .i64 r_]⟩, ⟨102, kb5, 90, false, (0, 0), (.v (.int .i64 0)), flat [.i .i64 (List.replicate 17 0)]⟩, ⟨103, kb7, 90, false, (0, 0), (.v (.int .i64 0)), flat [.i .i64 l9]⟩], 104, kz20⟩ : St)) (fun (z : Int × Int × Nat) => match z with | (x18, x19, kz20) => True) (0, 0, kz12) [100, 101, 102, 103] h trivial (leS2_c rfl rfl (leS2_c rfl rfl (leS2_c rfl rfl (leS2_c rfl rfl (leS2_c rfl rfl (leS2_c rfl rfl (leS2_c rfl rfl leS2_n))))))) (leH2_c rfl rfl rfl rfl rfl rfl (leH2_c rfl rfl rfl rfl rfl rfl (leH2_c rfl rfl rfl rfl rfl rfl (leH2_c rfl rfl rfl rfl rfl rfl leH2_n)))) rfl rfl ?_
   rintro rec ⟨x18, x19, kz20⟩ _ h
   show wpC _ _ _ _ _ (St.mk _ _ _ _)
   unfold fn_portcullisref1_times_l1 at h; try dsimp only at h
   refine wpC_seq ?_
   refine wpC_seq ?_
   refine d_reg rfl ?_
   refine wpI_s rfl trivial ?_
   refine wpI_s rfl trivial ?_
   refine d_b rfl trivial h fun t24 h => ?_
   refine wpI_nil ?_
   refine seqK_n ?_
   refine d_cond rfl h (fun h => ?_) (fun h => ?_)
   ·refine wpC_skip ?_
    refine seqK_n ?_
    refine wpC_seq ?_
    refine wpC_block ?_
    refine d_reg rfl ?_
    refine wpI_s rfl trivial ?_
    refine wpI_s rfl trivial ?_
    refine gd_e h fun g25 h => ?_
    refine wpI_s rfl g25 ?_
    refine d_ld 0 (q := x19.toNat) rfl rfl rfl h (ar_offi (x19) rfl) fun x26 h => ?_
    refine wpI_s rfl trivial ?_
    refine wpI_s rfl trivial ?_
    refine d_n rfl trivial h fun x27 h => ?_
    refine gd_e h fun g28 h => ?_
    refine wpI_s rfl g28 ?_
    refine d_ld 0 (q := x27.toNat) rfl rfl rfl h (ar_offi (x27) rfl) fun x29 h => ?_
    refine d_n rfl trivial h fun x30 h => ?_
    refine d_n rfl trivial h fun x31 h => ?_
    refine wpI_s rfl trivial ?_
    refine wpI_nil ?_
    refine blockK_n ?_
    refine seqK_n ?_
    refine d_reg rfl ?_
    refine wpI_s rfl trivial ?_
    refine d_n rfl trivial h fun x32 h => ?_
    refine wpI_s rfl trivial ?_
    refine wpI_nil ?_
    refine lpK_n (x31, x32, kz20) [100, 101, 102, 103] trivial h (leS2_c rfl rfl (leS2_c rfl rfl (leS2_c rfl rfl (leS2_c rfl rfl (leS2_c rfl rfl (leS2_c rfl rfl (leS2_c rfl rfl leS2_n))))))) (leH2_c rfl rfl rfl rfl rfl rfl (leH2_c rfl rfl rfl rfl rfl rfl (leH2_c rfl rfl rfl rfl rfl rfl (leH2_c rfl rfl rfl rfl rfl rfl leH2_n)))) rfl rfl
   ·refine wpC_exit ?_
    refine seqK_x ?_
    obtain rfl := Option.some.inj h
    have h := hko23; clear hko23; try dsimp only at h
    refine lpK_x ?_
    refine blockK_x ?_
    refine seqK_n ?_
    refine wpC_seq ?_
    refine wpC_seq ?_
    refine d_reg rfl ?_
    refine wpI_s rfl trivial ?_
    refine d_n rfl trivial h fun x33 h => ?_
    refine wpI_s rfl trivial ?_
    refine wpI_nil ?_
    refine seqK_n ?_
    refine wpC_block ?_
    refine bind_e h fun o39 h hko39 => ?_
    refine d_loop (fun (z : Int × Int × Nat) => match z with | (x34, x35, kz36) => (x34, x35)) (fun (z : Int × Int × Nat) => (match z with | (x34, x35, kz36) => ⟨[(2, .c (.p 100 kb1 0)), (3, .c (.p 101 kb3 0)), (4, .c (.p 102 kb5 0)), (5, .c (.p 103 kb7 0)), (6, ib .i64 x11), (7, ib .i64 x34), (9, ib .i64 x35)], [⟨100, kb1, 90, false, (0, 0), (.v (.int .i64 0)), flat [.i .i64 h_]⟩, ⟨101, kb3, 90, false, (0, 0), (.v (.int .i64 0)), flat [.i .i64 r_]⟩, ⟨102, kb5, 90, false, (0, 0), (.v (.int .i64 0)), flat [.i .i64 (List.replicate 17 0)]⟩, ⟨103, kb7, 90, false, (0, 0), (.v (.int .i64 0)), flat [.i .i64 l9]⟩], 104, kz36⟩ : St)) (fun (z : Int × Int × Nat) => match z with | (x34, x35, kz36) => True) (x18, x33, kz20) [100, 101, 102, 103] h trivial (leS2_c rfl rfl (leS2_c rfl rfl (leS2_c rfl rfl (leS2_c rfl rfl (leS2_c rfl rfl (leS2_c rfl rfl (leS2_c rfl rfl leS2_n))))))) (leH2_c rfl rfl rfl rfl rfl rfl (leH2_c rfl rfl rfl rfl rfl rfl (leH2_c rfl rfl rfl rfl rfl rfl (leH2_c rfl rfl rfl rfl rfl rfl leH2_n)))) rfl rfl ?_
    rintro rec ⟨x34, x35, kz36⟩ _ h
    show wpC _ _ _ _ _ (St.mk _ _ _ _)
    unfold fn_portcullisref1_times_l2 at h; try dsimp only at h
    refine wpC_seq ?_
    refine wpC_seq ?_
    refine d_reg rfl ?_
    refine wpI_s rfl trivial ?_
    refine d_b rfl trivial h fun t40 h => ?_
    refine wpI_nil ?_
    refine seqK_n ?_
    refine d_cond rfl h (fun h => ?_) (fun h => ?_)
    ·refine wpC_skip ?_
     refine seqK_n ?_
     refine wpC_seq ?_
     refine wpC_block ?_
     refine d_reg rfl ?_
     refine wpI_s rfl trivial ?_
     refine wpI_s rfl trivial ?_
     refine gd_e h fun g41 h => ?_
     refine wpI_s rfl g41 ?_
     refine d_ld 0 (q := x35.toNat) rfl rfl rfl h (ar_offi (x35) rfl) fun x42 h => ?_
     refine d_n rfl trivial h fun x43 h => ?_
     refine wpI_s rfl trivial ?_
     refine d_n rfl trivial h fun x44 h => ?_
     refine wpI_s rfl trivial ?_
     refine d_n rfl trivial h fun x45 h => ?_
     refine gd_e h fun g46 h => ?_
     refine wpI_s rfl g46 ?_
     refine d_ld 0 (q := x45.toNat) rfl rfl rfl h (ar_offi (x45) rfl) fun x47 h => ?_
     refine d_n rfl trivial h fun x48 h => ?_
     refine d_n rfl trivial h fun x49 h => ?_
     refine wpI_s rfl trivial ?_
     refine wpI_nil ?_
     refine blockK_n ?_
     refine seqK_n ?_
     refine d_reg rfl ?_
     refine wpI_s rfl trivial ?_
     refine d_n rfl trivial h fun x50 h => ?_
     refine wpI_s rfl trivial ?_
     refine wpI_nil ?_
     refine lpK_n (x49, x50, kz36) [100, 101, 102, 103] trivial h (leS2_c rfl rfl (leS2_c rfl rfl (leS2_c rfl rfl (leS2_c rfl rfl (leS2_c rfl rfl (leS2_c rfl rfl (leS2_c rfl rfl leS2_n))))))) (leH2_c rfl rfl rfl rfl rfl rfl (leH2_c rfl rfl rfl rfl rfl rfl (leH2_c rfl rfl rfl rfl rfl rfl (leH2_c rfl rfl rfl rfl rfl rfl leH2_n)))) rfl rfl
    ·refine wpC_exit ?_
     refine seqK_x ?_
     obtain rfl := Option.some.inj h
     have h := hko39; clear hko39; try dsimp only at h
     refine lpK_x ?_
     refine blockK_x ?_
     refine seqK_n ?_
     refine d_reg rfl ?_
     refine wpI_s rfl trivial ?_
     refine wpI_s rfl trivial ?_
     refine gd_e h fun g51 h => ?_
     refine wpI_s rfl g51 ?_
     refine d_st 0 (q := x11.toNat) rfl rfl rfl rfl h (ar_offi (x11) rfl) (fun _ => rfl) (fun _ => rfl) (fun _ => trivial) fun l52 h53 h => ?_
     refine wpI_nil ?_
     refine blockK_n ?_
     refine seqK_n ?_
     refine d_reg rfl ?_
     refine wpI_s rfl trivial ?_
     refine d_n rfl trivial h fun x54 h => ?_
     refine wpI_s rfl trivial ?_
     refine wpI_nil ?_
     refine lpK_n (l52, x54, kz36) [100, 101, 102, 103] (h53.trans h10) h (leS2_c rfl rfl (leS2_c rfl rfl (leS2_c rfl rfl (leS2_c rfl rfl (leS2_c rfl rfl leS2_n))))) (leH2_c rfl rfl rfl rfl rfl rfl (leH2_c rfl rfl rfl rfl rfl rfl (leH2_c rfl rfl rfl rfl rfl rfl (leH2_c rfl rfl rfl rfl rfl rfl leH2_n)))) rfl rfl
  ·refine wpC_exit ?_
   refine seqK_x ?_
   obtain rfl := Option.some.inj h
   have h := hko16; clear hko16; try dsimp only at h
   refine lpK_x ?_
   refine blockK_x ?_
   refine seqK_n ?_
   refine wpC_seq ?_
   refine d_reg rfl ?_
   refine d_lda 0 1 rfl rfl rfl rfl (by simp only [flen, h10]) ?_
   refine bind_e h fun l57 ho56 h => ?_
   refine d_call (ok_portcullisref1_carried     (h := ho56)) rfl rfl haveRw_n haveRo_n (own_of rfl) ?_
   rintro _ _ _ kz59 ⟨rfl, rfl, rfl, h58⟩
   refine ⟨_, rfl, trivial, ?_⟩
   refine gd_e h fun g60 h => ?_
   refine d_sta 0 rfl rfl rfl rfl rfl (by simp only [flen, g60]) (by simp only [flen, List.length_replicate]) rfl rfl trivial ?_
   refine wpI_nil ?_
   refine seqK_n ?_
   refine wpC_ret ?_
   obtain rfl := Option.some.inj h
   exact d_ret2 [] [] ⟨rfl, rfl, rfl, g60⟩ (rIs_a 0 1 rfl rfl rfl rfl (by simp only [flen, g60])) leH2_n leH2_n rfl
 exact key.cong rfl blkEq_n blkEq_n

def ir_portcullisref1_whole : IFn := ⟨33, (.seq (.reg [] (.cons ⟨none, (.w (some 1) (.box 90 17 (.int .i64 0) (.t 0)))⟩ (.cons ⟨none, (.w (some 2) (.alo 90 (.int .i64 0) (List.replicate 17 (.int .i64 0))))⟩ .nil))) (.seq (.reg [] (.cons ⟨none, (.r 6 (.lda 17 (.t 1)))⟩ (.cons ⟨none, (.call (some 7) 56 [(.t 6)])⟩ (.cons ⟨none, (.w none (.sta 17 (.t 1) (.t 7)))⟩ .nil)))) (.seq (.reg [] (.cons ⟨none, (.r 8 (.lda 17 (.t 1)))⟩ (.cons ⟨none, (.w (some 3) (.alo 90 (.int .i64 0) (List.replicate 17 (.int .i64 0))))⟩ (.cons ⟨none, (.w none (.sta 17 (.t 3) (.t 8)))⟩ .nil)))) (.seq (.reg [] (.cons ⟨none, (.s 4 (.mv (.k (.int .i64 5))))⟩ .nil)) (.seq (.seq (.reg [] (.cons ⟨none, (.s 5 (.mv (.k (.int .i64 0))))⟩ .nil)) (.block 0 (.loop (.seq (.seq (.reg [] (.cons ⟨none, (.s 9 (.mv (.t 5)))⟩ (.cons ⟨none, (.s 10 (.bin .lss (.t 9) (.k (.int .i64 17))))⟩ .nil))) (.cond (.t 10) .skip (.exit 0))) (.seq (.block 1 (.seq (.reg [] (.cons ⟨none, (.s 13 (.mv (.t 4)))⟩ (.cons ⟨none, (.s 14 (.mv (.t 5)))⟩ (.cons ⟨none, (.s 15 (.ia 17 1 (.t 3) (.t 14)))⟩ (.cons ⟨none, (.r 16 (.ld (.int .i64 0) (.t 15)))⟩ (.cons ⟨none, (.s 17 (.bin .add (.t 13) (.t 16)))⟩ (.cons ⟨none, (.s 4 (.mv (.t 17)))⟩ .nil))))))) (.seq (.reg [] (.cons ⟨none, (.s 18 (.mv (.t 5)))⟩ (.cons ⟨none, (.s 19 (.mv (.t 4)))⟩ (.cons ⟨none, (.s 20 (.bin .and (.t 19) (.k (.int .i64 255))))⟩ (.cons ⟨none, (.s 21 (.ia 17 1 (.t 3) (.t 18)))⟩ (.cons ⟨none, (.w none (.st (.t 21) (.t 20)))⟩ .nil)))))) (.reg [] (.cons ⟨none, (.s 22 (.mv (.t 4)))⟩ (.cons ⟨none, (.s 23 (.bin .shr (.t 22) (.k (.int .u64 8))))⟩ (.cons ⟨none, (.s 4 (.mv (.t 23)))⟩ .nil))))))) (.reg [] (.cons ⟨none, (.s 11 (.mv (.t 5)))⟩ (.cons ⟨none, (.s 12 (.bin .add (.t 11) (.k (.int .i64 1))))⟩ (.cons ⟨none, (.s 5 (.mv (.t 12)))⟩ .nil))))))))) (.seq (.seq (.reg [] (.cons ⟨none, (.s 24 (.ia 17 1 (.t 3) (.k (.int .i64 16))))⟩ (.cons ⟨none, (.r 25 (.ld (.int .i64 0) (.t 24)))⟩ (.cons ⟨none, (.s 26 (.bin .geq (.t 25) (.k (.int .i64 4))))⟩ .nil)))) (.cond (.t 26) (.seq (.reg [] (.cons ⟨none, (.s 27 (.ia 17 1 (.t 3) (.k (.int .i64 16))))⟩ (.cons ⟨none, (.r 28 (.ld (.int .i64 0) (.t 27)))⟩ (.cons ⟨none, (.s 29 (.bin .sub (.t 28) (.k (.int .i64 4))))⟩ (.cons ⟨none, (.s 30 (.ia 17 1 (.t 3) (.k (.int .i64 16))))⟩ (.cons ⟨none, (.w none (.st (.t 30) (.t 29)))⟩ .nil)))))) (.seq (.reg [] (.cons ⟨none, (.r 31 (.lda 17 (.t 3)))⟩ (.cons ⟨none, (.w none (.sta 17 (.t 2) (.t 31)))⟩ .nil))) .ret)) .skip)) (.seq (.reg [] (.cons ⟨none, (.r 32 (.lda 17 (.t 1)))⟩ (.cons ⟨none, (.w none (.sta 17 (.t 2) (.t 32)))⟩ .nil))) .ret))))))), [(.cell true 17 (.bool false) 2)]⟩
theorem low_portcullisref1_whole : lowF Try.prog Try.f50 = some ir_portcullisref1_whole.strip := by kernel_rfl
theorem ok_portcullisref1_whole {fu : Nat} {h_ : List Int} {l9001 : List Int} (h : fn_portcullisref1_whole fu h_ = some l9001) :
  EV.Fn Try.prog 50 [.g (flat [.i .i64 h_])] [] [] (fun v u nw => v = .g (flat [.i .i64 l9001]) ∧ u = [] ∧ nw = [] ∧ (l9001.length = 17)) := by
 have key : EV.Fn Try.prog 50 [.g (flat [.i .i64 h_])] [] [] (fun v u nw => v = .g (flat [.i .i64 l9001]) ∧ u = [] ∧ nw = [] ∧ (l9001.length = 17)) := by
  unfold fn_portcullisref1_whole at h
  refine d_fn (i := ir_portcullisref1_whole) (fn := Try.f50) (sl0 := [(0, .g (flat [.i .i64 h_]))]) (hp0 := []) (by kernel_rfl) low_portcullisref1_whole mo rfl rfl rfl fun F z0 => ?_
  dsimp only [ir_portcullisref1_whole]
  refine gd_e h fun Xh_h_ h => ?_
  refine wpC_seq ?_
  refine d_reg rfl ?_
  refine d_box rfl (fun _ => trivial) rfl fun kb1 kz2 => ?_
  refine d_alo (g := [.i .i64 (List.replicate 17 0)]) (zeros_flat _ _ _) (fun _ => trivial) fun kb3 kz4 => ?_
  refine wpI_nil ?_
  refine seqK_n ?_
  refine wpC_seq ?_
  refine d_reg rfl ?_
  refine d_lda 0 1 rfl rfl rfl rfl (by simp only [flen, Xh_h_]) ?_
  refine bind_e h fun l7 ho6 h => ?_
  refine d_call (ok_portcullisref1_carried     (h := ho6)) rfl rfl haveRw_n haveRo_n (own_of rfl) ?_
  rintro _ _ _ kz9 ⟨rfl, rfl, rfl, h8⟩
  refine ⟨_, rfl, trivial, ?_⟩
  refine gd_e h fun g10 h => ?_
  refine d_sta 0 rfl rfl rfl rfl rfl (by simp only [flen, g10]) (by simp only [flen, Xh_h_]) rfl rfl trivial ?_
  refine wpI_nil ?_
  refine seqK_n ?_
  refine wpC_seq ?_
  refine d_reg rfl ?_
  refine d_lda 0 1 rfl rfl rfl rfl (by simp only [flen, g10]) ?_
  refine d_alo (g := [.i .i64 (List.replicate 17 0)]) (zeros_flat _ _ _) (fun _ => trivial) fun kb11 kz12 => ?_
  refine d_sta 0 rfl rfl rfl rfl rfl (by simp only [flen, g10]) (by simp only [flen, List.length_replicate]) rfl rfl trivial ?_
  refine wpI_nil ?_
  refine seqK_n ?_
  refine wpC_seq ?_
  refine d_reg rfl ?_
  refine wpI_s rfl trivial ?_
  refine wpI_nil ?_
  refine seqK_n ?_
  refine wpC_seq ?_
  refine wpC_seq ?_
  refine d_reg rfl ?_
  refine wpI_s rfl trivial ?_
  refine wpI_nil ?_
  refine seqK_n ?_
  refine wpC_block ?_
  refine bind_e h fun o21 h hko21 => ?_
  refine d_loop (fun (z : List Int × Int × Int × Nat) => match z with | (l13, x15, x16, kz17) => (l13, x15, x16)) (fun (z : List Int × Int × Int × Nat) => (match z with | (l13, x15, x16, kz17) => ⟨[(1, .c (.p 100 kb1 0)), (2, .c (.p 101 kb3 0)), (3, .c (.p 102 kb11 0)), (4, ib .i64 x15), (5, ib .i64 x16)], [⟨100, kb1, 90, false, (0, 0), (.v (.int .i64 0)), flat [.i .i64 l7]⟩, ⟨101, kb3, 90, false, (0, 0), (.v (.int .i64 0)), flat [.i .i64 (List.replicate 17 0)]⟩, ⟨102, kb11, 90, false, (0, 0), (.v (.int .i64 0)), flat [.i .i64 l13]⟩], 103, kz17⟩ : St)) (fun (z : List Int × Int × Int × Nat) => match z with | (l13, x15, x16, kz17) => (l13.length = 17)) (l7, 5, 0, kz12) [100, 101, 102] h g10 (leS2_c rfl rfl (leS2_c rfl rfl (leS2_c rfl rfl (leS2_c rfl rfl (leS2_c rfl rfl leS2_n))))) (leH2_c rfl rfl rfl rfl rfl rfl (leH2_c rfl rfl rfl rfl rfl rfl (leH2_c rfl rfl rfl rfl rfl rfl leH2_n))) rfl rfl ?_
  rintro rec ⟨l13, x15, x16, kz17⟩ h14 h
  show wpC _ _ _ _ _ (St.mk _ _ _ _)
  unfold fn_portcullisref1_whole_l1 at h; try dsimp only at h
  refine wpC_seq ?_
  refine wpC_seq ?_
  refine d_reg rfl ?_
  refine wpI_s rfl trivial ?_
  refine d_b rfl trivial h fun t22 h => ?_
  refine wpI_nil ?_
  refine seqK_n ?_
  refine d_cond rfl h (fun h => ?_) (fun h => ?_)
  ·refine wpC_skip ?_
   refine seqK_n ?_
   refine wpC_seq ?_
   refine wpC_block ?_
   refine wpC_seq ?_
   refine d_reg rfl ?_
   refine wpI_s rfl trivial ?_
   refine wpI_s rfl trivial ?_
   refine gd_e h fun g23 h => ?_
   refine wpI_s rfl g23 ?_
   refine d_ld 0 (q := x16.toNat) rfl rfl rfl h (ar_offi (x16) rfl) fun x24 h => ?_
   refine d_n rfl trivial h fun x25 h => ?_
   refine wpI_s rfl trivial ?_
   refine wpI_nil ?_
   refine seqK_n ?_
   refine wpC_seq ?_
   refine d_reg rfl ?_
   refine wpI_s rfl trivial ?_
   refine wpI_s rfl trivial ?_
   refine d_n rfl trivial h fun x26 h => ?_
   refine gd_e h fun g27 h => ?_
   refine wpI_s rfl g27 ?_
   refine d_st 0 (q := x16.toNat) rfl rfl rfl rfl h (ar_offi (x16) rfl) (fun _ => rfl) (fun _ => rfl) (fun _ => trivial) fun l28 h29 h => ?_
   refine wpI_nil ?_
   refine seqK_n ?_
   refine d_reg rfl ?_
   refine wpI_s rfl trivial ?_
   refine d_n rfl (by decide) h fun x30 h => ?_
   refine wpI_s rfl trivial ?_
   refine wpI_nil ?_
   refine blockK_n ?_
   refine seqK_n ?_
   refine d_reg rfl ?_
   refine wpI_s rfl trivial ?_
   refine d_n rfl trivial h fun x31 h => ?_
   refine wpI_s rfl trivial ?_
   refine wpI_nil ?_
   refine lpK_n (l28, x30, x31, kz17) [100, 101, 102] (h29.trans h14) h (leS2_c rfl rfl (leS2_c rfl rfl (leS2_c rfl rfl (leS2_c rfl rfl (leS2_c rfl rfl leS2_n))))) (leH2_c rfl rfl rfl rfl rfl rfl (leH2_c rfl rfl rfl rfl rfl rfl (leH2_c rfl rfl rfl rfl rfl rfl leH2_n))) rfl rfl
  ·refine wpC_exit ?_
   refine seqK_x ?_
   obtain rfl := Option.some.inj h
   have h := hko21; clear hko21; try dsimp only at h
   refine lpK_x ?_
   refine blockK_x ?_
   refine seqK_n ?_
   refine wpC_seq ?_
   refine wpC_seq ?_
   refine d_reg rfl ?_
   refine wpI_s rfl (by decide) ?_
   refine d_ld 0 (q := 16) rfl rfl rfl h (ar_offi (16) rfl) fun x32 h => ?_
   refine d_b rfl trivial h fun t33 h => ?_
   refine wpI_nil ?_
   refine seqK_n ?_
   refine d_cond rfl h (fun h => ?_) (fun h => ?_)
   ·refine wpC_seq ?_
    refine d_reg rfl ?_
    refine wpI_s rfl (by decide) ?_
    refine d_ld 0 (q := 16) rfl rfl rfl h (ar_offi (16) rfl) fun x34 h => ?_
    refine d_n rfl trivial h fun x35 h => ?_
    refine wpI_s rfl (by decide) ?_
    refine d_st 0 (q := 16) rfl rfl rfl rfl h (ar_offi (16) rfl) (fun _ => rfl) (fun _ => rfl) (fun _ => trivial) fun l36 h37 h => ?_
    refine wpI_nil ?_
    refine seqK_n ?_
    refine wpC_seq ?_
    refine d_reg rfl ?_
    refine d_lda 0 1 rfl rfl rfl rfl (by simp only [flen, (h37.trans h14)]) ?_
    refine d_sta 0 rfl rfl rfl rfl rfl (by simp only [flen, (h37.trans h14)]) (by simp only [flen, List.length_replicate]) rfl rfl trivial ?_
    refine wpI_nil ?_
    refine seqK_n ?_
    refine wpC_ret ?_
    refine seqK_r ?_
    obtain rfl := Option.some.inj h
    exact d_ret2 [] [] ⟨rfl, rfl, rfl, (h37.trans h14)⟩ (rIs_a 0 1 rfl rfl rfl rfl (by simp only [flen, (h37.trans h14)])) leH2_n leH2_n rfl
   ·refine wpC_skip ?_
    refine seqK_n ?_
    refine wpC_seq ?_
    refine d_reg rfl ?_
    refine d_lda 0 1 rfl rfl rfl rfl (by simp only [flen, g10]) ?_
    refine d_sta 0 rfl rfl rfl rfl rfl (by simp only [flen, g10]) (by simp only [flen, List.length_replicate]) rfl rfl trivial ?_
    refine wpI_nil ?_
    refine seqK_n ?_
    refine wpC_ret ?_
    obtain rfl := Option.some.inj h
    exact d_ret2 [] [] ⟨rfl, rfl, rfl, g10⟩ (rIs_a 0 1 rfl rfl rfl rfl (by simp only [flen, g10])) leH2_n leH2_n rfl
 exact key.cong rfl blkEq_n blkEq_n

def ir_portcullisref1_Poly : IFn := ⟨117, (.seq (.reg [] (.cons ⟨none, (.w (some 2) (.box 23 32 (.int .u8 0) (.t 0)))⟩ (.cons ⟨none, (.w (some 4) (.alo 61 (.int .u8 0) (List.replicate 16 (.int .u8 0))))⟩ .nil))) (.seq (.reg [] (.cons ⟨none, (.w (some 5) (.alo 90 (.int .i64 0) (List.replicate 17 (.int .i64 0))))⟩ .nil)) (.seq (.reg [] (.cons ⟨none, (.w (some 6) (.alo 90 (.int .i64 0) (List.replicate 17 (.int .i64 0))))⟩ .nil)) (.seq (.seq (.reg [] (.cons ⟨none, (.s 7 (.mv (.k (.int .i64 0))))⟩ .nil)) (.block 0 (.loop (.seq (.seq (.reg [] (.cons ⟨none, (.s 18 (.mv (.t 7)))⟩ (.cons ⟨none, (.s 19 (.bin .lss (.t 18) (.k (.int .i64 16))))⟩ .nil))) (.cond (.t 19) .skip (.exit 0))) (.seq (.block 1 (.reg [] (.cons ⟨none, (.s 22 (.mv (.t 7)))⟩ (.cons ⟨none, (.s 23 (.mv (.t 7)))⟩ (.cons ⟨none, (.s 24 (.ia 32 1 (.t 2) (.t 23)))⟩ (.cons ⟨none, (.r 25 (.ld (.int .u8 0) (.t 24)))⟩ (.cons ⟨none, (.s 26 (.cv .i64 (.t 25)))⟩ (.cons ⟨none, (.s 27 (.ia 17 1 (.t 5) (.t 22)))⟩ (.cons ⟨none, (.w none (.st (.t 27) (.t 26)))⟩ .nil))))))))) (.reg [] (.cons ⟨none, (.s 20 (.mv (.t 7)))⟩ (.cons ⟨none, (.s 21 (.bin .add (.t 20) (.k (.int .i64 1))))⟩ (.cons ⟨none, (.s 7 (.mv (.t 21)))⟩ .nil))))))))) (.seq (.seq (.reg [] (.cons ⟨none, (.s 8 (.mv (.k (.int .i64 3))))⟩ .nil)) (.block 2 (.loop (.seq (.seq (.reg [] (.cons ⟨none, (.s 28 (.mv (.t 8)))⟩ (.cons ⟨none, (.s 29 (.bin .lss (.t 28) (.k (.int .i64 16))))⟩ .nil))) (.cond (.t 29) .skip (.exit 2))) (.seq (.block 3 (.reg [] (.cons ⟨none, (.s 32 (.mv (.t 8)))⟩ (.cons ⟨none, (.s 33 (.mv (.t 8)))⟩ (.cons ⟨none, (.s 34 (.ia 17 1 (.t 5) (.t 33)))⟩ (.cons ⟨none, (.r 35 (.ld (.int .i64 0) (.t 34)))⟩ (.cons ⟨none, (.s 36 (.bin .and (.t 35) (.k (.int .i64 15))))⟩ (.cons ⟨none, (.s 37 (.ia 17 1 (.t 5) (.t 32)))⟩ (.cons ⟨none, (.w none (.st (.t 37) (.t 36)))⟩ .nil))))))))) (.reg [] (.cons ⟨none, (.s 30 (.mv (.t 8)))⟩ (.cons ⟨none, (.s 31 (.bin .add (.t 30) (.k (.int .i64 4))))⟩ (.cons ⟨none, (.s 8 (.mv (.t 31)))⟩ .nil))))))))) (.seq (.seq (.reg [] (.cons ⟨none, (.s 9 (.mv (.k (.int .i64 4))))⟩ .nil)) (.block 4 (.loop (.seq (.seq (.reg [] (.cons ⟨none, (.s 38 (.mv (.t 9)))⟩ (.cons ⟨none, (.s 39 (.bin .lss (.t 38) (.k (.int .i64 16))))⟩ .nil))) (.cond (.t 39) .skip (.exit 4))) (.seq (.block 5 (.reg [] (.cons ⟨none, (.s 42 (.mv (.t 9)))⟩ (.cons ⟨none, (.s 43 (.mv (.t 9)))⟩ (.cons ⟨none, (.s 44 (.ia 17 1 (.t 5) (.t 43)))⟩ (.cons ⟨none, (.r 45 (.ld (.int .i64 0) (.t 44)))⟩ (.cons ⟨none, (.s 46 (.bin .and (.t 45) (.k (.int .i64 252))))⟩ (.cons ⟨none, (.s 47 (.ia 17 1 (.t 5) (.t 42)))⟩ (.cons ⟨none, (.w none (.st (.t 47) (.t 46)))⟩ .nil))))))))) (.reg [] (.cons ⟨none, (.s 40 (.mv (.t 9)))⟩ (.cons ⟨none, (.s 41 (.bin .add (.t 40) (.k (.int .i64 4))))⟩ (.cons ⟨none, (.s 9 (.mv (.t 41)))⟩ .nil))))))))) (.seq (.seq (.reg [] (.cons ⟨none, (.s 10 (.mv (.k (.int .i64 0))))⟩ .nil)) (.block 6 (.loop (.seq (.seq (.reg [] (.cons ⟨none, (.s 48 (.mv (.t 10)))⟩ (.cons ⟨none, (.s 49 (.mv (.t 1)))⟩ (.cons ⟨none, (.s 50 (.len (.t 49)))⟩ (.cons ⟨none, (.s 51 (.bin .lss (.t 48) (.t 50)))⟩ .nil))))) (.cond (.t 51) .skip (.exit 6))) (.seq (.block 7 (.seq (.reg [] (.cons ⟨none, (.w (some 11) (.alo 90 (.int .i64 0) (List.replicate 17 (.int .i64 0))))⟩ .nil)) (.seq (.reg [] (.cons ⟨none, (.s 54 (.mv (.t 1)))⟩ (.cons ⟨none, (.s 55 (.len (.t 54)))⟩ (.cons ⟨none, (.s 56 (.mv (.t 10)))⟩ (.cons ⟨none, (.s 57 (.bin .sub (.t 55) (.t 56)))⟩ (.cons ⟨none, (.s 12 (.mv (.t 57)))⟩ .nil)))))) (.seqJ (.seq (.reg [] (.cons ⟨none, (.s 58 (.mv (.t 12)))⟩ (.cons ⟨none, (.s 59 (.bin .gtr (.t 58) (.k (.int .i64 16))))⟩ .nil))) (.cond (.t 59) (.reg [] (.cons ⟨none, (.s 12 (.mv (.k (.int .i64 16))))⟩ .nil)) .skip)) (.seq (.seq (.reg [] (.cons ⟨none, (.s 13 (.mv (.k (.int .i64 0))))⟩ .nil)) (.block 8 (.loop (.seq (.seq (.reg [] (.cons ⟨none, (.s 60 (.mv (.t 13)))⟩ (.cons ⟨none, (.s 61 (.mv (.t 12)))⟩ (.cons ⟨none, (.s 62 (.bin .lss (.t 60) (.t 61)))⟩ .nil)))) (.cond (.t 62) .skip (.exit 8))) (.seq (.block 9 (.reg [] (.cons ⟨none, (.s 65 (.mv (.t 13)))⟩ (.cons ⟨none, (.s 66 (.mv (.t 1)))⟩ (.cons ⟨none, (.s 67 (.mv (.t 10)))⟩ (.cons ⟨none, (.s 68 (.mv (.t 13)))⟩ (.cons ⟨none, (.s 69 (.bin .add (.t 67) (.t 68)))⟩ (.cons ⟨none, (.s 70 (.is 1 (.t 66) (.t 69)))⟩ (.cons ⟨none, (.r 71 (.ld (.int .u8 0) (.t 70)))⟩ (.cons ⟨none, (.s 72 (.cv .i64 (.t 71)))⟩ (.cons ⟨none, (.s 73 (.ia 17 1 (.t 11) (.t 65)))⟩ (.cons ⟨none, (.w none (.st (.t 73) (.t 72)))⟩ .nil)))))))))))) (.reg [] (.cons ⟨none, (.s 63 (.mv (.t 13)))⟩ (.cons ⟨none, (.s 64 (.bin .add (.t 63) (.k (.int .i64 1))))⟩ (.cons ⟨none, (.s 13 (.mv (.t 64)))⟩ .nil))))))))) (.seq (.reg [] (.cons ⟨none, (.s 74 (.mv (.t 12)))⟩ (.cons ⟨none, (.s 75 (.ia 17 1 (.t 11) (.t 74)))⟩ (.cons ⟨none, (.w none (.st (.t 75) (.k (.int .i64 1))))⟩ .nil)))) (.seq (.seq (.reg [] (.cons ⟨none, (.s 14 (.mv (.k (.int .i64 0))))⟩ .nil)) (.block 10 (.loop (.seq (.seq (.reg [] (.cons ⟨none, (.s 76 (.mv (.t 14)))⟩ (.cons ⟨none, (.s 77 (.bin .lss (.t 76) (.k (.int .i64 17))))⟩ .nil))) (.cond (.t 77) .skip (.exit 10))) (.seq (.block 11 (.reg [] (.cons ⟨none, (.s 80 (.mv (.t 14)))⟩ (.cons ⟨none, (.s 81 (.mv (.t 14)))⟩ (.cons ⟨none, (.s 82 (.ia 17 1 (.t 6) (.t 81)))⟩ (.cons ⟨none, (.r 83 (.ld (.int .i64 0) (.t 82)))⟩ (.cons ⟨none, (.s 84 (.mv (.t 14)))⟩ (.cons ⟨none, (.s 85 (.ia 17 1 (.t 11) (.t 84)))⟩ (.cons ⟨none, (.r 86 (.ld (.int .i64 0) (.t 85)))⟩ (.cons ⟨none, (.s 87 (.bin .add (.t 83) (.t 86)))⟩ (.cons ⟨none, (.s 88 (.ia 17 1 (.t 6) (.t 80)))⟩ (.cons ⟨none, (.w none (.st (.t 88) (.t 87)))⟩ .nil)))))))))))) (.reg [] (.cons ⟨none, (.s 78 (.mv (.t 14)))⟩ (.cons ⟨none, (.s 79 (.bin .add (.t 78) (.k (.int .i64 1))))⟩ (.cons ⟨none, (.s 14 (.mv (.t 79)))⟩ .nil))))))))) (.reg [] (.cons ⟨none, (.r 89 (.lda 17 (.t 6)))⟩ (.cons ⟨none, (.r 90 (.lda 17 (.t 5)))⟩ (.cons ⟨none, (.call (some 91) 49 [(.t 89), (.t 90)])⟩ (.cons ⟨none, (.w none (.sta 17 (.t 6) (.t 91)))⟩ .nil)))))))))))) (.reg [] (.cons ⟨none, (.s 52 (.mv (.t 10)))⟩ (.cons ⟨none, (.s 53 (.bin .add (.t 52) (.k (.int .i64 16))))⟩ (.cons ⟨none, (.s 10 (.mv (.t 53)))⟩ .nil))))))))) (.seq (.reg [] (.cons ⟨none, (.r 92 (.lda 17 (.t 6)))⟩ (.cons ⟨none, (.call (some 93) 50 [(.t 92)])⟩ (.cons ⟨none, (.w none (.sta 17 (.t 6) (.t 93)))⟩ .nil)))) (.seq (.reg [] (.cons ⟨none, (.w (some 15) (.alo 61 (.int .u8 0) (List.replicate 16 (.int .u8 0))))⟩ .nil)) (.seq (.reg [] (.cons ⟨none, (.s 16 (.mv (.k (.int .i64 0))))⟩ .nil)) (.seq (.seq (.reg [] (.cons ⟨none, (.s 17 (.mv (.k (.int .i64 0))))⟩ .nil)) (.block 12 (.loop (.seq (.seq (.reg [] (.cons ⟨none, (.s 94 (.mv (.t 17)))⟩ (.cons ⟨none, (.s 95 (.bin .lss (.t 94) (.k (.int .i64 16))))⟩ .nil))) (.cond (.t 95) .skip (.exit 12))) (.seq (.block 13 (.seq (.reg [] (.cons ⟨none, (.s 98 (.mv (.t 16)))⟩ (.cons ⟨none, (.s 99 (.mv (.t 17)))⟩ (.cons ⟨none, (.s 100 (.ia 17 1 (.t 6) (.t 99)))⟩ (.cons ⟨none, (.r 101 (.ld (.int .i64 0) (.t 100)))⟩ (.cons ⟨none, (.s 102 (.bin .add (.t 98) (.t 101)))⟩ (.cons ⟨none, (.s 103 (.mv (.t 17)))⟩ (.cons ⟨none, (.s 104 (.bin .add (.k (.int .i64 16)) (.t 103)))⟩ (.cons ⟨none, (.s 105 (.ia 32 1 (.t 2) (.t 104)))⟩ (.cons ⟨none, (.r 106 (.ld (.int .u8 0) (.t 105)))⟩ (.cons ⟨none, (.s 107 (.cv .i64 (.t 106)))⟩ (.cons ⟨none, (.s 108 (.bin .add (.t 102) (.t 107)))⟩ (.cons ⟨none, (.s 16 (.mv (.t 108)))⟩ .nil))))))))))))) (.seq (.reg [] (.cons ⟨none, (.s 109 (.mv (.t 17)))⟩ (.cons ⟨none, (.s 110 (.mv (.t 16)))⟩ (.cons ⟨none, (.s 111 (.bin .and (.t 110) (.k (.int .i64 255))))⟩ (.cons ⟨none, (.s 112 (.cv .u8 (.t 111)))⟩ (.cons ⟨none, (.s 113 (.ia 16 1 (.t 15) (.t 109)))⟩ (.cons ⟨none, (.w none (.st (.t 113) (.t 112)))⟩ .nil))))))) (.reg [] (.cons ⟨none, (.s 114 (.mv (.t 16)))⟩ (.cons ⟨none, (.s 115 (.bin .shr (.t 114) (.k (.int .u64 8))))⟩ (.cons ⟨none, (.s 16 (.mv (.t 115)))⟩ .nil))))))) (.reg [] (.cons ⟨none, (.s 96 (.mv (.t 17)))⟩ (.cons ⟨none, (.s 97 (.bin .add (.t 96) (.k (.int .i64 1))))⟩ (.cons ⟨none, (.s 17 (.mv (.t 97)))⟩ .nil))))))))) (.seq (.reg [] (.cons ⟨none, (.r 116 (.lda 16 (.t 15)))⟩ (.cons ⟨none, (.w none (.sta 16 (.t 4) (.t 116)))⟩ .nil))) .ret)))))))))))), [(.cell true 16 (.bool false) 4)]⟩
theorem low_portcullisref1_Poly : lowF Try.prog Try.f41 = some ir_portcullisref1_Poly.strip := by kernel_rfl
theorem ok_portcullisref1_Poly {fu : Nat} (i0 : Nat) {X0b : Nat} {X0ty : Nat} {X0pr : List C} {X0ps : List C} {X0o : Nat} {X0c : Nat} {X0n : Nat} {X0fr : Nat × Nat} {key_ : List Int} {b_ : List Int} (X0l : X0n = b_.length) (X0S : 0 < X0n → X0pr.length = X0o) (X0C : X0n ≤ X0c) {l9001 : List Int} (h : fn_portcullisref1_Poly fu key_ b_ = some l9001) :
  EV.Fn Try.prog 41 [.g (flat [.i .u8 key_]), .c (.s 0 X0b X0o X0n X0c)] [] [⟨i0, X0b, X0ty, true, X0fr, (.v undef), flat [.r X0pr, .i .u8 b_, .r X0ps]⟩] (fun v u nw => v = .g (flat [.i .u8 l9001]) ∧ u = [] ∧ nw = [] ∧ (l9001.length = 16)) := by
 subst X0l
 have key : EV.Fn Try.prog 41 [.g (flat [.i .u8 key_]), .c (.s 0 X0b X0o b_.length X0c)] [] [⟨0, X0b, X0ty, true, X0fr, (.v undef), flat [.r X0pr, .i .u8 b_, .r X0ps]⟩] (fun v u nw => v = .g (flat [.i .u8 l9001]) ∧ u = [] ∧ nw = [] ∧ (l9001.length = 16)) := by
  unfold fn_portcullisref1_Poly at h
  refine d_fn (i := ir_portcullisref1_Poly) (fn := Try.f41) (sl0 := [(0, .g (flat [.i .u8 key_])), (1, .c (.s 0 X0b X0o b_.length X0c))]) (hp0 := [⟨0, X0b, X0ty, true, X0fr, (.v undef), flat [.r X0pr, .i .u8 b_, .r X0ps]⟩]) (by kernel_rfl) low_portcullisref1_Poly mo rfl rfl rfl fun F z0 => ?_
  dsimp only [ir_portcullisref1_Poly]
  refine gd_e h fun Xh_key_ h => ?_
  refine wpC_seq ?_
  refine d_reg rfl ?_
  refine d_box rfl (fun _ => trivial) rfl fun kb1 kz2 => ?_
  refine d_alo (g := [.i .u8 (List.replicate 16 0)]) (zeros_flat _ _ _) (fun _ => trivial) fun kb3 kz4 => ?_
  refine wpI_nil ?_
  refine seqK_n ?_
  refine wpC_seq ?_
  refine d_reg rfl ?_
  refine d_alo (g := [.i .i64 (List.replicate 17 0)]) (zeros_flat _ _ _) (fun _ => trivial) fun kb5 kz6 => ?_
  refine wpI_nil ?_
  refine seqK_n ?_
  refine wpC_seq ?_
  refine d_reg rfl ?_
  refine d_alo (g := [.i .i64 (List.replicate 17 0)]) (zeros_flat _ _ _) (fun _ => trivial) fun kb7 kz8 => ?_
  refine wpI_nil ?_
  refine seqK_n ?_
  refine wpC_seq ?_
  refine wpC_seq ?_
  refine d_reg rfl ?_
  refine wpI_s rfl trivial ?_
  refine wpI_nil ?_
  refine seqK_n ?_
  refine wpC_block ?_
  refine bind_e h fun o16 h hko16 => ?_
  refine d_loop (fun (z : List Int × Int × Nat) => match z with | (l9, x11, kz12) => (l9, x11)) (fun (z : List Int × Int × Nat) => (match z with | (l9, x11, kz12) => ⟨[(1, .c (.s 0 X0b X0o b_.length X0c)), (2, .c (.p 100 kb1 0)), (4, .c (.p 101 kb3 0)), (5, .c (.p 102 kb5 0)), (6, .c (.p 103 kb7 0)), (7, ib .i64 x11)], [⟨0, X0b, X0ty, true, X0fr, (.v undef), flat [.r X0pr, .i .u8 b_, .r X0ps]⟩, ⟨100, kb1, 23, false, (0, 0), (.v (.int .u8 0)), flat [.i .u8 key_]⟩, ⟨101, kb3, 61, false, (0, 0), (.v (.int .u8 0)), flat [.i .u8 (List.replicate 16 0)]⟩, ⟨102, kb5, 90, false, (0, 0), (.v (.int .i64 0)), flat [.i .i64 l9]⟩, ⟨103, kb7, 90, false, (0, 0), (.v (.int .i64 0)), flat [.i .i64 (List.replicate 17 0)]⟩], 104, kz12⟩ : St)) (fun (z : List Int × Int × Nat) => match z with | (l9, x11, kz12) => (l9.length = 17)) ((List.replicate 17 0), 0, kz8) [0, 100, 101, 102, 103] h List.length_replicate (leS2_c rfl rfl (leS2_c rfl rfl (leS2_c rfl rfl (leS2_c rfl rfl (leS2_c rfl rfl (leS2_c rfl rfl leS2_n)))))) (leH2_c rfl rfl rfl rfl rfl rfl (leH2_c rfl rfl rfl rfl rfl rfl (leH2_c rfl rfl rfl rfl rfl rfl (leH2_c rfl rfl rfl rfl rfl rfl (leH2_c rfl rfl rfl rfl rfl rfl leH2_n))))) rfl rfl ?_
  rintro rec ⟨l9, x11, kz12⟩ h10 h
  show wpC _ _ _ _ _ (St.mk _ _ _ _)
  unfold fn_portcullisref1_Poly_l1 at h; try dsimp only at h
  refine wpC_seq ?_
  refine wpC_seq ?_
  refine d_reg rfl ?_
  refine wpI_s rfl trivial ?_
  refine d_b rfl trivial h fun t17 h => ?_
  refine wpI_nil ?_
  refine seqK_n ?_
  refine d_cond rfl h (fun h => ?_) (fun h => ?_)
  ·refine wpC_skip ?_
   refine seqK_n ?_
   refine wpC_seq ?_
   refine wpC_block ?_
   refine d_reg rfl ?_
   refine wpI_s rfl trivial ?_
   refine wpI_s rfl trivial ?_
   refine gd_e h fun g18 h => ?_
   refine wpI_s rfl g18 ?_
   refine d_ld 0 (q := x11.toNat) rfl rfl rfl h (ar_offi (x11) rfl) fun x19 h => ?_
   refine d_n rfl trivial h fun x20 h => ?_
   refine gd_e h fun g21 h => ?_
   refine wpI_s rfl g21 ?_
   refine d_st 0 (q := x11.toNat) rfl rfl rfl rfl h (ar_offi (x11) rfl) (fun _ => rfl) (fun _ => rfl) (fun _ => trivial) fun l22 h23 h => ?_
   refine wpI_nil ?_
   refine blockK_n ?_
   refine seqK_n ?_
   refine d_reg rfl ?_
   refine wpI_s rfl trivial ?_
   refine d_n rfl trivial h fun x24 h => ?_
   refine wpI_s rfl trivial ?_
   refine wpI_nil ?_
   refine lpK_n (l22, x24, kz12) [0, 100, 101, 102, 103] (h23.trans h10) h (leS2_c rfl rfl (leS2_c rfl rfl (leS2_c rfl rfl (leS2_c rfl rfl (leS2_c rfl rfl (leS2_c rfl rfl leS2_n)))))) (leH2_c rfl rfl rfl rfl rfl rfl (leH2_c rfl rfl rfl rfl rfl rfl (leH2_c rfl rfl rfl rfl rfl rfl (leH2_c rfl rfl rfl rfl rfl rfl (leH2_c rfl rfl rfl rfl rfl rfl leH2_n))))) rfl rfl
  ·refine wpC_exit ?_
   refine seqK_x ?_
   obtain rfl := Option.some.inj h
   have h := hko16; clear hko16; try dsimp only at h
   refine lpK_x ?_
   refine blockK_x ?_
   refine seqK_n ?_
   refine wpC_seq ?_
   refine wpC_seq ?_
   refine d_reg rfl ?_
   refine wpI_s rfl trivial ?_
   refine wpI_nil ?_
   refine seqK_n ?_
   refine wpC_block ?_
   refine bind_e h fun o32 h hko32 => ?_
   refine d_loop (fun (z : List Int × Int × Nat) => match z with | (l25, x27, kz28) => (l25, x27)) (fun (z : List Int × Int × Nat) => (match z with | (l25, x27, kz28) => ⟨[(1, .c (.s 0 X0b X0o b_.length X0c)), (2, .c (.p 100 kb1 0)), (4, .c (.p 101 kb3 0)), (5, .c (.p 102 kb5 0)), (6, .c (.p 103 kb7 0)), (8, ib .i64 x27)], [⟨0, X0b, X0ty, true, X0fr, (.v undef), flat [.r X0pr, .i .u8 b_, .r X0ps]⟩, ⟨100, kb1, 23, false, (0, 0), (.v (.int .u8 0)), flat [.i .u8 key_]⟩, ⟨101, kb3, 61, false, (0, 0), (.v (.int .u8 0)), flat [.i .u8 (List.replicate 16 0)]⟩, ⟨102, kb5, 90, false, (0, 0), (.v (.int .i64 0)), flat [.i .i64 l25]⟩, ⟨103, kb7, 90, false, (0, 0), (.v (.int .i64 0)), flat [.i .i64 (List.replicate 17 0)]⟩], 104, kz28⟩ : St)) (fun (z : List Int × Int × Nat) => match z with | (l25, x27, kz28) => (l25.length = 17)) (l9, 3, kz12) [0, 100, 101, 102, 103] h h10 (leS2_c rfl rfl (leS2_c rfl rfl (leS2_c rfl rfl (leS2_c rfl rfl (leS2_c rfl rfl (leS2_c rfl rfl leS2_n)))))) (leH2_c rfl rfl rfl rfl rfl rfl (leH2_c rfl rfl rfl rfl rfl rfl (leH2_c rfl rfl rfl rfl rfl rfl (leH2_c rfl rfl rfl rfl rfl rfl (leH2_c rfl rfl rfl rfl rfl rfl leH2_n))))) rfl rfl ?_
   rintro rec ⟨l25, x27, kz28⟩ h26 h
   show wpC _ _ _ _ _ (St.mk _ _ _ _)
   unfold fn_portcullisref1_Poly_l2 at h; try dsimp only at h
   refine wpC_seq ?_
   refine wpC_seq ?_
   refine d_reg rfl ?_
   refine wpI_s rfl trivial ?_
   refine d_b rfl trivial h fun t33 h => ?_
   refine wpI_nil ?_
   refine seqK_n ?_
   refine d_cond rfl h (fun h => ?_) (fun h => ?_)
   ·refine wpC_skip ?_
    refine seqK_n ?_
    refine wpC_seq ?_
    refine wpC_block ?_
    refine d_reg rfl ?_
    refine wpI_s rfl trivial ?_
    refine wpI_s rfl trivial ?_
    refine gd_e h fun g34 h => ?_
    refine wpI_s rfl g34 ?_
    refine d_ld 0 (q := x27.toNat) rfl rfl rfl h (ar_offi (x27) rfl) fun x35 h => ?_
    refine d_n rfl trivial h fun x36 h => ?_
    refine gd_e h fun g37 h => ?_
    refine wpI_s rfl g37 ?_
    refine d_st 0 (q := x27.toNat) rfl rfl rfl rfl h (ar_offi (x27) rfl) (fun _ => rfl) (fun _ => rfl) (fun _ => trivial) fun l38 h39 h => ?_
    refine wpI_nil ?_
    refine blockK_n ?_
    refine seqK_n ?_
    refine d_reg rfl ?_
    refine wpI_s rfl trivial ?_
    refine d_n rfl trivial h fun x40 h => ?_
    refine wpI_s rfl trivial ?_
    refine wpI_nil ?_
    refine lpK_n (l38, x40, kz28) [0, 100, 101, 102, 103] (h39.trans h26) h (leS2_c rfl rfl (leS2_c rfl rfl (leS2_c rfl rfl (leS2_c rfl rfl (leS2_c rfl rfl (leS2_c rfl rfl leS2_n)))))) (leH2_c rfl rfl rfl rfl rfl rfl (leH2_c rfl rfl rfl rfl rfl rfl (leH2_c rfl rfl rfl rfl rfl rfl (leH2_c rfl rfl rfl rfl rfl rfl (leH2_c rfl rfl rfl rfl rfl rfl leH2_n))))) rfl rfl
   ·refine wpC_exit ?_
    refine seqK_x ?_
    obtain rfl := Option.some.inj h
    have h := hko32; clear hko32; try dsimp only at h
    refine lpK_x ?_
    refine blockK_x ?_
    refine seqK_n ?_
    refine wpC_seq ?_
    refine wpC_seq ?_
    refine d_reg rfl ?_
    refine wpI_s rfl trivial ?_
    refine wpI_nil ?_
    refine seqK_n ?_
    refine wpC_block ?_
    refine bind_e h fun o48 h hko48 => ?_
    refine d_loop (fun (z : List Int × Int × Nat) => match z with | (l41, x43, kz44) => (l41, x43)) (fun (z : List Int × Int × Nat) => (match z with | (l41, x43, kz44) => ⟨[(1, .c (.s 0 X0b X0o b_.length X0c)), (2, .c (.p 100 kb1 0)), (4, .c (.p 101 kb3 0)), (5, .c (.p 102 kb5 0)), (6, .c (.p 103 kb7 0)), (9, ib .i64 x43)], [⟨0, X0b, X0ty, true, X0fr, (.v undef), flat [.r X0pr, .i .u8 b_, .r X0ps]⟩, ⟨100, kb1, 23, false, (0, 0), (.v (.int .u8 0)), flat [.i .u8 key_]⟩, ⟨101, kb3, 61, false, (0, 0), (.v (.int .u8 0)), flat [.i .u8 (List.replicate 16 0)]⟩, ⟨102, kb5, 90, false, (0, 0), (.v (.int .i64 0)), flat [.i .i64 l41]⟩, ⟨103, kb7, 90, false, (0, 0), (.v (.int .i64 0)), flat [.i .i64 (List.replicate 17 0)]⟩], 104, kz44⟩ : St)) (fun (z : List Int × Int × Nat) => match z with | (l41, x43, kz44) => (l41.length = 17)) (l25, 4, kz28) [0, 100, 101, 102, 103] h h26 (leS2_c rfl rfl (leS2_c rfl rfl (leS2_c rfl rfl (leS2_c rfl rfl (leS2_c rfl rfl (leS2_c rfl rfl leS2_n)))))) (leH2_c rfl rfl rfl rfl rfl rfl (leH2_c rfl rfl rfl rfl rfl rfl (leH2_c rfl rfl rfl rfl rfl rfl (leH2_c rfl rfl rfl rfl rfl rfl (leH2_c rfl rfl rfl rfl rfl rfl leH2_n))))) rfl rfl ?_
    rintro rec ⟨l41, x43, kz44⟩ h42 h
    show wpC _ _ _ _ _ (St.mk _ _ _ _)
    unfold fn_portcullisref1_Poly_l3 at h; try dsimp only at h
    refine wpC_seq ?_
    refine wpC_seq ?_
    refine d_reg rfl ?_
    refine wpI_s rfl trivial ?_
    refine d_b rfl trivial h fun t49 h => ?_
    refine wpI_nil ?_
    refine seqK_n ?_
    refine d_cond rfl h (fun h => ?_) (fun h => ?_)
    ·refine wpC_skip ?_
     refine seqK_n ?_
     refine wpC_seq ?_
     refine wpC_block ?_
     refine d_reg rfl ?_
     refine wpI_s rfl trivial ?_
     refine wpI_s rfl trivial ?_
     refine gd_e h fun g50 h => ?_
     refine wpI_s rfl g50 ?_
     refine d_ld 0 (q := x43.toNat) rfl rfl rfl h (ar_offi (x43) rfl) fun x51 h => ?_
     refine d_n rfl trivial h fun x52 h => ?_
     refine gd_e h fun g53 h => ?_
     refine wpI_s rfl g53 ?_
     refine d_st 0 (q := x43.toNat) rfl rfl rfl rfl h (ar_offi (x43) rfl) (fun _ => rfl) (fun _ => rfl) (fun _ => trivial) fun l54 h55 h => ?_
     refine wpI_nil ?_
     refine blockK_n ?_
     refine seqK_n ?_
     refine d_reg rfl ?_
     refine wpI_s rfl trivial ?_
     refine d_n rfl trivial h fun x56 h => ?_
     refine wpI_s rfl trivial ?_
     refine wpI_nil ?_
     refine lpK_n (l54, x56, kz44) [0, 100, 101, 102, 103] (h55.trans h42) h (leS2_c rfl rfl (leS2_c rfl rfl (leS2_c rfl rfl (leS2_c rfl rfl (leS2_c rfl rfl (leS2_c rfl rfl leS2_n)))))) (leH2_c rfl rfl rfl rfl rfl rfl (leH2_c rfl rfl rfl rfl rfl rfl (leH2_c rfl rfl rfl rfl rfl rfl (leH2_c rfl rfl rfl rfl rfl rfl (leH2_c rfl rfl rfl rfl rfl rfl leH2_n))))) rfl rfl
    ·refine wpC_exit ?_
     refine seqK_x ?_
     obtain rfl := Option.some.inj h
     have h := hko48; clear hko48; try dsimp only at h
     refine lpK_x ?_
     refine blockK_x ?_
     refine seqK_n ?_
     refine wpC_seq ?_
     refine wpC_seq ?_
     refine d_reg rfl ?_
     refine wpI_s rfl trivial ?_
     refine wpI_nil ?_
     refine seqK_n ?_
     refine wpC_block ?_
     refine bind_e h fun o64 h hko64 => ?_
     refine d_loop (fun (z : List Int × Int × Nat) => match z with | (l57, x59, kz60) => (l57, x59)) (fun (z : List Int × Int × Nat) => (match z with | (l57, x59, kz60) => ⟨[(1, .c (.s 0 X0b X0o b_.length X0c)), (2, .c (.p 100 kb1 0)), (4, .c (.p 101 kb3 0)), (5, .c (.p 102 kb5 0)), (6, .c (.p 103 kb7 0)), (10, ib .i64 x59)], [⟨0, X0b, X0ty, true, X0fr, (.v undef), flat [.r X0pr, .i .u8 b_, .r X0ps]⟩, ⟨100, kb1, 23, false, (0, 0), (.v (.int .u8 0)), flat [.i .u8 key_]⟩, ⟨101, kb3, 61, false, (0, 0), (.v (.int .u8 0)), flat [.i .u8 (List.replicate 16 0)]⟩, ⟨102, kb5, 90, false, (0, 0), (.v (.int .i64 0)), flat [.i .i64 l41]⟩, ⟨103, kb7, 90, false, (0, 0), (.v (.int .i64 0)), flat [.i .i64 l57]⟩], 104, kz60⟩ : St)) (fun (z : List Int × Int × Nat) => match z with | (l57, x59, kz60) => (l57.length = 17)) ((List.replicate 17 0), 0, kz44) [0, 100, 101, 102, 103] h List.length_replicate (leS2_c rfl rfl (leS2_c rfl rfl (leS2_c rfl rfl (leS2_c rfl rfl (leS2_c rfl rfl (leS2_c rfl rfl leS2_n)))))) (leH2_c rfl rfl rfl rfl rfl rfl (leH2_c rfl rfl rfl rfl rfl rfl (leH2_c rfl rfl rfl rfl rfl rfl (leH2_c rfl rfl rfl rfl rfl rfl (leH2_c rfl rfl rfl rfl rfl rfl leH2_n))))) rfl rfl ?_
     rintro rec ⟨l57, x59, kz60⟩ h58 h
     show wpC _ _ _ _ _ (St.mk _ _ _ _)
     unfold fn_portcullisref1_Poly_l6 at h; try dsimp only at h
     refine wpC_seq ?_
     refine wpC_seq ?_
     refine d_reg rfl ?_
     refine wpI_s rfl trivial ?_
     refine wpI_s rfl trivial ?_
     refine wpI_s rfl trivial ?_
     refine d_b rfl trivial h fun t65 h => ?_
     refine wpI_nil ?_
     refine seqK_n ?_
     refine d_cond rfl h (fun h => ?_) (fun h => ?_)
     ·refine wpC_skip ?_
      refine seqK_n ?_
      refine wpC_seq ?_
      refine wpC_block ?_
      refine wpC_seq ?_
      refine d_reg rfl ?_
      refine d_alo (g := [.i .i64 (List.replicate 17 0)]) (zeros_flat _ _ _) (fun _ => trivial) fun kb66 kz67 => ?_
      refine wpI_nil ?_
      refine seqK_n ?_
      refine wpC_seq ?_
      refine d_reg rfl ?_
      refine wpI_s rfl trivial ?_
      refine wpI_s rfl trivial ?_
      refine wpI_s rfl trivial ?_
      refine d_n rfl trivial h fun x68 h => ?_
      refine wpI_s rfl trivial ?_
      refine wpI_nil ?_
      refine seqK_n ?_
      refine bind_e h fun o71 h hko71 => ?_
      refine d_join (fun (z : Int × Nat) => (match z with | (x69, kz70) => ⟨[(1, .c (.s 0 X0b X0o b_.length X0c)), (2, .c (.p 100 kb1 0)), (4, .c (.p 101 kb3 0)), (5, .c (.p 102 kb5 0)), (6, .c (.p 103 kb7 0)), (10, ib .i64 x59), (11, .c (.p 104 kb66 0)), (12, ib .i64 x69)], [⟨0, X0b, X0ty, true, X0fr, (.v undef), flat [.r X0pr, .i .u8 b_, .r X0ps]⟩, ⟨100, kb1, 23, false, (0, 0), (.v (.int .u8 0)), flat [.i .u8 key_]⟩, ⟨101, kb3, 61, false, (0, 0), (.v (.int .u8 0)), flat [.i .u8 (List.replicate 16 0)]⟩, ⟨102, kb5, 90, false, (0, 0), (.v (.int .i64 0)), flat [.i .i64 l41]⟩, ⟨103, kb7, 90, false, (0, 0), (.v (.int .i64 0)), flat [.i .i64 l57]⟩, ⟨104, kb66, 90, false, (0, 0), (.v (.int .i64 0)), flat [.i .i64 (List.replicate 17 0)]⟩], 105, kz70⟩ : St)) (fun (z : Int × Nat) => match z with | (x69, kz70) => (True) ∧ x69 = o71) ?_ ?_
      ·refine wpC_seq ?_
       refine d_reg rfl ?_
       refine wpI_s rfl trivial ?_
       refine d_b rfl trivial h fun t72 h => ?_
       refine wpI_nil ?_
       refine seqK_n ?_
       refine d_cond rfl h (fun h => ?_) (fun h => ?_)
       ·refine d_reg rfl ?_
        refine wpI_s rfl trivial ?_
        refine wpI_nil ?_
        refine jnK_n (16, kz67) [0, 100, 101, 102, 103, 104] ⟨trivial, Option.some.inj h⟩ (leS2_c rfl rfl (leS2_c rfl rfl (leS2_c rfl rfl (leS2_c rfl rfl (leS2_c rfl rfl (leS2_c rfl rfl (leS2_c rfl rfl (leS2_c rfl rfl leS2_n)))))))) (leH2_c rfl rfl rfl rfl rfl rfl (leH2_c rfl rfl rfl rfl rfl rfl (leH2_c rfl rfl rfl rfl rfl rfl (leH2_c rfl rfl rfl rfl rfl rfl (leH2_c rfl rfl rfl rfl rfl rfl (leH2_c rfl rfl rfl rfl rfl rfl leH2_n)))))) rfl rfl
       ·refine wpC_skip ?_
        refine jnK_n (x68, kz67) [0, 100, 101, 102, 103, 104] ⟨trivial, Option.some.inj h⟩ (leS2_c rfl rfl (leS2_c rfl rfl (leS2_c rfl rfl (leS2_c rfl rfl (leS2_c rfl rfl (leS2_c rfl rfl (leS2_c rfl rfl (leS2_c rfl rfl leS2_n)))))))) (leH2_c rfl rfl rfl rfl rfl rfl (leH2_c rfl rfl rfl rfl rfl rfl (leH2_c rfl rfl rfl rfl rfl rfl (leH2_c rfl rfl rfl rfl rfl rfl (leH2_c rfl rfl rfl rfl rfl rfl (leH2_c rfl rfl rfl rfl rfl rfl leH2_n)))))) rfl rfl
      ·rintro ⟨x69, kz70⟩ ⟨_, rfl⟩
       show wpC _ _ _ _ _ (St.mk _ _ _ _)
       have h := hko71; clear hko71; try dsimp only at h
       refine wpC_seq ?_
       refine wpC_seq ?_
       refine d_reg rfl ?_
       refine wpI_s rfl trivial ?_
       refine wpI_nil ?_
       refine seqK_n ?_
       refine wpC_block ?_
       refine bind_e h fun o80 h hko80 => ?_
       refine d_loop (fun (z : List Int × Int × Nat) => match z with | (l73, x75, kz76) => (l73, x75)) (fun (z : List Int × Int × Nat) => (match z with | (l73, x75, kz76) => ⟨[(1, .c (.s 0 X0b X0o b_.length X0c)), (2, .c (.p 100 kb1 0)), (4, .c (.p 101 kb3 0)), (5, .c (.p 102 kb5 0)), (6, .c (.p 103 kb7 0)), (10, ib .i64 x59), (11, .c (.p 104 kb66 0)), (12, ib .i64 x69), (13, ib .i64 x75)], [⟨0, X0b, X0ty, true, X0fr, (.v undef), flat [.r X0pr, .i .u8 b_, .r X0ps]⟩, ⟨100, kb1, 23, false, (0, 0), (.v (.int .u8 0)), flat [.i .u8 key_]⟩, ⟨101, kb3, 61, false, (0, 0), (.v (.int .u8 0)), flat [.i .u8 (List.replicate 16 0)]⟩, ⟨102, kb5, 90, false, (0, 0), (.v (.int .i64 0)), flat [.i .i64 l41]⟩, ⟨103, kb7, 90, false, (0, 0), (.v (.int .i64 0)), flat [.i .i64 l57]⟩, ⟨104, kb66, 90, false, (0, 0), (.v (.int .i64 0)), flat [.i .i64 l73]⟩], 105, kz76⟩ : St)) (fun (z : List Int × Int × Nat) => match z with | (l73, x75, kz76) => (l73.length = 17)) ((List.replicate 17 0), 0, kz70) [0, 100, 101, 102, 103, 104] h List.length_replicate (leS2_c rfl rfl (leS2_c rfl rfl (leS2_c rfl rfl (leS2_c rfl rfl (leS2_c rfl rfl (leS2_c rfl rfl (leS2_c rfl rfl (leS2_c rfl rfl (leS2_c rfl rfl leS2_n))))))))) (leH2_c rfl rfl rfl rfl rfl rfl (leH2_c rfl rfl rfl rfl rfl rfl (leH2_c rfl rfl rfl rfl rfl rfl (leH2_c rfl rfl rfl rfl rfl rfl (leH2_c rfl rfl rfl rfl rfl rfl (leH2_c rfl rfl rfl rfl rfl rfl leH2_n)))))) rfl rfl ?_
       rintro rec ⟨l73, x75, kz76⟩ h74 h
       show wpC _ _ _ _ _ (St.mk _ _ _ _)
       unfold fn_portcullisref1_Poly_l4 at h; try dsimp only at h
       refine wpC_seq ?_
       refine wpC_seq ?_
       refine d_reg rfl ?_
       refine wpI_s rfl trivial ?_
       refine wpI_s rfl trivial ?_
       refine d_b rfl trivial h fun t81 h => ?_
       refine wpI_nil ?_
       refine seqK_n ?_
       refine d_cond rfl h (fun h => ?_) (fun h => ?_)
       ·refine wpC_skip ?_
        refine seqK_n ?_
        refine wpC_seq ?_
        refine wpC_block ?_
        refine d_reg rfl ?_
        refine wpI_s rfl trivial ?_
        refine wpI_s rfl trivial ?_
        refine wpI_s rfl trivial ?_
        refine wpI_s rfl trivial ?_
        refine d_n rfl trivial h fun x82 h => ?_
        refine gd_e h fun g83 h => ?_
        refine wpI_s rfl g83 ?_
        refine d_ld 1 (q := x82.toNat) rfl rfl rfl h (sl_offP0 (i := x82) rfl X0S g83) fun x84 h => ?_
        refine d_n rfl trivial h fun x85 h => ?_
        refine gd_e h fun g86 h => ?_
        refine wpI_s rfl g86 ?_
        refine d_st 0 (q := x75.toNat) rfl rfl rfl rfl h (ar_offi (x75) rfl) (fun _ => rfl) (fun _ => rfl) (fun _ => trivial) fun l87 h88 h => ?_
        refine wpI_nil ?_
        refine blockK_n ?_
        refine seqK_n ?_
        refine d_reg rfl ?_
        refine wpI_s rfl trivial ?_
        refine d_n rfl trivial h fun x89 h => ?_
        refine wpI_s rfl trivial ?_
        refine wpI_nil ?_
        refine lpK_n (l87, x89, kz76) [0, 100, 101, 102, 103, 104] (h88.trans h74) h (leS2_c rfl rfl (leS2_c rfl rfl (leS2_c rfl rfl (leS2_c rfl rfl (leS2_c rfl rfl (leS2_c rfl rfl (leS2_c rfl rfl (leS2_c rfl rfl (leS2_c rfl rfl leS2_n))))))))) (leH2_c rfl rfl rfl rfl rfl rfl (leH2_c rfl rfl rfl rfl rfl rfl (leH2_c rfl rfl rfl rfl rfl rfl (leH2_c rfl rfl rfl rfl rfl rfl (leH2_c rfl rfl rfl rfl rfl rfl (leH2_c rfl rfl rfl rfl rfl rfl leH2_n)))))) rfl rfl
       ·refine wpC_exit ?_
        refine seqK_x ?_
        obtain rfl := Option.some.inj h
        have h := hko80; clear hko80; try dsimp only at h
        refine lpK_x ?_
        refine blockK_x ?_
        refine seqK_n ?_
        refine wpC_seq ?_
        refine d_reg rfl ?_
        refine wpI_s rfl trivial ?_
        refine gd_e h fun g90 h => ?_
        refine wpI_s rfl g90 ?_
        refine d_st 0 (q := x69.toNat) rfl rfl rfl rfl h (ar_offi (x69) rfl) (fun _ => rfl) (fun _ => rfl) (fun _ => trivial) fun l91 h92 h => ?_
        refine wpI_nil ?_
        refine seqK_n ?_
        refine wpC_seq ?_
        refine wpC_seq ?_
        refine d_reg rfl ?_
        refine wpI_s rfl trivial ?_
        refine wpI_nil ?_
        refine seqK_n ?_
        refine wpC_block ?_
        refine bind_e h fun o100 h hko100 => ?_
        refine d_loop (fun (z : List Int × Int × Nat) => match z with | (l93, x95, kz96) => (l93, x95)) (fun (z : List Int × Int × Nat) => (match z with | (l93, x95, kz96) => ⟨[(1, .c (.s 0 X0b X0o b_.length X0c)), (2, .c (.p 100 kb1 0)), (4, .c (.p 101 kb3 0)), (5, .c (.p 102 kb5 0)), (6, .c (.p 103 kb7 0)), (10, ib .i64 x59), (11, .c (.p 104 kb66 0)), (14, ib .i64 x95)], [⟨0, X0b, X0ty, true, X0fr, (.v undef), flat [.r X0pr, .i .u8 b_, .r X0ps]⟩, ⟨100, kb1, 23, false, (0, 0), (.v (.int .u8 0)), flat [.i .u8 key_]⟩, ⟨101, kb3, 61, false, (0, 0), (.v (.int .u8 0)), flat [.i .u8 (List.replicate 16 0)]⟩, ⟨102, kb5, 90, false, (0, 0), (.v (.int .i64 0)), flat [.i .i64 l41]⟩, ⟨103, kb7, 90, false, (0, 0), (.v (.int .i64 0)), flat [.i .i64 l93]⟩, ⟨104, kb66, 90, false, (0, 0), (.v (.int .i64 0)), flat [.i .i64 l91]⟩], 105, kz96⟩ : St)) (fun (z : List Int × Int × Nat) => match z with | (l93, x95, kz96) => (l93.length = 17)) (l57, 0, kz76) [0, 100, 101, 102, 103, 104] h h58 (leS2_c rfl rfl (leS2_c rfl rfl (leS2_c rfl rfl (leS2_c rfl rfl (leS2_c rfl rfl (leS2_c rfl rfl (leS2_c rfl rfl (leS2_c rfl rfl leS2_n)))))))) (leH2_c rfl rfl rfl rfl rfl rfl (leH2_c rfl rfl rfl rfl rfl rfl (leH2_c rfl rfl rfl rfl rfl rfl (leH2_c rfl rfl rfl rfl rfl rfl (leH2_c rfl rfl rfl rfl rfl rfl (leH2_c rfl rfl rfl rfl rfl rfl leH2_n)))))) rfl rfl ?_
        rintro rec ⟨l93, x95, kz96⟩ h94 h
        show wpC _ _ _ _ _ (St.mk _ _ _ _)
        unfold fn_portcullisref1_Poly_l5 at h; try dsimp only at h
        refine wpC_seq ?_
        refine wpC_seq ?_
        refine d_reg rfl ?_
        refine wpI_s rfl trivial ?_
        refine d_b rfl trivial h fun t101 h => ?_
        refine wpI_nil ?_
        refine seqK_n ?_
        refine d_cond rfl h (fun h => ?_) (fun h => ?_)
        ·refine wpC_skip ?_
         refine seqK_n ?_
         refine wpC_seq ?_
         refine wpC_block ?_
         refine d_reg rfl ?_
         refine wpI_s rfl trivial ?_
         refine wpI_s rfl trivial ?_
         refine gd_e h fun g102 h => ?_
         refine wpI_s rfl g102 ?_
         refine d_ld 0 (q := x95.toNat) rfl rfl rfl h (ar_offi (x95) rfl) fun x103 h => ?_
         refine wpI_s rfl trivial ?_
         refine gd_e h fun g104 h => ?_
         refine wpI_s rfl g104 ?_
         refine d_ld 0 (q := x95.toNat) rfl rfl rfl h (ar_offi (x95) rfl) fun x105 h => ?_
         refine d_n rfl trivial h fun x106 h => ?_
         refine gd_e h fun g107 h => ?_
         refine wpI_s rfl g107 ?_
         refine d_st 0 (q := x95.toNat) rfl rfl rfl rfl h (ar_offi (x95) rfl) (fun _ => rfl) (fun _ => rfl) (fun _ => trivial) fun l108 h109 h => ?_
         refine wpI_nil ?_
         refine blockK_n ?_
         refine seqK_n ?_
         refine d_reg rfl ?_
         refine wpI_s rfl trivial ?_
         refine d_n rfl trivial h fun x110 h => ?_
         refine wpI_s rfl trivial ?_
         refine wpI_nil ?_
         refine lpK_n (l108, x110, kz96) [0, 100, 101, 102, 103, 104] (h109.trans h94) h (leS2_c rfl rfl (leS2_c rfl rfl (leS2_c rfl rfl (leS2_c rfl rfl (leS2_c rfl rfl (leS2_c rfl rfl (leS2_c rfl rfl (leS2_c rfl rfl leS2_n)))))))) (leH2_c rfl rfl rfl rfl rfl rfl (leH2_c rfl rfl rfl rfl rfl rfl (leH2_c rfl rfl rfl rfl rfl rfl (leH2_c rfl rfl rfl rfl rfl rfl (leH2_c rfl rfl rfl rfl rfl rfl (leH2_c rfl rfl rfl rfl rfl rfl leH2_n)))))) rfl rfl
        ·refine wpC_exit ?_
         refine seqK_x ?_
         obtain rfl := Option.some.inj h
         have h := hko100; clear hko100; try dsimp only at h
         refine lpK_x ?_
         refine blockK_x ?_
         refine seqK_n ?_
         refine d_reg rfl ?_
         refine d_lda 0 1 rfl rfl rfl rfl (by simp only [flen, h94]) ?_
         refine d_lda 0 1 rfl rfl rfl rfl (by simp only [flen, h42]) ?_
         refine bind_e h fun l113 ho112 h => ?_
         refine d_call (ok_portcullisref1_times     (h := ho112)) rfl rfl haveRw_n haveRo_n (own_of rfl) ?_
         rintro _ _ _ kz115 ⟨rfl, rfl, rfl, h114⟩
         refine ⟨_, rfl, trivial, ?_⟩
         refine gd_e h fun g116 h => ?_
         refine d_sta 0 rfl rfl rfl rfl rfl (by simp only [flen, g116]) (by simp only [flen, h94]) rfl rfl trivial ?_
         refine wpI_nil ?_
         refine blockK_n ?_
         refine seqK_n ?_
         refine d_reg rfl ?_
         refine wpI_s rfl trivial ?_
         refine d_n rfl trivial h fun x117 h => ?_
         refine wpI_s rfl trivial ?_
         refine wpI_nil ?_
         refine lpK_n (l113, x117, kz115) [0, 100, 101, 102, 103] g116 h (leS2_c rfl rfl (leS2_c rfl rfl (leS2_c rfl rfl (leS2_c rfl rfl (leS2_c rfl rfl (leS2_c rfl rfl leS2_n)))))) (leH2_c rfl rfl rfl rfl rfl rfl (leH2_c rfl rfl rfl rfl rfl rfl (leH2_c rfl rfl rfl rfl rfl rfl (leH2_c rfl rfl rfl rfl rfl rfl (leH2_c rfl rfl rfl rfl rfl rfl leH2_n))))) rfl rfl
     ·refine wpC_exit ?_
      refine seqK_x ?_
      obtain rfl := Option.some.inj h
      have h := hko64; clear hko64; try dsimp only at h
      refine lpK_x ?_
      refine blockK_x ?_
      refine seqK_n ?_
      refine wpC_seq ?_
      refine d_reg rfl ?_
      refine d_lda 0 1 rfl rfl rfl rfl (by simp only [flen, h58]) ?_
      refine bind_e h fun l120 ho119 h => ?_
      refine d_call (ok_portcullisref1_whole     (h := ho119)) rfl rfl haveRw_n haveRo_n (own_of rfl) ?_
      rintro _ _ _ kz122 ⟨rfl, rfl, rfl, h121⟩
      refine ⟨_, rfl, trivial, ?_⟩
      refine gd_e h fun g123 h => ?_
      refine d_sta 0 rfl rfl rfl rfl rfl (by simp only [flen, g123]) (by simp only [flen, h58]) rfl rfl trivial ?_
      refine wpI_nil ?_
      refine seqK_n ?_
      refine wpC_seq ?_
      refine d_reg rfl ?_
      refine d_alo (g := [.i .u8 (List.replicate 16 0)]) (zeros_flat _ _ _) (fun _ => trivial) fun kb124 kz125 => ?_
      refine wpI_nil ?_
      refine seqK_n ?_
      refine wpC_seq ?_
      refine d_reg rfl ?_
      refine wpI_s rfl trivial ?_
      refine wpI_nil ?_
      refine seqK_n ?_
      refine wpC_seq ?_
      refine wpC_seq ?_
      refine d_reg rfl ?_
      refine wpI_s rfl trivial ?_
      refine wpI_nil ?_
      refine seqK_n ?_
      refine wpC_block ?_
      refine bind_e h fun o134 h hko134 => ?_
      refine d_loop (fun (z : List Int × Int × Int × Nat) => match z with | (l126, x128, x129, kz130) => (l126, x128, x129)) (fun (z : List Int × Int × Int × Nat) => (match z with | (l126, x128, x129, kz130) => ⟨[(2, .c (.p 100 kb1 0)), (4, .c (.p 101 kb3 0)), (6, .c (.p 103 kb7 0)), (15, .c (.p 104 kb124 0)), (16, ib .i64 x128), (17, ib .i64 x129)], [⟨100, kb1, 23, false, (0, 0), (.v (.int .u8 0)), flat [.i .u8 key_]⟩, ⟨101, kb3, 61, false, (0, 0), (.v (.int .u8 0)), flat [.i .u8 (List.replicate 16 0)]⟩, ⟨103, kb7, 90, false, (0, 0), (.v (.int .i64 0)), flat [.i .i64 l120]⟩, ⟨104, kb124, 61, false, (0, 0), (.v (.int .u8 0)), flat [.i .u8 l126]⟩], 105, kz130⟩ : St)) (fun (z : List Int × Int × Int × Nat) => match z with | (l126, x128, x129, kz130) => (l126.length = 16)) ((List.replicate 16 0), 0, 0, kz125) [100, 101, 103, 104] h List.length_replicate (leS2_c rfl rfl (leS2_c rfl rfl (leS2_c rfl rfl (leS2_c rfl rfl (leS2_c rfl rfl (leS2_c rfl rfl leS2_n)))))) (leH2_c rfl rfl rfl rfl rfl rfl (leH2_c rfl rfl rfl rfl rfl rfl (leH2_c rfl rfl rfl rfl rfl rfl (leH2_c rfl rfl rfl rfl rfl rfl leH2_n)))) rfl rfl ?_
      rintro rec ⟨l126, x128, x129, kz130⟩ h127 h
      show wpC _ _ _ _ _ (St.mk _ _ _ _)
      unfold fn_portcullisref1_Poly_l7 at h; try dsimp only at h
      refine wpC_seq ?_
      refine wpC_seq ?_
      refine d_reg rfl ?_
      refine wpI_s rfl trivial ?_
      refine d_b rfl trivial h fun t135 h => ?_
      refine wpI_nil ?_
      refine seqK_n ?_
      refine d_cond rfl h (fun h => ?_) (fun h => ?_)
      ·refine wpC_skip ?_
       refine seqK_n ?_
       refine wpC_seq ?_
       refine wpC_block ?_
       refine wpC_seq ?_
       refine d_reg rfl ?_
       refine wpI_s rfl trivial ?_
       refine wpI_s rfl trivial ?_
       refine gd_e h fun g136 h => ?_
       refine wpI_s rfl g136 ?_
       refine d_ld 0 (q := x129.toNat) rfl rfl rfl h (ar_offi (x129) rfl) fun x137 h => ?_
       refine d_n rfl trivial h fun x138 h => ?_
       refine wpI_s rfl trivial ?_
       refine d_n rfl trivial h fun x139 h => ?_
       refine gd_e h fun g140 h => ?_
       refine wpI_s rfl g140 ?_
       refine d_ld 0 (q := x139.toNat) rfl rfl rfl h (ar_offi (x139) rfl) fun x141 h => ?_
       refine d_n rfl trivial h fun x142 h => ?_
       refine d_n rfl trivial h fun x143 h => ?_
       refine wpI_s rfl trivial ?_
       refine wpI_nil ?_
       refine seqK_n ?_
       refine wpC_seq ?_
       refine d_reg rfl ?_
       refine wpI_s rfl trivial ?_
       refine wpI_s rfl trivial ?_
       refine d_n rfl trivial h fun x144 h => ?_
       refine d_n rfl trivial h fun x145 h => ?_
       refine gd_e h fun g146 h => ?_
       refine wpI_s rfl g146 ?_
       refine d_st 0 (q := x129.toNat) rfl rfl rfl rfl h (ar_offi (x129) rfl) (fun _ => rfl) (fun _ => rfl) (fun _ => trivial) fun l147 h148 h => ?_
       refine wpI_nil ?_
       refine seqK_n ?_
       refine d_reg rfl ?_
       refine wpI_s rfl trivial ?_
       refine d_n rfl (by decide) h fun x149 h => ?_
       refine wpI_s rfl trivial ?_
       refine wpI_nil ?_
       refine blockK_n ?_
       refine seqK_n ?_
       refine d_reg rfl ?_
       refine wpI_s rfl trivial ?_
       refine d_n rfl trivial h fun x150 h => ?_
       refine wpI_s rfl trivial ?_
       refine wpI_nil ?_
       refine lpK_n (l147, x149, x150, kz130) [100, 101, 103, 104] (h148.trans h127) h (leS2_c rfl rfl (leS2_c rfl rfl (leS2_c rfl rfl (leS2_c rfl rfl (leS2_c rfl rfl (leS2_c rfl rfl leS2_n)))))) (leH2_c rfl rfl rfl rfl rfl rfl (leH2_c rfl rfl rfl rfl rfl rfl (leH2_c rfl rfl rfl rfl rfl rfl (leH2_c rfl rfl rfl rfl rfl rfl leH2_n)))) rfl rfl
      ·refine wpC_exit ?_
       refine seqK_x ?_
       obtain rfl := Option.some.inj h
       have h := hko134; clear hko134; try dsimp only at h
       refine lpK_x ?_
       refine blockK_x ?_
       refine seqK_n ?_
       refine wpC_seq ?_
       refine d_reg rfl ?_
       refine d_lda 0 1 rfl rfl rfl rfl (by simp only [flen, h127]) ?_
       refine d_sta 0 rfl rfl rfl rfl rfl (by simp only [flen, h127]) (by simp only [flen, List.length_replicate]) rfl rfl trivial ?_
       refine wpI_nil ?_
       refine seqK_n ?_
       refine wpC_ret ?_
       obtain rfl := Option.some.inj h
       exact d_ret2 [] [] ⟨rfl, rfl, rfl, h127⟩ (rIs_a 0 1 rfl rfl rfl rfl (by simp only [flen, h127])) leH2_n leH2_n rfl
 exact key.cong rfl blkEq_n (blkEq_c rfl rfl rfl rfl blkEq_n)

def ir_portcullisref1_tag : IFn := ⟨37, (.seq (.reg [] (.cons ⟨none, (.w (some 4) (.box 23 32 (.int .u8 0) (.t 0)))⟩ (.cons ⟨none, (.w (some 5) (.box 46 12 (.int .u8 0) (.t 1)))⟩ (.cons ⟨none, (.w (some 8) (.alo 61 (.int .u8 0) (List.replicate 16 (.int .u8 0))))⟩ .nil)))) (.seq (.reg [] (.cons ⟨none, (.r 12 (.lda 32 (.t 4)))⟩ (.cons ⟨none, (.r 13 (.lda 12 (.t 5)))⟩ (.cons ⟨none, (.call (some 14) 38 [(.t 12), (.k (.int .i64 0)), (.t 13)])⟩ (.cons ⟨none, (.w (some 9) (.alo 75 (.int .u8 0) (List.replicate 64 (.int .u8 0))))⟩ (.cons ⟨none, (.w none (.sta 64 (.t 9) (.t 14)))⟩ .nil)))))) (.seq (.reg [] (.cons ⟨none, (.w (some 10) (.alo 23 (.int .u8 0) (List.replicate 32 (.int .u8 0))))⟩ .nil)) (.seq (.reg [] (.cons ⟨none, (.s 15 (.sla 32 1 (.t 10) none none none))⟩ (.cons ⟨none, (.s 16 (.sla 64 1 (.t 9) none (some (.k (.int .i64 32))) none))⟩ (.cons ⟨none, (.w (some 17) (.cpy 1 (.t 15) (.t 16)))⟩ .nil)))) (.seq (.reg [] (.cons ⟨none, (.s 18 (.mv (.t 3)))⟩ (.cons ⟨none, (.app (some 19) 5 1 (.int .u8 0) (.k (.slice none 0 0)) (.t 18))⟩ (.cons ⟨none, (.call (some 20) 39 [(.t 19)])⟩ (.cons ⟨none, (.s 11 (.mv (.t 20)))⟩ .nil))))) (.seq (.reg [] (.cons ⟨none, (.s 21 (.mv (.t 11)))⟩ (.cons ⟨none, (.s 22 (.mv (.t 2)))⟩ (.cons ⟨none, (.app (some 23) 5 1 (.int .u8 0) (.t 21) (.t 22))⟩ (.cons ⟨none, (.call (some 24) 39 [(.t 23)])⟩ (.cons ⟨none, (.s 11 (.mv (.t 24)))⟩ .nil)))))) (.seq (.reg [] (.cons ⟨none, (.s 25 (.mv (.t 11)))⟩ (.cons ⟨none, (.s 26 (.mv (.t 3)))⟩ (.cons ⟨none, (.s 27 (.len (.t 26)))⟩ (.cons ⟨none, (.call (some 28) 40 [(.t 27)])⟩ (.cons ⟨none, (.app (some 29) 5 1 (.int .u8 0) (.t 25) (.t 28))⟩ (.cons ⟨none, (.s 30 (.mv (.t 2)))⟩ (.cons ⟨none, (.s 31 (.len (.t 30)))⟩ (.cons ⟨none, (.call (some 32) 40 [(.t 31)])⟩ (.cons ⟨none, (.app (some 33) 5 1 (.int .u8 0) (.t 29) (.t 32))⟩ (.cons ⟨none, (.s 11 (.mv (.t 33)))⟩ .nil))))))))))) (.seq (.reg [] (.cons ⟨none, (.r 34 (.lda 32 (.t 10)))⟩ (.cons ⟨none, (.s 35 (.mv (.t 11)))⟩ (.cons ⟨none, (.call (some 36) 41 [(.t 34), (.t 35)])⟩ (.cons ⟨none, (.w none (.sta 16 (.t 8) (.t 36)))⟩ .nil))))) .ret)))))))), [(.cell true 16 (.bool false) 8)]⟩
theorem low_portcullisref1_tag : lowF Try.prog Try.f27 = some ir_portcullisref1_tag.strip := by kernel_rfl
theorem ok_portcullisref1_tag {fu : Nat} (i0 : Nat) (i1 : Nat) {X0b : Nat} {X0ty : Nat} {X0pr : List C} {X0ps : List C} {X0o : Nat} {X0c : Nat} {X0n : Nat} {X1b : Nat} {X1ty : Nat} {X1pr : List C} {X1ps : List C} {X1o : Nat} {X1c : Nat} {X1n : Nat} {X0fr : Nat × Nat} {X1fr : Nat × Nat} {key_ : List Int} {nonce_ : List Int} {c_ : List Int} {beside_ : List Int} (X0l : X0n = c_.length) (X0S : 0 < X0n → X0pr.length = X0o) (X0C : X0n ≤ X0c) (X1l : X1n = beside_.length) (X1S : 0 < X1n → X1pr.length = X1o) (X1C : X1n ≤ X1c) {l9001 : List Int} (h : fn_portcullisref1_tag fu key_ nonce_ c_ beside_ = some l9001) :
  EV.Fn Try.prog 27 [.g (flat [.i .u8 key_]), .g (flat [.i .u8 nonce_]), .c (.s 0 X0b X0o X0n X0c), .c (.s 1 X1b X1o X1n X1c)] [] [⟨i0, X0b, X0ty, true, X0fr, (.v undef), flat [.r X0pr, .i .u8 c_, .r X0ps]⟩, ⟨i1, X1b, X1ty, true, X1fr, (.v undef), flat [.r X1pr, .i .u8 beside_, .r X1ps]⟩] (fun v u nw => v = .g (flat [.i .u8 l9001]) ∧ u = [] ∧ nw = [] ∧ (l9001.length = 16)) := by
 subst X0l
 subst X1l
 have key : EV.Fn Try.prog 27 [.g (flat [.i .u8 key_]), .g (flat [.i .u8 nonce_]), .c (.s 0 X0b X0o c_.length X0c), .c (.s 1 X1b X1o beside_.length X1c)] [] [⟨0, X0b, X0ty, true, X0fr, (.v undef), flat [.r X0pr, .i .u8 c_, .r X0ps]⟩, ⟨1, X1b, X1ty, true, X1fr, (.v undef), flat [.r X1pr, .i .u8 beside_, .r X1ps]⟩] (fun v u nw => v = .g (flat [.i .u8 l9001]) ∧ u = [] ∧ nw = [] ∧ (l9001.length = 16)) := by
  unfold fn_portcullisref1_tag at h
  refine d_fn (i := ir_portcullisref1_tag) (fn := Try.f27) (sl0 := [(0, .g (flat [.i .u8 key_])), (1, .g (flat [.i .u8 nonce_])), (2, .c (.s 0 X0b X0o c_.length X0c)), (3, .c (.s 1 X1b X1o beside_.length X1c))]) (hp0 := [⟨0, X0b, X0ty, true, X0fr, (.v undef), flat [.r X0pr, .i .u8 c_, .r X0ps]⟩, ⟨1, X1b, X1ty, true, X1fr, (.v undef), flat [.r X1pr, .i .u8 beside_, .r X1ps]⟩]) (by kernel_rfl) low_portcullisref1_tag mo rfl rfl rfl fun F z0 => ?_
  dsimp only [ir_portcullisref1_tag]
  refine gd_e h fun Xh_key_ h => ?_
  refine gd_e h fun Xh_nonce_ h => ?_
  refine wpC_seq ?_
  refine d_reg rfl ?_
  refine d_box rfl (fun _ => trivial) rfl fun kb1 kz2 => ?_
  refine d_box rfl (fun _ => trivial) rfl fun kb3 kz4 => ?_
  refine d_alo (g := [.i .u8 (List.replicate 16 0)]) (zeros_flat _ _ _) (fun _ => trivial) fun kb5 kz6 => ?_
  refine wpI_nil ?_
  refine seqK_n ?_
  refine wpC_seq ?_
  refine d_reg rfl ?_
  refine d_lda 0 1 rfl rfl rfl rfl (by simp only [flen, Xh_key_]) ?_
  refine d_lda 0 1 rfl rfl rfl rfl (by simp only [flen, Xh_nonce_]) ?_
  refine bind_e h fun l9 ho8 h => ?_
  refine d_call (ok_portcullisref1_Block     (h := ho8)) rfl rfl haveRw_n haveRo_n (own_of rfl) ?_
  rintro _ _ _ kz11 ⟨rfl, rfl, rfl, h10⟩
  refine ⟨_, rfl, trivial, ?_⟩
  refine gd_e h fun g12 h => ?_
  refine d_alo (g := [.i .u8 (List.replicate 64 0)]) (zeros_flat _ _ _) (fun _ => trivial) fun kb13 kz14 => ?_
  refine d_sta 0 rfl rfl rfl rfl rfl (by simp only [flen, g12]) (by simp only [flen, List.length_replicate]) rfl rfl trivial ?_
  refine wpI_nil ?_
  refine seqK_n ?_
  refine wpC_seq ?_
  refine d_reg rfl ?_
  refine d_alo (g := [.i .u8 (List.replicate 32 0)]) (zeros_flat _ _ _) (fun _ => trivial) fun kb15 kz16 => ?_
  refine wpI_nil ?_
  refine seqK_n ?_
  refine wpC_seq ?_
  refine d_reg rfl ?_
  refine d_sla rfl rfl rfl (by decide) fun ko17 kc18 h19 h20 => ?_
  replace h19 : 0 < 32 → 0 = ko17 := by intro h0; have := h19 (by omega); omega
  replace h20 : 32 ≤ kc18 := by omega
  have h21 : 32 ≤ 32 := by omega
  refine d_sla rfl rfl rfl (by decide) fun ko22 kc23 h24 h25 => ?_
  replace h24 : 0 < 32 → 0 = ko22 := by intro h0; have := h24 (by omega); omega
  replace h25 : 32 ≤ kc23 := by omega
  have h26 : 32 ≤ 64 := by omega
  refine d_cpy (j2 := 0) 0 (p := 0) (p2 := 0) (q0 := 0) (q2 := 0) rfl rfl rfl rfl rfl rfl h rfl rfl (hs_zero h19) (hs_zero h24) (by rw [g12]; first | exact h26 | (rw [Nat.zero_add]; exact h26)) (fun _ => rfl) (fun _ => rfl) (fun _ => trivial) fun l27 h28 h => ?_
  refine wpI_nil ?_
  refine seqK_n ?_
  refine wpC_seq ?_
  refine d_reg rfl ?_
  refine wpI_s rfl trivial ?_
  refine cond_d h (fun h29 h => ?_) (fun h29 h => ?_)
  ·refine gd_e h fun g30 h => ?_
   refine d_appnil rfl rfl rfl h (fun w hw => Src.of_eq (src_slice (j2 := 1) (p2 := X1pr.length) (q2 := 0) hw rfl rfl rfl (hs_zero X1S) (by rw [Nat.zero_add]; exact (Nat.le_refl _))) (sub_full rfl)) h29 g30 rfl fun l31 kb32 kc33 kp34 kz35 h36 h37 h => ?_
   refine bind_e h fun l40 ho39 h => ?_
   refine d_callC (ok_portcullisref1_filled (i0 := 105) (n0 := 1001) (X0b := kb32) (X0ty := 5) (X0pr := []) (X0ps := kp34) (X0o := 0) (X0c := kc33) (X0n := l31.length) (X0l := rfl) (X0O := rfl) (X0C := h37) (X0R := h36) (h := ho39)) rfl rfl (haveRw_c rfl haveRw_n) haveRo_n (own_of rfl) rfl ?_
   rintro _ _ _ kz50 ⟨k41, k42, k43, k44, k45, k46, rfl, rfl, rfl, h47, h48, h49⟩
   refine ⟨_, rfl, trivial, ?_⟩
   refine wpI_s rfl trivial ?_
   refine wpI_nil ?_
   refine seqK_n ?_
   refine wpC_seq ?_
   refine d_reg rfl ?_
   refine wpI_s rfl trivial ?_
   refine wpI_s rfl trivial ?_
   refine gd_e h fun g51 h => ?_
   refine d_appo rfl rfl rfl rfl h47 h48 h (fun w hw => Src.of_eq (src_slice (j2 := 1) (p2 := X0pr.length) (q2 := 0) hw rfl rfl rfl (hs_zero X0S) (by rw [Nat.zero_add]; exact (Nat.le_refl _))) (sub_full rfl)) g51 rfl rfl fun l52 kb53 ko54 kc55 kt56 kp57 kq58 kz59 h60 h61 h62 h => ?_
   refine bind_e h fun l65 ho64 h => ?_
   refine d_callC (ok_portcullisref1_filled (i0 := 106) (n0 := 1002) (X0b := kb53) (X0ty := kt56) (X0pr := kp57) (X0ps := kq58) (X0o := ko54) (X0c := kc55) (X0n := l52.length) (X0l := rfl) (X0O := h60) (X0C := h62) (X0R := h61) (h := ho64)) rfl rfl (haveRw_c rfl haveRw_n) haveRo_n (own_of rfl) rfl ?_
   rintro _ _ _ kz75 ⟨k66, k67, k68, k69, k70, k71, rfl, rfl, rfl, h72, h73, h74⟩
   refine ⟨_, rfl, trivial, ?_⟩
   refine wpI_s rfl trivial ?_
   refine wpI_nil ?_
   refine seqK_n ?_
   refine wpC_seq ?_
   refine d_reg rfl ?_
   refine wpI_s rfl trivial ?_
   refine wpI_s rfl trivial ?_
   refine wpI_s rfl trivial ?_
   refine bind_e h fun l78 ho77 h => ?_
   refine d_call (ok_portcullisref1_length  (n0 := 1003)   (h := ho77)) rfl rfl haveRw_n haveRo_n (own_of rfl) ?_
   rintro _ _ _ kz88 ⟨k79, k80, k81, k82, k83, k84, rfl, rfl, rfl, h85, h86, h87⟩
   refine ⟨_, rfl, trivial, ?_⟩
   refine gd_e h fun g89 h => ?_
   refine d_appo rfl rfl rfl rfl h72 h73 h (fun w hw => Src.of_eq (src_slice (j2 := 1) (p2 := k81.length) (q2 := 0) hw rfl rfl rfl (hs_zero (fun _ => h85)) (by rw [Nat.zero_add]; exact (Nat.le_refl _))) (sub_full rfl)) g89 rfl rfl fun l90 kb91 ko92 kc93 kt94 kp95 kq96 kz97 h98 h99 h100 h => ?_
   refine wpI_s rfl trivial ?_
   refine wpI_s rfl trivial ?_
   refine bind_e h fun l103 ho102 h => ?_
   refine d_call (ok_portcullisref1_length  (n0 := 1004)   (h := ho102)) rfl rfl haveRw_n haveRo_n (own_of rfl) ?_
   rintro _ _ _ kz113 ⟨k104, k105, k106, k107, k108, k109, rfl, rfl, rfl, h110, h111, h112⟩
   refine ⟨_, rfl, trivial, ?_⟩
   refine gd_e h fun g114 h => ?_
   refine d_appo rfl rfl rfl rfl h98 h99 h (fun w hw => Src.of_eq (src_slice (j2 := 1) (p2 := k106.length) (q2 := 0) hw rfl rfl rfl (hs_zero (fun _ => h110)) (by rw [Nat.zero_add]; exact (Nat.le_refl _))) (sub_full rfl)) g114 rfl rfl fun l115 kb116 ko117 kc118 kt119 kp120 kq121 kz122 h123 h124 h125 h => ?_
   refine wpI_s rfl trivial ?_
   refine wpI_nil ?_
   refine seqK_n ?_
   refine wpC_seq ?_
   refine d_reg rfl ?_
   refine d_lda 0 1 rfl rfl rfl rfl (by simp only [flen, (h28.trans List.length_replicate)]) ?_
   refine wpI_s rfl trivial ?_
   refine bind_e h fun l128 ho127 h => ?_
   refine d_call (ok_portcullisref1_Poly (i0 := 108)  (X0b := kb116) (X0ty := kt119) (X0pr := kp120) (X0ps := kq121) (X0o := ko117) (X0c := kc118) (X0n := l115.length) (X0l := rfl) (X0S := (fun _ => h123)) (X0C := h125) (h := ho127)) rfl rfl haveRw_n (haveRo_c rfl rfl haveRo_n) (own_of rfl) ?_
   rintro _ _ _ kz130 ⟨rfl, rfl, rfl, h129⟩
   refine ⟨_, rfl, trivial, ?_⟩
   refine gd_e h fun g131 h => ?_
   refine d_sta 0 rfl rfl rfl rfl rfl (by simp only [flen, g131]) (by simp only [flen, List.length_replicate]) rfl rfl trivial ?_
   refine wpI_nil ?_
   refine seqK_n ?_
   refine wpC_ret ?_
   obtain rfl := Option.some.inj h
   exact d_ret2 [] [] ⟨rfl, rfl, rfl, g131⟩ (rIs_a 0 1 rfl rfl rfl rfl (by simp only [flen, g131])) leH2_n leH2_n rfl
  ·cases h
 exact key.cong rfl blkEq_n (blkEq_c rfl rfl rfl rfl (blkEq_c rfl rfl rfl rfl blkEq_n))

def ir_portcullisref1_Seal : IFn := ⟨23, (.seq (.reg [] (.cons ⟨none, (.w (some 4) (.box 23 32 (.int .u8 0) (.t 0)))⟩ (.cons ⟨none, (.w (some 5) (.box 46 12 (.int .u8 0) (.t 1)))⟩ (.cons ⟨none, (.s 8 (.mv (.k (.slice none 0 0))))⟩ .nil)))) (.seq (.reg [] (.cons ⟨none, (.r 11 (.lda 32 (.t 4)))⟩ (.cons ⟨none, (.r 12 (.lda 12 (.t 5)))⟩ (.cons ⟨none, (.s 13 (.mv (.t 2)))⟩ (.cons ⟨none, (.call (some 14) 26 [(.t 11), (.k (.int .i64 1)), (.t 12), (.t 13)])⟩ (.cons ⟨none, (.s 9 (.mv (.t 14)))⟩ .nil)))))) (.seq (.reg [] (.cons ⟨none, (.r 15 (.lda 32 (.t 4)))⟩ (.cons ⟨none, (.r 16 (.lda 12 (.t 5)))⟩ (.cons ⟨none, (.s 17 (.mv (.t 9)))⟩ (.cons ⟨none, (.s 18 (.mv (.t 3)))⟩ (.cons ⟨none, (.call (some 19) 27 [(.t 15), (.t 16), (.t 17), (.t 18)])⟩ (.cons ⟨none, (.w (some 10) (.alo 61 (.int .u8 0) (List.replicate 16 (.int .u8 0))))⟩ (.cons ⟨none, (.w none (.sta 16 (.t 10) (.t 19)))⟩ .nil)))))))) (.seq (.reg [] (.cons ⟨none, (.s 20 (.mv (.t 9)))⟩ (.cons ⟨none, (.s 21 (.sla 16 1 (.t 10) none none none))⟩ (.cons ⟨none, (.app (some 22) 5 1 (.int .u8 0) (.t 20) (.t 21))⟩ (.cons ⟨none, (.s 8 (.mv (.t 22)))⟩ .nil))))) .ret)))), [(.tmp 8)]⟩
theorem low_portcullisref1_Seal : lowF Try.prog Try.f15 = some ir_portcullisref1_Seal.strip := by kernel_rfl
theorem ok_portcullisref1_Seal {fu : Nat} (i0 : Nat) (i1 : Nat) (n0 : Nat) {X0b : Nat} {X0ty : Nat} {X0pr : List C} {X0ps : List C} {X0o : Nat} {X0c : Nat} {X0n : Nat} {X1b : Nat} {X1ty : Nat} {X1pr : List C} {X1ps : List C} {X1o : Nat} {X1c : Nat} {X1n : Nat} {X0fr : Nat × Nat} {X1fr : Nat × Nat} {key_ : List Int} {nonce_ : List Int} {plain_ : List Int} {beside_ : List Int} (X0l : X0n = plain_.length) (X0S : 0 < X0n → X0pr.length = X0o) (X0C : X0n ≤ X0c) (X1l : X1n = beside_.length) (X1S : 0 < X1n → X1pr.length = X1o) (X1C : X1n ≤ X1c) {l9004 : List Int} (h : fn_portcullisref1_Seal fu key_ nonce_ plain_ beside_ = some l9004) :
  EV.Fn Try.prog 15 [.g (flat [.i .u8 key_]), .g (flat [.i .u8 nonce_]), .c (.s 0 X0b X0o X0n X0c), .c (.s 1 X1b X1o X1n X1c)] [] [⟨i0, X0b, X0ty, true, X0fr, (.v undef), flat [.r X0pr, .i .u8 plain_, .r X0ps]⟩, ⟨i1, X1b, X1ty, true, X1fr, (.v undef), flat [.r X1pr, .i .u8 beside_, .r X1ps]⟩] (fun v u nw => ∃ (kn9001 : Nat) (kn9002 : Nat) (kw9003 : List C) (kw9005 : List C) (kn9006 : Nat) (kn9007 : Nat), v = .c (.s n0 kn9001 kn9006 l9004.length kn9007) ∧ u = [] ∧ nw = [⟨n0, kn9001, kn9002, false, (0, 0), .v undef, flat [.r kw9003, .i .u8 l9004, .r kw9005]⟩] ∧ (kw9003.length = kn9006) ∧ (kn9007 ≤ l9004.length + kw9005.length) ∧ (l9004.length ≤ kn9007)) := by
 subst X0l
 subst X1l
 have key : EV.Fn Try.prog 15 [.g (flat [.i .u8 key_]), .g (flat [.i .u8 nonce_]), .c (.s 0 X0b X0o plain_.length X0c), .c (.s 1 X1b X1o beside_.length X1c)] [] [⟨0, X0b, X0ty, true, X0fr, (.v undef), flat [.r X0pr, .i .u8 plain_, .r X0ps]⟩, ⟨1, X1b, X1ty, true, X1fr, (.v undef), flat [.r X1pr, .i .u8 beside_, .r X1ps]⟩] (fun v u nw => ∃ (kn9001 : Nat) (kn9002 : Nat) (kw9003 : List C) (kw9005 : List C) (kn9006 : Nat) (kn9007 : Nat), v = .c (.s n0 kn9001 kn9006 l9004.length kn9007) ∧ u = [] ∧ nw = [⟨n0, kn9001, kn9002, false, (0, 0), .v undef, flat [.r kw9003, .i .u8 l9004, .r kw9005]⟩] ∧ (kw9003.length = kn9006) ∧ (kn9007 ≤ l9004.length + kw9005.length) ∧ (l9004.length ≤ kn9007)) := by
  unfold fn_portcullisref1_Seal at h
  refine d_fn (i := ir_portcullisref1_Seal) (fn := Try.f15) (sl0 := [(0, .g (flat [.i .u8 key_])), (1, .g (flat [.i .u8 nonce_])), (2, .c (.s 0 X0b X0o plain_.length X0c)), (3, .c (.s 1 X1b X1o beside_.length X1c))]) (hp0 := [⟨0, X0b, X0ty, true, X0fr, (.v undef), flat [.r X0pr, .i .u8 plain_, .r X0ps]⟩, ⟨1, X1b, X1ty, true, X1fr, (.v undef), flat [.r X1pr, .i .u8 beside_, .r X1ps]⟩]) (by kernel_rfl) low_portcullisref1_Seal mo rfl rfl rfl fun F z0 => ?_
  dsimp only [ir_portcullisref1_Seal]
  refine gd_e h fun Xh_key_ h => ?_
  refine gd_e h fun Xh_nonce_ h => ?_
  refine wpC_seq ?_
  refine d_reg rfl ?_
  refine d_box rfl (fun _ => trivial) rfl fun kb1 kz2 => ?_
  refine d_box rfl (fun _ => trivial) rfl fun kb3 kz4 => ?_
  refine wpI_s rfl trivial ?_
  refine wpI_nil ?_
  refine seqK_n ?_
  refine wpC_seq ?_
  refine d_reg rfl ?_
  refine d_lda 0 1 rfl rfl rfl rfl (by simp only [flen, Xh_key_]) ?_
  refine d_lda 0 1 rfl rfl rfl rfl (by simp only [flen, Xh_nonce_]) ?_
  refine wpI_s rfl trivial ?_
  refine bind_e h fun l7 ho6 h => ?_
  refine d_call (ok_portcullisref1_Turn (i0 := 0) (n0 := 1001) (X0b := X0b) (X0ty := X0ty) (X0pr := X0pr) (X0ps := X0ps) (X0o := X0o) (X0c := X0c) (X0n := plain_.length) (X0l := rfl) (X0S := X0S) (X0C := X0C) (h := ho6)) rfl rfl haveRw_n (haveRo_c rfl rfl haveRo_n) (own_of rfl) ?_
  rintro _ _ _ kz13 ⟨k8, k9, k10, rfl, rfl, rfl, h11, h12⟩
  refine ⟨_, rfl, trivial, ?_⟩
  refine wpI_s rfl trivial ?_
  refine wpI_nil ?_
  refine seqK_n ?_
  refine wpC_seq ?_
  refine d_reg rfl ?_
  refine d_lda 0 1 rfl rfl rfl rfl (by simp only [flen, Xh_key_]) ?_
  refine d_lda 0 1 rfl rfl rfl rfl (by simp only [flen, Xh_nonce_]) ?_
  refine wpI_s rfl trivial ?_
  refine wpI_s rfl trivial ?_
  refine bind_e h fun l16 ho15 h => ?_
  refine d_call (ok_portcullisref1_tag (i0 := 1001) (i1 := 1)  (X0b := k8) (X0ty := 5) (X0pr := []) (X0ps := k9) (X0o := 0) (X0c := k10) (X0n := l7.length) (X1b := X1b) (X1ty := X1ty) (X1pr := X1pr) (X1ps := X1ps) (X1o := X1o) (X1c := X1c) (X1n := beside_.length) (X0l := rfl) (X0S := (fun _ => rfl)) (X0C := h12) (X1l := rfl) (X1S := X1S) (X1C := X1C) (h := ho15)) rfl rfl haveRw_n (haveRo_c rfl rfl (haveRo_c rfl rfl haveRo_n)) (own_of rfl) ?_
  rintro _ _ _ kz18 ⟨rfl, rfl, rfl, h17⟩
  refine ⟨_, rfl, trivial, ?_⟩
  refine gd_e h fun g19 h => ?_
  refine d_alo (g := [.i .u8 (List.replicate 16 0)]) (zeros_flat _ _ _) (fun _ => trivial) fun kb20 kz21 => ?_
  refine d_sta 0 rfl rfl rfl rfl rfl (by simp only [flen, g19]) (by simp only [flen, List.length_replicate]) rfl rfl trivial ?_
  refine wpI_nil ?_
  refine seqK_n ?_
  refine wpC_seq ?_
  refine d_reg rfl ?_
  refine wpI_s rfl trivial ?_
  refine d_sla rfl rfl rfl (by decide) fun ko22 kc23 h24 h25 => ?_
  replace h24 : 0 < 16 → 0 = ko22 := by intro h0; have := h24 (by omega); omega
  replace h25 : 16 ≤ kc23 := by omega
  have h26 : 16 ≤ 16 := by omega
  refine gd_e h fun g27 h => ?_
  refine d_appo rfl rfl rfl rfl rfl h11 h (fun w hw => Src.of_eq (src_slice (j2 := 0) (p2 := 0) (q2 := 0) hw rfl rfl rfl (hs_zero h24) (by rw [g19]; first | exact h26 | (rw [Nat.zero_add]; exact h26))) (sub_full g19)) g27 rfl rfl fun l28 kb29 ko30 kc31 kt32 kp33 kq34 kz35 h36 h37 h38 h => ?_
  refine wpI_s rfl trivial ?_
  refine wpI_nil ?_
  refine seqK_n ?_
  refine wpC_ret ?_
  obtain rfl := Option.some.inj h
  exact d_ret2 [] [103] ⟨kb29, kt32, kp33, kq34, ko30, kc31, rfl, rfl, rfl, h36, h37, h38⟩ (rIs_t rfl rfl) leH2_n (leH2_c rfl rfl rfl rfl rfl rfl leH2_n) rfl
 exact key.cong rfl blkEq_n (blkEq_c rfl rfl rfl rfl (blkEq_c rfl rfl rfl rfl blkEq_n))

def ir_portcullisref16_SealBlock : IFn := ⟨33, (.seq (.reg [] (.cons ⟨none, (.w (some 4) (.box 23 32 (.int .u8 0) (.t 0)))⟩ (.cons ⟨none, (.s 8 (.mv (.k (.slice none 0 0))))⟩ (.cons ⟨none, (.s 9 (.mv (.k (.int .i64 0))))⟩ .nil)))) (.seq (.seqJ (.reg [] (.cons ⟨none, (.s 10 (.mv (.t 1)))⟩ (.cons ⟨none, (.call (some 11) 14 [(.t 10)])⟩ (.cons ⟨none, (.s 12 (.un .not (.t 11)))⟩ (.cons ⟨none, (.s 13 (.mv (.t 12)))⟩ (.cons ⟨(some (13, false)), (.s 14 (.mv (.t 2)))⟩ (.cons ⟨(some (13, false)), (.s 15 (.bin .lss (.t 14) (.k (.int .i64 0))))⟩ (.cons ⟨none, (.s 16 (.pick (.t 13) (.k (.bool true)) (.t 15)))⟩ (.cons ⟨none, (.s 17 (.mv (.t 16)))⟩ (.cons ⟨(some (17, false)), (.s 18 (.mv (.t 2)))⟩ (.cons ⟨(some (17, false)), (.s 19 (.bin .gtr (.t 18) (.k (.int .i64 31))))⟩ (.cons ⟨none, (.s 20 (.pick (.t 17) (.k (.bool true)) (.t 19)))⟩ (.cons ⟨none, (.s 21 (.mv (.t 20)))⟩ (.cons ⟨(some (21, false)), (.s 22 (.mv (.t 3)))⟩ (.cons ⟨(some (21, false)), (.s 23 (.len (.t 22)))⟩ (.cons ⟨(some (21, false)), (.s 24 (.bin .neq (.t 23) (.k (.int .i64 64))))⟩ (.cons ⟨none, (.s 25 (.pick (.t 21) (.k (.bool true)) (.t 24)))⟩ .nil))))))))))))))))) (.cond (.t 25) (.seq (.reg [] (.cons ⟨none, (.s 8 (.mv (.k (.slice none 0 0))))⟩ (.cons ⟨none, (.s 9 (.mv (.k (.int .i64 1))))⟩ .nil))) .ret) .skip)) (.seq (.reg [4] (.cons ⟨none, (.q 26 (.lda 32 (.t 4)))⟩ (.cons ⟨none, (.s 27 (.mv (.t 2)))⟩ (.cons ⟨none, (.call (some 28) 16 [(.t 27)])⟩ (.cons ⟨none, (.s 29 (.mv (.t 3)))⟩ (.cons ⟨none, (.s 30 (.mv (.t 1)))⟩ (.cons ⟨none, (.call (some 31) 17 [(.t 30)])⟩ (.cons ⟨none, (.call (some 32) 15 [(.t 26), (.t 28), (.t 29), (.t 31)])⟩ (.cons ⟨none, (.s 8 (.mv (.t 32)))⟩ (.cons ⟨none, (.s 9 (.mv (.k (.int .i64 0))))⟩ .nil)))))))))) .ret))), [(.tmp 8), (.tmp 9)]⟩
theorem low_portcullisref16_SealBlock : lowF Try.prog Try.f5 = some ir_portcullisref16_SealBlock.strip := by kernel_rfl
theorem ok_portcullisref16_SealBlock {fu : Nat} (i0 : Nat) (n0 : Nat) {X0b : Nat} {X0ty : Nat} {X0pr : List C} {X0ps : List C} {X0o : Nat} {X0c : Nat} {X0n : Nat} {X0fr : Nat × Nat} {key_ : List Int} {version_ : Int} {i_ : Int} {plain_ : List Int} (X0l : X0n = plain_.length) (X0S : 0 < X0n → X0pr.length = X0o) (X0C : X0n ≤ X0c) {r : (Unit) ⊕ (List Int)} (h : fn_portcullisref16_SealBlock fu key_ version_ i_ plain_ = some r) :
  EV.Fn Try.prog 5 [.g (flat [.i .u8 key_]), ib .i64 version_, ib .i64 i_, .c (.s 0 X0b X0o X0n X0c)] [] [⟨i0, X0b, X0ty, true, X0fr, (.v undef), flat [.r X0pr, .i .u8 plain_, .r X0ps]⟩] (fun v u nw => match r with | .inl _ => (v = .t2 (.c (.v (.slice none 0 0))) (ib .i64 1) ∧ u = [] ∧ nw = []) | .inr (l9005) => (∃ (kn9002 : Nat) (kn9003 : Nat) (kw9004 : List C) (kw9006 : List C) (kn9007 : Nat) (kn9008 : Nat), v = .t2 (.c (.s n0 kn9002 kn9007 l9005.length kn9008)) (ib .i64 0) ∧ u = [] ∧ nw = [⟨n0, kn9002, kn9003, false, (0, 0), .v undef, flat [.r kw9004, .i .u8 l9005, .r kw9006]⟩] ∧ (kw9004.length = kn9007) ∧ (kn9008 ≤ l9005.length + kw9006.length) ∧ (l9005.length ≤ kn9008))) := by
 subst X0l
 have key : EV.Fn Try.prog 5 [.g (flat [.i .u8 key_]), ib .i64 version_, ib .i64 i_, .c (.s 0 X0b X0o plain_.length X0c)] [] [⟨0, X0b, X0ty, true, X0fr, (.v undef), flat [.r X0pr, .i .u8 plain_, .r X0ps]⟩] (fun v u nw => match r with | .inl _ => (v = .t2 (.c (.v (.slice none 0 0))) (ib .i64 1) ∧ u = [] ∧ nw = []) | .inr (l9005) => (∃ (kn9002 : Nat) (kn9003 : Nat) (kw9004 : List C) (kw9006 : List C) (kn9007 : Nat) (kn9008 : Nat), v = .t2 (.c (.s n0 kn9002 kn9007 l9005.length kn9008)) (ib .i64 0) ∧ u = [] ∧ nw = [⟨n0, kn9002, kn9003, false, (0, 0), .v undef, flat [.r kw9004, .i .u8 l9005, .r kw9006]⟩] ∧ (kw9004.length = kn9007) ∧ (kn9008 ≤ l9005.length + kw9006.length) ∧ (l9005.length ≤ kn9008))) := by
  unfold fn_portcullisref16_SealBlock at h
  refine d_fn (i := ir_portcullisref16_SealBlock) (fn := Try.f5) (sl0 := [(0, .g (flat [.i .u8 key_])), (1, ib .i64 version_), (2, ib .i64 i_), (3, .c (.s 0 X0b X0o plain_.length X0c))]) (hp0 := [⟨0, X0b, X0ty, true, X0fr, (.v undef), flat [.r X0pr, .i .u8 plain_, .r X0ps]⟩]) (by kernel_rfl) low_portcullisref16_SealBlock mo rfl rfl rfl fun F z0 => ?_
  dsimp only [ir_portcullisref16_SealBlock]
  refine gd_e h fun Xh_key_ h => ?_
  refine wpC_seq ?_
  refine d_reg rfl ?_
  refine d_box rfl (fun _ => trivial) rfl fun kb1 kz2 => ?_
  refine wpI_s rfl trivial ?_
  refine wpI_s rfl trivial ?_
  refine wpI_nil ?_
  refine seqK_n ?_
  refine wpC_seq ?_
  refine bind_e h fun o5 h hko5 => ?_
  refine d_join (fun (z : Bool × Nat) => (match z with | (t3, kz4) => ⟨[(1, ib .i64 version_), (2, ib .i64 i_), (3, .c (.s 0 X0b X0o plain_.length X0c)), (4, .c (.p 100 kb1 0)), (25, bb t3)], [⟨0, X0b, X0ty, true, X0fr, (.v undef), flat [.r X0pr, .i .u8 plain_, .r X0ps]⟩, ⟨100, kb1, 23, false, (0, 0), (.v (.int .u8 0)), flat [.i .u8 key_]⟩], 101, kz4⟩ : St)) (fun (z : Bool × Nat) => match z with | (t3, kz4) => (True) ∧ t3 = o5) ?_ ?_
  ·refine d_reg rfl ?_
   refine wpI_s rfl trivial ?_
   refine bind_e h fun t8 ho7 h => ?_
   refine d_call (ok_portcullisref16_small     (h := ho7)) rfl rfl haveRw_n haveRo_n (own_of rfl) ?_
   rintro _ _ _ kz9 ⟨rfl, rfl, rfl⟩
   refine ⟨_, rfl, trivial, ?_⟩
   refine d_b rfl trivial h fun t10 h => ?_
   refine wpI_s rfl trivial ?_
   refine d_guard rfl h (fun h => ?_) (fun h => ?_)
   ·refine wpI_s rfl trivial ?_
    refine d_guardT rfl ?_
    refine d_b rfl trivial h fun t11 h => ?_
    refine d_pickF rfl rfl rfl ?_
    refine wpI_s rfl trivial ?_
    refine d_guard rfl h (fun h => ?_) (fun h => ?_)
    ·refine wpI_s rfl trivial ?_
     refine d_guardT rfl ?_
     refine d_b rfl trivial h fun t12 h => ?_
     refine d_pickF rfl rfl rfl ?_
     refine wpI_s rfl trivial ?_
     refine d_guard rfl h (fun h => ?_) (fun h => ?_)
     ·refine wpI_s rfl trivial ?_
      refine d_guardT rfl ?_
      refine wpI_s rfl trivial ?_
      refine d_guardT rfl ?_
      refine d_b rfl trivial h fun t13 h => ?_
      refine d_pickF rfl rfl rfl ?_
      refine wpI_nil ?_
      refine jnK_n (t13, kz9) [0, 100] ⟨trivial, Option.some.inj h⟩ (leS2_c rfl rfl (leS2_c rfl rfl (leS2_c rfl rfl (leS2_c rfl rfl (leS2_c rfl rfl leS2_n))))) (leH2_c rfl rfl rfl rfl rfl rfl (leH2_c rfl rfl rfl rfl rfl rfl leH2_n)) rfl rfl
     ·refine d_guardF rfl rfl ?_
      refine d_guardF rfl rfl ?_
      refine d_pickT rfl rfl rfl ?_
      refine wpI_nil ?_
      refine jnK_n (true, kz9) [0, 100] ⟨trivial, Option.some.inj h⟩ (leS2_c rfl rfl (leS2_c rfl rfl (leS2_c rfl rfl (leS2_c rfl rfl (leS2_c rfl rfl leS2_n))))) (leH2_c rfl rfl rfl rfl rfl rfl (leH2_c rfl rfl rfl rfl rfl rfl leH2_n)) rfl rfl
    ·refine d_guardF rfl rfl ?_
     refine d_pickT rfl rfl rfl ?_
     refine wpI_s rfl trivial ?_
     refine d_guardF rfl rfl ?_
     refine d_guardF rfl rfl ?_
     refine d_guardF rfl rfl ?_
     refine d_pickT rfl rfl rfl ?_
     refine wpI_nil ?_
     refine jnK_n (true, kz9) [0, 100] ⟨trivial, Option.some.inj h⟩ (leS2_c rfl rfl (leS2_c rfl rfl (leS2_c rfl rfl (leS2_c rfl rfl (leS2_c rfl rfl leS2_n))))) (leH2_c rfl rfl rfl rfl rfl rfl (leH2_c rfl rfl rfl rfl rfl rfl leH2_n)) rfl rfl
   ·refine d_guardF rfl rfl ?_
    refine d_pickT rfl rfl rfl ?_
    refine wpI_s rfl trivial ?_
    refine d_guardF rfl rfl ?_
    refine d_guardF rfl rfl ?_
    refine d_pickT rfl rfl rfl ?_
    refine wpI_s rfl trivial ?_
    refine d_guardF rfl rfl ?_
    refine d_guardF rfl rfl ?_
    refine d_guardF rfl rfl ?_
    refine d_pickT rfl rfl rfl ?_
    refine wpI_nil ?_
    refine jnK_n (true, kz9) [0, 100] ⟨trivial, Option.some.inj h⟩ (leS2_c rfl rfl (leS2_c rfl rfl (leS2_c rfl rfl (leS2_c rfl rfl (leS2_c rfl rfl leS2_n))))) (leH2_c rfl rfl rfl rfl rfl rfl (leH2_c rfl rfl rfl rfl rfl rfl leH2_n)) rfl rfl
  ·rintro ⟨t3, kz4⟩ ⟨_, rfl⟩
   show wpC _ _ _ _ _ (St.mk _ _ _ _)
   have h := hko5; clear hko5; try dsimp only at h
   refine d_cond rfl h (fun h => ?_) (fun h => ?_)
   ·refine wpC_seq ?_
    refine d_reg rfl ?_
    refine wpI_s rfl trivial ?_
    refine wpI_s rfl trivial ?_
    refine wpI_nil ?_
    refine seqK_n ?_
    refine wpC_ret ?_
    refine seqK_r ?_
    obtain rfl := Option.some.inj h
    exact d_ret2 [] [] ⟨rfl, rfl, rfl⟩ ⟨(rIs_t rfl rfl), (rIs_t rfl rfl)⟩ leH2_n leH2_n rfl
   ·refine wpC_skip ?_
    refine seqK_n ?_
    refine wpC_seq ?_
    refine d_reg rfl ?_
    refine d_qlda 0 1 rfl rfl rfl rfl (by simp only [flen, Xh_key_]) ?_
    refine wpI_s rfl trivial ?_
    refine bind_e h fun l16 ho15 h => ?_
    refine d_call (ok_portcullisref16_nonce     (h := ho15)) rfl rfl haveRw_n haveRo_n (own_of rfl) ?_
    rintro _ _ _ kz18 ⟨rfl, rfl, rfl, h17⟩
    refine ⟨_, rfl, (pin_c rfl rfl rfl rfl rfl trivial), ?_⟩
    refine gd_e h fun g19 h => ?_
    refine wpI_s rfl trivial ?_
    refine wpI_s rfl trivial ?_
    refine bind_e h fun l22 ho21 h => ?_
    refine d_call (ok_portcullisref1_One  (n0 := 1001)   (h := ho21)) rfl rfl haveRw_n haveRo_n (own_of rfl) ?_
    rintro _ _ _ kz32 ⟨k23, k24, k25, k26, k27, k28, rfl, rfl, rfl, h29, h30, h31⟩
    refine ⟨_, rfl, (pin_c rfl rfl rfl rfl rfl trivial), ?_⟩
    refine bind_e h fun l35 ho34 h => ?_
    refine d_call (ok_portcullisref1_Seal (i0 := 0) (i1 := 1001) (n0 := 1002) (X0b := X0b) (X0ty := X0ty) (X0pr := X0pr) (X0ps := X0ps) (X0o := X0o) (X0c := X0c) (X0n := plain_.length) (X1b := k23) (X1ty := k24) (X1pr := k25) (X1ps := k26) (X1o := k27) (X1c := k28) (X1n := l22.length) (X0l := rfl) (X0S := X0S) (X0C := X0C) (X1l := rfl) (X1S := (fun _ => h29)) (X1C := h31) (h := ho34)) rfl rfl haveRw_n (haveRo_c rfl rfl (haveRo_c rfl rfl haveRo_n)) (own_of rfl) ?_
    rintro _ _ _ kz45 ⟨k36, k37, k38, k39, k40, k41, rfl, rfl, rfl, h42, h43, h44⟩
    refine ⟨_, rfl, (pin_c rfl rfl rfl rfl rfl trivial), ?_⟩
    refine wpI_s rfl trivial ?_
    refine wpI_s rfl trivial ?_
    refine wpI_nil ?_
    refine seqK_n ?_
    refine wpC_ret ?_
    obtain rfl := Option.some.inj h
    exact d_ret2 [] [1002] ⟨k36, k37, k38, k39, k40, k41, rfl, rfl, rfl, h42, h43, h44⟩ ⟨(rIs_t rfl rfl), (rIs_t rfl rfl)⟩ leH2_n (leH2_c rfl rfl rfl rfl rfl rfl leH2_n) rfl
 exact key.cong rfl blkEq_n (blkEq_c rfl rfl rfl rfl blkEq_n)

def ir_flash_Flash_Plan : IFn := ⟨13, (.seq (.reg [] (.cons ⟨none, (.w (some 3) (.box 26 2 (.int .i64 0) (.t 1)))⟩ .nil)) (.reg [] (.cons ⟨none, (.s 4 (.mv (.t 0)))⟩ (.cons ⟨none, (.s 5 (.fa 0 (.t 3)))⟩ (.cons ⟨none, (.r 6 (.ld (.int .i64 0) (.t 5)))⟩ (.cons ⟨none, (.s 7 (.mnmx true (.k (.int .i64 (-1))) (.t 6)))⟩ (.cons ⟨none, (.s 8 (.fa 1 (.t 3)))⟩ (.cons ⟨none, (.r 9 (.ld (.int .i64 0) (.t 8)))⟩ (.cons ⟨none, (.s 10 (.bld [(.int .i64 0), (.int .i64 0)] [(0, (1, (.t 7))), (1, (1, (.t 9)))]))⟩ (.cons ⟨none, (.s 11 (.nil (.t 4)))⟩ (.cons ⟨none, (.s 12 (.fa 1 (.t 11)))⟩ (.cons ⟨none, (.w none (.sta 2 (.t 12) (.t 10)))⟩ .nil)))))))))))), []⟩
theorem low_flash_Flash_Plan : lowF Try.prog Try.f10 = some ir_flash_Flash_Plan.strip := by kernel_rfl
theorem ok_flash_Flash_Plan {fu : Nat} (i0 : Nat) (i1 : Nat) {X0b : Nat} {X0ty : Nat} {X1b : Nat} {X1ty : Nat} {X1pr : List C} {X1ps : List C} {X1o : Nat} {X1c : Nat} {X1n : Nat} {X1fr : Nat × Nat} {f_0 : List Int} {f_1 : Int} {f_2 : Int} {f_3 : Bool} {f_4 : Int} {f_5 : Int} {c_0 : Int} {c_1 : Int} (X1l : X1n = f_0.length) (X1S : 0 < X1n → X1pr.length = X1o) (X1C : X1n ≤ X1c) {x9001 : Int} (h : fn_flash_Flash_Plan fu f_0 f_1 f_2 f_3 f_4 f_5 c_0 c_1 = some x9001) :
  EV.Fn Try.prog 10 [.c (.p 0 X0b 0), .g (flat [.c (.v (.int .i64 c_0)), .c (.v (.int .i64 c_1))])] [⟨i0, X0b, X0ty, false, (0, 0), (.v undef), flat [.c (.s i1 X1b X1o X1n X1c), .c (.v (.int .i64 f_1)), .c (.v (.int .i64 f_2)), .c (.v (.bool f_3)), .c (.v (.int .i64 f_4)), .c (.v (.int .i64 f_5))]⟩] [⟨i1, X1b, X1ty, true, X1fr, (.v undef), flat [.r X1pr, .i .u8 f_0, .r X1ps]⟩] (fun v u nw => v = .t0 ∧ u = [flat [.c (.s i1 X1b X1o X1n X1c), .c (.v (.int .i64 x9001)), .c (.v (.int .i64 c_1)), .c (.v (.bool f_3)), .c (.v (.int .i64 f_4)), .c (.v (.int .i64 f_5))]] ∧ nw = []) := by
 subst X1l
 have key : EV.Fn Try.prog 10 [.c (.p 0 X0b 0), .g (flat [.c (.v (.int .i64 c_0)), .c (.v (.int .i64 c_1))])] [⟨0, X0b, X0ty, false, (0, 0), (.v undef), flat [.c (.s 1 X1b X1o f_0.length X1c), .c (.v (.int .i64 f_1)), .c (.v (.int .i64 f_2)), .c (.v (.bool f_3)), .c (.v (.int .i64 f_4)), .c (.v (.int .i64 f_5))]⟩] [⟨1, X1b, X1ty, true, X1fr, (.v undef), flat [.r X1pr, .i .u8 f_0, .r X1ps]⟩] (fun v u nw => v = .t0 ∧ u = [flat [.c (.s i1 X1b X1o f_0.length X1c), .c (.v (.int .i64 x9001)), .c (.v (.int .i64 c_1)), .c (.v (.bool f_3)), .c (.v (.int .i64 f_4)), .c (.v (.int .i64 f_5))]] ∧ nw = []) := by
  unfold fn_flash_Flash_Plan at h
  refine d_fn (i := ir_flash_Flash_Plan) (fn := Try.f10) (sl0 := [(0, .c (.p 0 X0b 0)), (1, .g (flat [.c (.v (.int .i64 c_0)), .c (.v (.int .i64 c_1))]))]) (hp0 := [⟨0, X0b, X0ty, false, (0, 0), (.v undef), flat [.c (.s 1 X1b X1o f_0.length X1c), .c (.v (.int .i64 f_1)), .c (.v (.int .i64 f_2)), .c (.v (.bool f_3)), .c (.v (.int .i64 f_4)), .c (.v (.int .i64 f_5))]⟩, ⟨1, X1b, X1ty, true, X1fr, (.v undef), flat [.r X1pr, .i .u8 f_0, .r X1ps]⟩]) (by kernel_rfl) low_flash_Flash_Plan mo rfl rfl rfl fun F z0 => ?_
  dsimp only [ir_flash_Flash_Plan]
  refine wpC_seq ?_
  refine d_reg rfl ?_
  refine d_box rfl (fun _ => trivial) rfl fun kb1 kz2 => ?_
  refine wpI_nil ?_
  refine seqK_n ?_
  refine d_reg rfl ?_
  refine wpI_s rfl trivial ?_
  refine wpI_s rfl trivial ?_
  refine d_ldc 0 rfl rfl rfl rfl rfl ?_
  refine d_n rfl trivial h fun x3 h => ?_
  refine wpI_s rfl trivial ?_
  refine d_ldc 1 rfl rfl rfl rfl rfl ?_
  refine d_bldg (g := [.c (.v (.int .i64 x3)), .c (.v (.int .i64 c_1))]) (g0 := [.c (.v (.int .i64 0)), .c (.v (.int .i64 0))]) (by rfl) (fill_c 0 rfl rfl rfl rfl rfl (fill_c 1 rfl rfl rfl rfl rfl rfl)) ?_
  refine wpI_s rfl trivial ?_
  refine wpI_s rfl trivial ?_
  refine d_sta 1 rfl rfl rfl rfl rfl rfl rfl rfl rfl trivial ?_
  refine wpI_nil ?_
  obtain rfl := Option.some.inj h
  exact d_ret2n [0] [] ⟨rfl, rfl, rfl⟩ rfl (leH2_c rfl rfl rfl rfl rfl rfl leH2_n) leH2_n rfl
 exact key.cong rfl (blkEq_c rfl rfl rfl rfl blkEq_n) (blkEq_c rfl rfl rfl rfl blkEq_n)

def ir_flash_Flash_Start : IFn := ⟨9, (.seq (.reg [] (.cons ⟨none, (.s 2 (.mv (.t 0)))⟩ (.cons ⟨none, (.s 3 (.nil (.t 2)))⟩ (.cons ⟨none, (.s 4 (.fa 3 (.t 3)))⟩ (.cons ⟨none, (.w none (.st (.t 4) (.k (.bool false))))⟩ .nil))))) (.reg [] (.cons ⟨none, (.s 5 (.mv (.t 0)))⟩ (.cons ⟨none, (.s 6 (.bld [(.int .i64 0), (.int .i64 0)] [(0, (1, (.k (.int .i64 (-1)))))]))⟩ (.cons ⟨none, (.s 7 (.nil (.t 5)))⟩ (.cons ⟨none, (.s 8 (.fa 1 (.t 7)))⟩ (.cons ⟨none, (.w none (.sta 2 (.t 8) (.t 6)))⟩ .nil))))))), []⟩
theorem low_flash_Flash_Start : lowF Try.prog Try.f11 = some ir_flash_Flash_Start.strip := by kernel_rfl
theorem ok_flash_Flash_Start {fu : Nat} (i0 : Nat) (i1 : Nat) {X0b : Nat} {X0ty : Nat} {X1b : Nat} {X1ty : Nat} {X1pr : List C} {X1ps : List C} {X1o : Nat} {X1c : Nat} {X1n : Nat} {X1fr : Nat × Nat} {f_0 : List Int} {f_1 : Int} {f_2 : Int} {f_3 : Bool} {f_4 : Int} {f_5 : Int} (X1l : X1n = f_0.length) (X1S : 0 < X1n → X1pr.length = X1o) (X1C : X1n ≤ X1c) {r : Unit} (h : fn_flash_Flash_Start fu f_0 f_1 f_2 f_3 f_4 f_5 = some r) :
  EV.Fn Try.prog 11 [.c (.p 0 X0b 0)] [⟨i0, X0b, X0ty, false, (0, 0), (.v undef), flat [.c (.s i1 X1b X1o X1n X1c), .c (.v (.int .i64 f_1)), .c (.v (.int .i64 f_2)), .c (.v (.bool f_3)), .c (.v (.int .i64 f_4)), .c (.v (.int .i64 f_5))]⟩] [⟨i1, X1b, X1ty, true, X1fr, (.v undef), flat [.r X1pr, .i .u8 f_0, .r X1ps]⟩] (fun v u nw => v = .t0 ∧ u = [flat [.c (.s i1 X1b X1o X1n X1c), .c (.v (.int .i64 (-1))), .c (.v (.int .i64 0)), .c (.v (.bool false)), .c (.v (.int .i64 f_4)), .c (.v (.int .i64 f_5))]] ∧ nw = []) := by
 subst X1l
 have key : EV.Fn Try.prog 11 [.c (.p 0 X0b 0)] [⟨0, X0b, X0ty, false, (0, 0), (.v undef), flat [.c (.s 1 X1b X1o f_0.length X1c), .c (.v (.int .i64 f_1)), .c (.v (.int .i64 f_2)), .c (.v (.bool f_3)), .c (.v (.int .i64 f_4)), .c (.v (.int .i64 f_5))]⟩] [⟨1, X1b, X1ty, true, X1fr, (.v undef), flat [.r X1pr, .i .u8 f_0, .r X1ps]⟩] (fun v u nw => v = .t0 ∧ u = [flat [.c (.s i1 X1b X1o f_0.length X1c), .c (.v (.int .i64 (-1))), .c (.v (.int .i64 0)), .c (.v (.bool false)), .c (.v (.int .i64 f_4)), .c (.v (.int .i64 f_5))]] ∧ nw = []) := by
  unfold fn_flash_Flash_Start at h
  refine d_fn (i := ir_flash_Flash_Start) (fn := Try.f11) (sl0 := [(0, .c (.p 0 X0b 0))]) (hp0 := [⟨0, X0b, X0ty, false, (0, 0), (.v undef), flat [.c (.s 1 X1b X1o f_0.length X1c), .c (.v (.int .i64 f_1)), .c (.v (.int .i64 f_2)), .c (.v (.bool f_3)), .c (.v (.int .i64 f_4)), .c (.v (.int .i64 f_5))]⟩, ⟨1, X1b, X1ty, true, X1fr, (.v undef), flat [.r X1pr, .i .u8 f_0, .r X1ps]⟩]) (by kernel_rfl) low_flash_Flash_Start mo rfl rfl rfl fun F z0 => ?_
  dsimp only [ir_flash_Flash_Start]
  refine wpC_seq ?_
  refine d_reg rfl ?_
  refine wpI_s rfl trivial ?_
  refine wpI_s rfl trivial ?_
  refine wpI_s rfl trivial ?_
  refine d_stc 3 rfl rfl rfl rfl rfl rfl rfl rfl trivial ?_
  refine wpI_nil ?_
  refine seqK_n ?_
  refine d_reg rfl ?_
  refine wpI_s rfl trivial ?_
  refine d_bldg (g := [.c (.v (.int .i64 (-1))), .c (.v (.int .i64 0))]) (g0 := [.c (.v (.int .i64 0)), .c (.v (.int .i64 0))]) (by rfl) (fill_c 0 rfl rfl rfl rfl rfl rfl) ?_
  refine wpI_s rfl trivial ?_
  refine wpI_s rfl trivial ?_
  refine d_sta 1 rfl rfl rfl rfl rfl rfl rfl rfl rfl trivial ?_
  refine wpI_nil ?_
  clear h
  exact d_ret2n [0] [] ⟨rfl, rfl, rfl⟩ rfl (leH2_c rfl rfl rfl rfl rfl rfl leH2_n) leH2_n rfl
 exact key.cong rfl (blkEq_c rfl rfl rfl rfl blkEq_n) (blkEq_c rfl rfl rfl rfl blkEq_n)

def ir_image_may : IFn := ⟨19, (.seq (.reg [] (.cons ⟨none, (.s 4 (.mv (.k (.bool false))))⟩ .nil)) (.seqJ (.reg [] (.cons ⟨none, (.s 5 (.mv (.t 0)))⟩ (.cons ⟨none, (.s 6 (.bin .geq (.t 5) (.k (.int .i64 0))))⟩ (.cons ⟨none, (.s 7 (.mv (.t 6)))⟩ (.cons ⟨(some (7, true)), (.s 8 (.mv (.t 0)))⟩ (.cons ⟨(some (7, true)), (.s 9 (.bin .leq (.t 8) (.k (.int .i64 2147483647))))⟩ (.cons ⟨none, (.s 10 (.pick (.t 7) (.t 9) (.k (.bool false))))⟩ (.cons ⟨none, (.s 11 (.mv (.t 10)))⟩ (.cons ⟨(some (11, true)), (.s 12 (.mv (.t 1)))⟩ (.cons ⟨(some (11, true)), (.s 13 (.bin .geq (.t 12) (.k (.int .i64 0))))⟩ (.cons ⟨none, (.s 14 (.pick (.t 11) (.t 13) (.k (.bool false))))⟩ (.cons ⟨none, (.s 15 (.mv (.t 14)))⟩ (.cons ⟨(some (15, true)), (.s 16 (.mv (.t 1)))⟩ (.cons ⟨(some (15, true)), (.s 17 (.bin .lss (.t 16) (.k (.int .i64 32))))⟩ (.cons ⟨none, (.s 18 (.pick (.t 15) (.t 17) (.k (.bool false))))⟩ (.cons ⟨none, (.s 4 (.mv (.t 18)))⟩ .nil)))))))))))))))) .ret)), [(.tmp 4)]⟩
theorem low_image_may : lowF Try.prog Try.f34 = some ir_image_may.strip := by kernel_rfl
theorem ok_image_may {fu : Nat} {version_ : Int} {i_ : Int} {t9001 : Bool} (h : fn_image_may fu version_ i_ = some t9001) :
  EV.Fn Try.prog 34 [ib .i64 version_, ib .i64 i_] [] [] (fun v u nw => v = bb t9001 ∧ u = [] ∧ nw = []) := by
 have key : EV.Fn Try.prog 34 [ib .i64 version_, ib .i64 i_] [] [] (fun v u nw => v = bb t9001 ∧ u = [] ∧ nw = []) := by
  unfold fn_image_may at h
  refine d_fn (i := ir_image_may) (fn := Try.f34) (sl0 := [(0, ib .i64 version_), (1, ib .i64 i_)]) (hp0 := []) (by kernel_rfl) low_image_may mo rfl rfl rfl fun F z0 => ?_
  dsimp only [ir_image_may]
  refine wpC_seq ?_
  refine d_reg rfl ?_
  refine wpI_s rfl trivial ?_
  refine wpI_nil ?_
  refine seqK_n ?_
  refine bind_e h fun o3 h hko3 => ?_
  refine d_join (fun (z : Bool × Nat) => (match z with | (t1, kz2) => ⟨[(4, bb t1)], [], 100, kz2⟩ : St)) (fun (z : Bool × Nat) => match z with | (t1, kz2) => (True) ∧ t1 = o3) ?_ ?_
  ·refine d_reg rfl ?_
   refine wpI_s rfl trivial ?_
   refine d_b rfl trivial h fun t4 h => ?_
   refine wpI_s rfl trivial ?_
   refine d_guard rfl h (fun h => ?_) (fun h => ?_)
   ·refine wpI_s rfl trivial ?_
    refine d_guardT rfl ?_
    refine d_b rfl trivial h fun t5 h => ?_
    refine d_pickT rfl rfl rfl ?_
    refine wpI_s rfl trivial ?_
    refine d_guard rfl h (fun h => ?_) (fun h => ?_)
    ·refine wpI_s rfl trivial ?_
     refine d_guardT rfl ?_
     refine d_b rfl trivial h fun t6 h => ?_
     refine d_pickT rfl rfl rfl ?_
     refine wpI_s rfl trivial ?_
     refine d_guard rfl h (fun h => ?_) (fun h => ?_)
     ·refine wpI_s rfl trivial ?_
      refine d_guardT rfl ?_
      refine d_b rfl trivial h fun t7 h => ?_
      refine d_pickT rfl rfl rfl ?_
      refine wpI_s rfl trivial ?_
      refine wpI_nil ?_
      refine jnK_n (t7, z0) [] ⟨trivial, Option.some.inj h⟩ (leS2_c rfl rfl leS2_n) leH2_n rfl rfl
     ·refine d_guardF rfl rfl ?_
      refine d_pickF rfl rfl rfl ?_
      refine wpI_s rfl trivial ?_
      refine wpI_nil ?_
      refine jnK_n (false, z0) [] ⟨trivial, Option.some.inj h⟩ (leS2_c rfl rfl leS2_n) leH2_n rfl rfl
    ·refine d_guardF rfl rfl ?_
     refine d_pickF rfl rfl rfl ?_
     refine wpI_s rfl trivial ?_
     refine d_guardF rfl rfl ?_
     refine d_guardF rfl rfl ?_
     refine d_pickF rfl rfl rfl ?_
     refine wpI_s rfl trivial ?_
     refine wpI_nil ?_
     refine jnK_n (false, z0) [] ⟨trivial, Option.some.inj h⟩ (leS2_c rfl rfl leS2_n) leH2_n rfl rfl
   ·refine d_guardF rfl rfl ?_
    refine d_pickF rfl rfl rfl ?_
    refine wpI_s rfl trivial ?_
    refine d_guardF rfl rfl ?_
    refine d_guardF rfl rfl ?_
    refine d_pickF rfl rfl rfl ?_
    refine wpI_s rfl trivial ?_
    refine d_guardF rfl rfl ?_
    refine d_guardF rfl rfl ?_
    refine d_pickF rfl rfl rfl ?_
    refine wpI_s rfl trivial ?_
    refine wpI_nil ?_
    refine jnK_n (false, z0) [] ⟨trivial, Option.some.inj h⟩ (leS2_c rfl rfl leS2_n) leH2_n rfl rfl
  ·rintro ⟨t1, kz2⟩ ⟨_, rfl⟩
   show wpC _ _ _ _ _ (St.mk _ _ _ _)
   have h := hko3; clear hko3; try dsimp only at h
   refine wpC_ret ?_
   obtain rfl := Option.some.inj h
   exact d_ret2 [] [] ⟨rfl, rfl, rfl⟩ (rIs_t rfl rfl) leH2_n leH2_n rfl
 exact key.cong rfl blkEq_n blkEq_n

def ir_pack_Int : IFn := ⟨34, (.seq (.reg [] (.cons ⟨none, (.s 4 (.mv (.k (.slice none 0 0))))⟩ .nil)) (.seq (.reg [] (.cons ⟨none, (.s 10 (.mv (.t 0)))⟩ (.cons ⟨none, (.call (some 11) 33 [(.t 10)])⟩ (.cons ⟨none, (.s 5 (.mv (.t 11)))⟩ .nil)))) (.seq (.seq (.reg [] (.cons ⟨none, (.s 12 (.mv (.t 1)))⟩ (.cons ⟨none, (.s 13 (.len (.t 12)))⟩ (.cons ⟨none, (.s 14 (.mv (.k (.int .i64 0))))⟩ .nil)))) (.block 0 (.loop (.seq (.reg [] (.cons ⟨none, (.s 15 (.bin .lss (.t 14) (.t 13)))⟩ .nil)) (.seq (.cond (.t 15) .skip (.exit 0)) (.seq (.block 1 (.seq (.reg [] (.cons ⟨none, (.s 16 (.is 1 (.t 12) (.t 14)))⟩ (.cons ⟨none, (.r 17 (.ld (.int .i64 0) (.t 16)))⟩ (.cons ⟨none, (.s 7 (.mv (.t 17)))⟩ .nil)))) (.seq (.reg [] (.cons ⟨none, (.s 18 (.mv (.t 7)))⟩ (.cons ⟨none, (.s 19 (.cv .u64 (.t 18)))⟩ (.cons ⟨none, (.s 8 (.mv (.t 19)))⟩ .nil)))) (.seq (.reg [] (.cons ⟨none, (.s 9 (.mv (.k (.int .i64 7))))⟩ .nil)) (.block 2 (.loop (.seq (.seq (.reg [] (.cons ⟨none, (.s 20 (.mv (.t 9)))⟩ (.cons ⟨none, (.s 21 (.bin .geq (.t 20) (.k (.int .i64 0))))⟩ .nil))) (.cond (.t 21) .skip (.exit 2))) (.seq (.block 3 (.reg [] (.cons ⟨none, (.s 24 (.mv (.t 5)))⟩ (.cons ⟨none, (.s 25 (.mv (.t 8)))⟩ (.cons ⟨none, (.s 26 (.mv (.t 9)))⟩ (.cons ⟨none, (.s 27 (.bin .mul (.k (.int .i64 8)) (.t 26)))⟩ (.cons ⟨none, (.s 28 (.bin .shr (.t 25) (.t 27)))⟩ (.cons ⟨none, (.s 29 (.cv .u8 (.t 28)))⟩ (.cons ⟨none, (.w (some 30) (.bsl 5 (.int .u8 0) [(.int .u8 0)] 1 [(0, (1, (.t 29)))]))⟩ (.cons ⟨none, (.app (some 31) 5 1 (.int .u8 0) (.t 24) (.t 30))⟩ (.cons ⟨none, (.s 5 (.mv (.t 31)))⟩ .nil))))))))))) (.reg [] (.cons ⟨none, (.s 22 (.mv (.t 9)))⟩ (.cons ⟨none, (.s 23 (.bin .sub (.t 22) (.k (.int .i64 1))))⟩ (.cons ⟨none, (.s 9 (.mv (.t 23)))⟩ .nil)))))))))))) (.reg [] (.cons ⟨none, (.s 32 (.bin .add (.t 14) (.k (.int .i64 1))))⟩ (.cons ⟨none, (.s 14 (.mv (.t 32)))⟩ .nil))))))))) (.seq (.reg [] (.cons ⟨none, (.s 33 (.mv (.t 5)))⟩ (.cons ⟨none, (.s 4 (.mv (.t 33)))⟩ .nil))) .ret)))), [(.tmp 4)]⟩
theorem low_pack_Int : lowF Try.prog Try.f37 = some ir_pack_Int.strip := by kernel_rfl
theorem ok_pack_Int {fu : Nat} (i0 : Nat) (i1 : Nat) (n0 : Nat) {X0b : Nat} {X0ty : Nat} {X0pr : List C} {X0ps : List C} {X0o : Nat} {X0c : Nat} {X0n : Nat} {X1b : Nat} {X1ty : Nat} {X1pr : List C} {X1ps : List C} {X1o : Nat} {X1c : Nat} {X1n : Nat} {X0fr : Nat × Nat} {X1fr : Nat × Nat} {b_ : List Int} {n_ : List Int} (X0l : X0n = b_.length) (X0S : 0 < X0n → X0pr.length = X0o) (X0C : X0n ≤ X0c) (X1l : X1n = n_.length) (X1S : 0 < X1n → X1pr.length = X1o) (X1C : X1n ≤ X1c) {l9004 : List Int} (h : fn_pack_Int fu b_ n_ = some l9004) :
  EV.Fn Try.prog 37 [.c (.s 0 X0b X0o X0n X0c), .c (.s 1 X1b X1o X1n X1c)] [] [⟨i0, X0b, X0ty, true, X0fr, (.v undef), flat [.r X0pr, .i .u8 b_, .r X0ps]⟩, ⟨i1, X1b, X1ty, true, X1fr, (.v undef), flat [.r X1pr, .i .i64 n_, .r X1ps]⟩] (fun v u nw => ∃ (kn9001 : Nat) (kn9002 : Nat) (kw9003 : List C) (kw9005 : List C) (kn9006 : Nat) (kn9007 : Nat), v = .c (.s n0 kn9001 kn9006 l9004.length kn9007) ∧ u = [] ∧ nw = [⟨n0, kn9001, kn9002, false, (0, 0), .v undef, flat [.r kw9003, .i .u8 l9004, .r kw9005]⟩] ∧ (kw9003.length = kn9006) ∧ (kn9007 ≤ l9004.length + kw9005.length) ∧ (l9004.length ≤ kn9007)) := by
 subst X0l
 subst X1l
 have key : EV.Fn Try.prog 37 [.c (.s 0 X0b X0o b_.length X0c), .c (.s 1 X1b X1o n_.length X1c)] [] [⟨0, X0b, X0ty, true, X0fr, (.v undef), flat [.r X0pr, .i .u8 b_, .r X0ps]⟩, ⟨1, X1b, X1ty, true, X1fr, (.v undef), flat [.r X1pr, .i .i64 n_, .r X1ps]⟩] (fun v u nw => ∃ (kn9001 : Nat) (kn9002 : Nat) (kw9003 : List C) (kw9005 : List C) (kn9006 : Nat) (kn9007 : Nat), v = .c (.s n0 kn9001 kn9006 l9004.length kn9007) ∧ u = [] ∧ nw = [⟨n0, kn9001, kn9002, false, (0, 0), .v undef, flat [.r kw9003, .i .u8 l9004, .r kw9005]⟩] ∧ (kw9003.length = kn9006) ∧ (kn9007 ≤ l9004.length + kw9005.length) ∧ (l9004.length ≤ kn9007)) := by
  unfold fn_pack_Int at h
  refine d_fn (i := ir_pack_Int) (fn := Try.f37) (sl0 := [(0, .c (.s 0 X0b X0o b_.length X0c)), (1, .c (.s 1 X1b X1o n_.length X1c))]) (hp0 := [⟨0, X0b, X0ty, true, X0fr, (.v undef), flat [.r X0pr, .i .u8 b_, .r X0ps]⟩, ⟨1, X1b, X1ty, true, X1fr, (.v undef), flat [.r X1pr, .i .i64 n_, .r X1ps]⟩]) (by kernel_rfl) low_pack_Int mo rfl rfl rfl fun F z0 => ?_
  dsimp only [ir_pack_Int]
  refine wpC_seq ?_
  refine d_reg rfl ?_
  refine wpI_s rfl trivial ?_
  refine wpI_nil ?_
  refine seqK_n ?_
  refine wpC_seq ?_
  refine d_reg rfl ?_
  refine wpI_s rfl trivial ?_
  refine bind_e h fun l3 ho2 h => ?_
  refine d_call (ok_bytes_Clone (i0 := 0) (n0 := 1001) (X0b := X0b) (X0ty := X0ty) (X0pr := X0pr) (X0ps := X0ps) (X0o := X0o) (X0c := X0c) (X0n := b_.length) (X0l := rfl) (X0S := X0S) (X0C := X0C) (h := ho2)) rfl rfl haveRw_n (haveRo_c rfl rfl haveRo_n) (own_of rfl) ?_
  rintro _ _ _ kz13 ⟨k4, k5, k6, k7, k8, k9, rfl, rfl, rfl, h10, h11, h12⟩
  refine ⟨_, rfl, trivial, ?_⟩
  refine wpI_s rfl trivial ?_
  refine wpI_nil ?_
  refine seqK_n ?_
  refine wpC_seq ?_
  refine wpC_seq ?_
  refine d_reg rfl ?_
  refine wpI_s rfl trivial ?_
  refine wpI_s rfl trivial ?_
  refine wpI_s rfl trivial ?_
  refine wpI_nil ?_
  refine seqK_n ?_
  refine wpC_block ?_
  refine bind_e h fun o37 h hko37 => ?_
  refine d_loop (fun (z : List Int × Int × Nat × Nat × List C × List C × Nat × Nat × Nat) => match z with | (l17, x24, kn14, kn15, kw16, kw18, kn19, kn20, kz25) => (l17, x24)) (fun (z : List Int × Int × Nat × Nat × List C × List C × Nat × Nat × Nat) => (match z with | (l17, x24, kn14, kn15, kw16, kw18, kn19, kn20, kz25) => ⟨[(5, .c (.s 1001 kn14 kn19 l17.length kn20)), (12, .c (.s 1 X1b X1o n_.length X1c)), (13, ib .i64 ((n_.length : Nat) : Int)), (14, ib .i64 x24)], [⟨1001, kn14, kn15, false, (0, 0), (.v (.int .u8 0)), flat [.r kw16, .i .u8 l17, .r kw18]⟩, ⟨1, X1b, X1ty, true, X1fr, (.v undef), flat [.r X1pr, .i .i64 n_, .r X1ps]⟩], 100, kz25⟩ : St)) (fun (z : List Int × Int × Nat × Nat × List C × List C × Nat × Nat × Nat) => match z with | (l17, x24, kn14, kn15, kw16, kw18, kn19, kn20, kz25) => (kw16.length = kn19) ∧ (kn20 ≤ l17.length + kw18.length) ∧ (l17.length ≤ kn20)) (l3, 0, k4, k5, k6, k7, k8, k9, kz13) [1001, 1] h ⟨h10, h11, h12⟩ (leS2_c rfl rfl (leS2_c rfl rfl (leS2_c rfl rfl (leS2_c rfl rfl leS2_n)))) (leH2_c rfl rfl rfl rfl rfl rfl (leH2_c rfl rfl rfl rfl rfl rfl leH2_n)) rfl rfl ?_
  rintro rec ⟨l17, x24, kn14, kn15, kw16, kw18, kn19, kn20, kz25⟩ ⟨h21, h22, h23⟩ h
  show wpC _ _ _ _ _ (St.mk _ _ _ _)
  unfold fn_pack_Int_l2 at h; try dsimp only at h
  refine wpC_seq ?_
  refine d_reg rfl ?_
  refine d_b rfl trivial h fun t38 h => ?_
  refine wpI_nil ?_
  refine seqK_n ?_
  refine wpC_seq ?_
  refine d_cond rfl h (fun h => ?_) (fun h => ?_)
  ·refine wpC_skip ?_
   refine seqK_n ?_
   refine wpC_seq ?_
   refine wpC_block ?_
   refine wpC_seq ?_
   refine d_reg rfl ?_
   refine gd_e h fun g39 h => ?_
   refine wpI_s rfl g39 ?_
   refine d_ld 1 (q := x24.toNat) rfl rfl rfl h (sl_offP0 (i := x24) rfl X1S g39) fun x40 h => ?_
   refine wpI_s rfl trivial ?_
   refine wpI_nil ?_
   refine seqK_n ?_
   refine wpC_seq ?_
   refine d_reg rfl ?_
   refine wpI_s rfl trivial ?_
   refine d_n rfl trivial h fun x41 h => ?_
   refine wpI_s rfl trivial ?_
   refine wpI_nil ?_
   refine seqK_n ?_
   refine wpC_seq ?_
   refine d_reg rfl ?_
   refine wpI_s rfl trivial ?_
   refine wpI_nil ?_
   refine seqK_n ?_
   refine wpC_block ?_
   refine bind_e h fun o65 h hko65 => ?_
   refine d_loop (fun (z : List Int × Int × Nat × Nat × List C × List C × Nat × Nat × Nat) => match z with | (l45, x52, kn42, kn43, kw44, kw46, kn47, kn48, kz53) => (l45, x52)) (fun (z : List Int × Int × Nat × Nat × List C × List C × Nat × Nat × Nat) => (match z with | (l45, x52, kn42, kn43, kw44, kw46, kn47, kn48, kz53) => ⟨[(5, .c (.s 1001 kn42 kn47 l45.length kn48)), (8, ib .u64 x41), (9, ib .i64 x52), (12, .c (.s 1 X1b X1o n_.length X1c)), (13, ib .i64 ((n_.length : Nat) : Int)), (14, ib .i64 x24)], [⟨1001, kn42, kn43, false, (0, 0), (.v (.int .u8 0)), flat [.r kw44, .i .u8 l45, .r kw46]⟩, ⟨1, X1b, X1ty, true, X1fr, (.v undef), flat [.r X1pr, .i .i64 n_, .r X1ps]⟩], 100, kz53⟩ : St)) (fun (z : List Int × Int × Nat × Nat × List C × List C × Nat × Nat × Nat) => match z with | (l45, x52, kn42, kn43, kw44, kw46, kn47, kn48, kz53) => (kw44.length = kn47) ∧ (kn48 ≤ l45.length + kw46.length) ∧ (l45.length ≤ kn48)) (l17, 7, kn14, kn15, kw16, kw18, kn19, kn20, kz25) [1001, 1] h ⟨h21, h22, h23⟩ (leS2_c rfl rfl (leS2_c rfl rfl (leS2_c rfl rfl (leS2_c rfl rfl (leS2_c rfl rfl (leS2_c rfl rfl leS2_n)))))) (leH2_c rfl rfl rfl rfl rfl rfl (leH2_c rfl rfl rfl rfl rfl rfl leH2_n)) rfl rfl ?_
   rintro rec ⟨l45, x52, kn42, kn43, kw44, kw46, kn47, kn48, kz53⟩ ⟨h49, h50, h51⟩ h
   show wpC _ _ _ _ _ (St.mk _ _ _ _)
   unfold fn_pack_Int_l1 at h; try dsimp only at h
   refine wpC_seq ?_
   refine wpC_seq ?_
   refine d_reg rfl ?_
   refine wpI_s rfl trivial ?_
   refine d_b rfl trivial h fun t66 h => ?_
   refine wpI_nil ?_
   refine seqK_n ?_
   refine d_cond rfl h (fun h => ?_) (fun h => ?_)
   ·refine wpC_skip ?_
    refine seqK_n ?_
    refine wpC_seq ?_
    refine wpC_block ?_
    refine d_reg rfl ?_
    refine wpI_s rfl trivial ?_
    refine wpI_s rfl trivial ?_
    refine wpI_s rfl trivial ?_
    refine d_n rfl trivial h fun x67 h => ?_
    refine gd_e h fun g68 h => ?_
    refine d_n rfl g68 h fun x69 h => ?_
    refine d_n rfl trivial h fun x70 h => ?_
    refine d_bsl (g := [.r [], .i .u8 [x70], .r []]) (by rfl) (fun _ => trivial) fun kb71 kz72 => ?_
    refine gd_e h fun g73 h => ?_
    refine d_appo rfl rfl rfl rfl h49 h50 h (fun w hw => Src.of_eq (src_slice (j2 := 1) (p2 := 0) (q2 := 0) hw rfl rfl rfl (hs_zero (fun _ => rfl)) (by rw [Nat.zero_add]; exact (Nat.le_refl _))) (sub_full rfl)) g73 rfl rfl fun l74 kb75 ko76 kc77 kt78 kp79 kq80 kz81 h82 h83 h84 h => ?_
    refine wpI_s rfl trivial ?_
    refine wpI_nil ?_
    refine blockK_n ?_
    refine seqK_n ?_
    refine d_reg rfl ?_
    refine wpI_s rfl trivial ?_
    refine d_n rfl trivial h fun x85 h => ?_
    refine wpI_s rfl trivial ?_
    refine wpI_nil ?_
    refine lpK_n (l74, x85, kb75, kt78, kp79, kq80, ko76, kc77, kz81) [101, 1] ⟨h82, h83, h84⟩ h (leS2_c rfl rfl (leS2_c rfl rfl (leS2_c rfl rfl (leS2_c rfl rfl (leS2_c rfl rfl (leS2_c rfl rfl leS2_n)))))) (leH2_c rfl rfl rfl rfl rfl rfl (leH2_c rfl rfl rfl rfl rfl rfl leH2_n)) rfl rfl
   ·refine wpC_exit ?_
    refine seqK_x ?_
    obtain rfl := Option.some.inj h
    have h := hko65; clear hko65; try dsimp only at h
    refine lpK_x ?_
    refine blockK_x ?_
    refine blockK_n ?_
    refine seqK_n ?_
    refine d_reg rfl ?_
    refine d_n rfl trivial h fun x86 h => ?_
    refine wpI_s rfl trivial ?_
    refine wpI_nil ?_
    refine lpK_n (l45, x86, kn42, kn43, kw44, kw46, kn47, kn48, kz53) [1001, 1] ⟨h49, h50, h51⟩ h (leS2_c rfl rfl (leS2_c rfl rfl (leS2_c rfl rfl (leS2_c rfl rfl leS2_n)))) (leH2_c rfl rfl rfl rfl rfl rfl (leH2_c rfl rfl rfl rfl rfl rfl leH2_n)) rfl rfl
  ·refine wpC_exit ?_
   refine seqK_x ?_
   obtain rfl := Option.some.inj h
   have h := hko37; clear hko37; try dsimp only at h
   refine lpK_x ?_
   refine blockK_x ?_
   refine seqK_n ?_
   refine wpC_seq ?_
   refine d_reg rfl ?_
   refine wpI_s rfl trivial ?_
   refine wpI_s rfl trivial ?_
   refine wpI_nil ?_
   refine seqK_n ?_
   refine wpC_ret ?_
   obtain rfl := Option.some.inj h
   exact d_ret2 [] [1001] ⟨kn14, kn15, kw16, kw18, kn19, kn20, rfl, rfl, rfl, h21, h22, h23⟩ (rIs_t rfl rfl) leH2_n (leH2_c rfl rfl rfl rfl rfl rfl leH2_n) rfl
 exact key.cong rfl blkEq_n (blkEq_c rfl rfl rfl rfl (blkEq_c rfl rfl rfl rfl blkEq_n))

def ir_image_nonce : IFn := ⟨9, (.seq (.reg [] (.cons ⟨none, (.w (some 2) (.alo 46 (.int .u8 0) (List.replicate 12 (.int .u8 0))))⟩ .nil)) (.seq (.reg [] (.cons ⟨none, (.w (some 3) (.mks 5 1 (.int .u8 0) (.k (.int .i64 4)) (.k (.int .i64 4))))⟩ (.cons ⟨none, (.s 4 (.mv (.t 0)))⟩ (.cons ⟨none, (.w (some 5) (.bsl 3 (.int .i64 0) [(.int .i64 0)] 1 [(0, (1, (.t 4)))]))⟩ (.cons ⟨none, (.call (some 6) 37 [(.t 3), (.t 5)])⟩ (.cons ⟨none, (.s 7 (.sap 12 (.t 6)))⟩ (.cons ⟨none, (.r 8 (.lda 12 (.t 7)))⟩ (.cons ⟨none, (.w none (.sta 12 (.t 2) (.t 8)))⟩ .nil)))))))) .ret)), [(.cell true 12 (.bool false) 2)]⟩
theorem low_image_nonce : lowF Try.prog Try.f36 = some ir_image_nonce.strip := by kernel_rfl
theorem ok_image_nonce {fu : Nat} {i_ : Int} {l9001 : List Int} (h : fn_image_nonce fu i_ = some l9001) :
  EV.Fn Try.prog 36 [ib .i64 i_] [] [] (fun v u nw => v = .g (flat [.i .u8 l9001]) ∧ u = [] ∧ nw = [] ∧ (l9001.length = 12)) := by
 have key : EV.Fn Try.prog 36 [ib .i64 i_] [] [] (fun v u nw => v = .g (flat [.i .u8 l9001]) ∧ u = [] ∧ nw = [] ∧ (l9001.length = 12)) := by
  unfold fn_image_nonce at h
  refine d_fn (i := ir_image_nonce) (fn := Try.f36) (sl0 := [(0, ib .i64 i_)]) (hp0 := []) (by kernel_rfl) low_image_nonce mo rfl rfl rfl fun F z0 => ?_
  dsimp only [ir_image_nonce]
  refine wpC_seq ?_
  refine d_reg rfl ?_
  refine d_alo (g := [.i .u8 (List.replicate 12 0)]) (zeros_flat _ _ _) (fun _ => trivial) fun kb1 kz2 => ?_
  refine wpI_nil ?_
  refine seqK_n ?_
  refine wpC_seq ?_
  refine d_reg rfl ?_
  refine d_mksw rfl rfl (by decide) (fun _ => trivial) fun kb3 kz4 => ?_
  refine wpI_s rfl trivial ?_
  refine d_bsl (g := [.r [], .i .i64 [i_], .r []]) (by rfl) (fun _ => trivial) fun kb5 kz6 => ?_
  refine bind_e h fun l9 ho8 h => ?_
  refine d_call (ok_pack_Int (i0 := 101) (i1 := 102) (n0 := 1001) (X0b := kb3) (X0ty := 5) (X0pr := []) (X0ps := []) (X0o := 0) (X0c := 4) (X0n := 4) (X1b := kb5) (X1ty := 3) (X1pr := []) (X1ps := []) (X1o := 0) (X1c := 1) (X1n := 1) (X0l := (List.length_replicate).symm) (X0S := (fun _ => rfl)) (X0C := (Nat.le_refl _)) (X1l := (rfl).symm) (X1S := (fun _ => rfl)) (X1C := (Nat.le_refl _)) (h := ho8)) rfl rfl haveRw_n (haveRo_c rfl rfl (haveRo_c rfl rfl haveRo_n)) (own_of rfl) ?_
  rintro _ _ _ kz19 ⟨k10, k11, k12, k13, k14, k15, rfl, rfl, rfl, h16, h17, h18⟩
  refine ⟨_, rfl, trivial, ?_⟩
  refine gd_e h fun g20 h => ?_
  refine wpI_s rfl g20 ?_
  have hp_l21 : k12.length = k14 := by have := (fun _ => h16) (Nat.lt_of_lt_of_le (show 0 < 12 by decide) g20); omega
  have hq_l21 : 0 + 12 ≤ l9.length := by have := (show 12 ≤ l9.length from g20); omega
  refine d_ldas 1 (q := 0) rfl rfl rfl (by first | exact hp_l21 | (have e : sgPos _ _ = k12.length := rfl; rw [e]; exact hp_l21)) (by exact hq_l21) h fun l21 h22 h => ?_
  refine d_sta 0 rfl rfl rfl rfl rfl (by simp only [flen, h22]) (by simp only [flen, List.length_replicate]) rfl rfl trivial ?_
  refine wpI_nil ?_
  refine seqK_n ?_
  refine wpC_ret ?_
  obtain rfl := Option.some.inj h
  exact d_ret2 [] [] ⟨rfl, rfl, rfl, h22⟩ (rIs_a 0 1 rfl rfl rfl rfl (by simp only [flen, h22])) leH2_n leH2_n rfl
 exact key.cong rfl blkEq_n blkEq_n

def ir_bytes_Clone_2 : IFn := ⟨8, (.seq (.reg [] (.cons ⟨none, (.s 2 (.mv (.k (.slice none 0 0))))⟩ .nil)) (.seq (.seq (.reg [] (.cons ⟨none, (.s 3 (.mv (.t 0)))⟩ (.cons ⟨none, (.s 4 (.eqz false (.t 3)))⟩ .nil))) (.cond (.t 4) (.seq (.reg [] (.cons ⟨none, (.s 2 (.mv (.k (.slice none 0 0))))⟩ .nil)) .ret) .skip)) (.seq (.reg [] (.cons ⟨none, (.w (some 5) (.bsl 5 (.int .u8 0) [] 0 []))⟩ (.cons ⟨none, (.s 6 (.mv (.t 0)))⟩ (.cons ⟨none, (.app (some 7) 5 1 (.int .u8 0) (.t 5) (.t 6))⟩ (.cons ⟨none, (.s 2 (.mv (.t 7)))⟩ .nil))))) .ret))), [(.tmp 2)]⟩
theorem low_bytes_Clone_2 : lowF Try.prog Try.f33 = some ir_bytes_Clone_2.strip := by kernel_rfl
theorem ok_bytes_Clone_2 {fu : Nat} {r : Unit} (h : fn_bytes_Clone_2 fu = some r) :
  EV.Fn Try.prog 33 [.c (.v (.slice none 0 0))] [] [] (fun v u nw => v = .c (.v (.slice none 0 0)) ∧ u = [] ∧ nw = []) := by
 have key : EV.Fn Try.prog 33 [.c (.v (.slice none 0 0))] [] [] (fun v u nw => v = .c (.v (.slice none 0 0)) ∧ u = [] ∧ nw = []) := by
  unfold fn_bytes_Clone_2 at h
  refine d_fn (i := ir_bytes_Clone_2) (fn := Try.f33) (sl0 := [(0, .c (.v (.slice none 0 0)))]) (hp0 := []) (by kernel_rfl) low_bytes_Clone_2 mo rfl rfl rfl fun F z0 => ?_
  dsimp only [ir_bytes_Clone_2]
  refine wpC_seq ?_
  refine d_reg rfl ?_
  refine wpI_s rfl trivial ?_
  refine wpI_nil ?_
  refine seqK_n ?_
  refine wpC_seq ?_
  refine wpC_seq ?_
  refine d_reg rfl ?_
  refine wpI_s rfl trivial ?_
  refine wpI_s rfl trivial ?_
  refine wpI_nil ?_
  refine seqK_n ?_
  refine wpC_condT rfl ?_
  refine wpC_seq ?_
  refine d_reg rfl ?_
  refine wpI_s rfl trivial ?_
  refine wpI_nil ?_
  refine seqK_n ?_
  refine wpC_ret ?_
  refine seqK_r ?_
  clear h
  exact d_ret2 [] [] ⟨rfl, rfl, rfl⟩ (rIs_t rfl rfl) leH2_n leH2_n rfl
 exact key.cong rfl blkEq_n blkEq_n

def ir_pack_Int_2 : IFn := ⟨34, (.seq (.reg [] (.cons ⟨none, (.s 4 (.mv (.k (.slice none 0 0))))⟩ .nil)) (.seq (.reg [] (.cons ⟨none, (.s 10 (.mv (.t 0)))⟩ (.cons ⟨none, (.call (some 11) 33 [(.t 10)])⟩ (.cons ⟨none, (.s 5 (.mv (.t 11)))⟩ .nil)))) (.seqJ (.seq (.reg [] (.cons ⟨none, (.s 12 (.mv (.t 1)))⟩ (.cons ⟨none, (.s 13 (.len (.t 12)))⟩ (.cons ⟨none, (.s 14 (.mv (.k (.int .i64 0))))⟩ .nil)))) (.block 0 (.loop (.seq (.reg [] (.cons ⟨none, (.s 15 (.bin .lss (.t 14) (.t 13)))⟩ .nil)) (.seq (.cond (.t 15) .skip (.exit 0)) (.seq (.block 1 (.seq (.reg [] (.cons ⟨none, (.s 16 (.is 1 (.t 12) (.t 14)))⟩ (.cons ⟨none, (.r 17 (.ld (.int .i64 0) (.t 16)))⟩ (.cons ⟨none, (.s 7 (.mv (.t 17)))⟩ .nil)))) (.seq (.reg [] (.cons ⟨none, (.s 18 (.mv (.t 7)))⟩ (.cons ⟨none, (.s 19 (.cv .u64 (.t 18)))⟩ (.cons ⟨none, (.s 8 (.mv (.t 19)))⟩ .nil)))) (.seq (.reg [] (.cons ⟨none, (.s 9 (.mv (.k (.int .i64 7))))⟩ .nil)) (.block 2 (.loop (.seq (.seq (.reg [] (.cons ⟨none, (.s 20 (.mv (.t 9)))⟩ (.cons ⟨none, (.s 21 (.bin .geq (.t 20) (.k (.int .i64 0))))⟩ .nil))) (.cond (.t 21) .skip (.exit 2))) (.seq (.block 3 (.reg [] (.cons ⟨none, (.s 24 (.mv (.t 5)))⟩ (.cons ⟨none, (.s 25 (.mv (.t 8)))⟩ (.cons ⟨none, (.s 26 (.mv (.t 9)))⟩ (.cons ⟨none, (.s 27 (.bin .mul (.k (.int .i64 8)) (.t 26)))⟩ (.cons ⟨none, (.s 28 (.bin .shr (.t 25) (.t 27)))⟩ (.cons ⟨none, (.s 29 (.cv .u8 (.t 28)))⟩ (.cons ⟨none, (.w (some 30) (.bsl 5 (.int .u8 0) [(.int .u8 0)] 1 [(0, (1, (.t 29)))]))⟩ (.cons ⟨none, (.app (some 31) 5 1 (.int .u8 0) (.t 24) (.t 30))⟩ (.cons ⟨none, (.s 5 (.mv (.t 31)))⟩ .nil))))))))))) (.reg [] (.cons ⟨none, (.s 22 (.mv (.t 9)))⟩ (.cons ⟨none, (.s 23 (.bin .sub (.t 22) (.k (.int .i64 1))))⟩ (.cons ⟨none, (.s 9 (.mv (.t 23)))⟩ .nil)))))))))))) (.reg [] (.cons ⟨none, (.s 32 (.bin .add (.t 14) (.k (.int .i64 1))))⟩ (.cons ⟨none, (.s 14 (.mv (.t 32)))⟩ .nil))))))))) (.seq (.reg [] (.cons ⟨none, (.s 33 (.mv (.t 5)))⟩ (.cons ⟨none, (.s 4 (.mv (.t 33)))⟩ .nil))) .ret)))), [(.tmp 4)]⟩
theorem low_pack_Int_2 : lowF Try.prog Try.f37 = some ir_pack_Int_2.strip := by kernel_rfl
theorem ok_pack_Int_2 {fu : Nat} (i0 : Nat) (n0 : Nat) {X0b : Nat} {X0ty : Nat} {X0pr : List C} {X0ps : List C} {X0o : Nat} {X0c : Nat} {X0n : Nat} {X0fr : Nat × Nat} {n_ : List Int} (X0l : X0n = n_.length) (X0S : 0 < X0n → X0pr.length = X0o) (X0C : X0n ≤ X0c) {r : (Unit) ⊕ (List Int)} (h : fn_pack_Int_2 fu n_ = some r) :
  EV.Fn Try.prog 37 [.c (.v (.slice none 0 0)), .c (.s 0 X0b X0o X0n X0c)] [] [⟨i0, X0b, X0ty, true, X0fr, (.v undef), flat [.r X0pr, .i .i64 n_, .r X0ps]⟩] (fun v u nw => match r with | .inl _ => (v = .c (.v (.slice none 0 0)) ∧ u = [] ∧ nw = []) | .inr (l9005) => (∃ (kn9002 : Nat) (kn9003 : Nat) (kw9004 : List C) (kw9006 : List C) (kn9007 : Nat) (kn9008 : Nat), v = .c (.s n0 kn9002 kn9007 l9005.length kn9008) ∧ u = [] ∧ nw = [⟨n0, kn9002, kn9003, false, (0, 0), .v undef, flat [.r kw9004, .i .u8 l9005, .r kw9006]⟩] ∧ (kw9004.length = kn9007) ∧ (kn9008 ≤ l9005.length + kw9006.length) ∧ (l9005.length ≤ kn9008))) := by
 subst X0l
 have key : EV.Fn Try.prog 37 [.c (.v (.slice none 0 0)), .c (.s 0 X0b X0o n_.length X0c)] [] [⟨0, X0b, X0ty, true, X0fr, (.v undef), flat [.r X0pr, .i .i64 n_, .r X0ps]⟩] (fun v u nw => match r with | .inl _ => (v = .c (.v (.slice none 0 0)) ∧ u = [] ∧ nw = []) | .inr (l9005) => (∃ (kn9002 : Nat) (kn9003 : Nat) (kw9004 : List C) (kw9006 : List C) (kn9007 : Nat) (kn9008 : Nat), v = .c (.s n0 kn9002 kn9007 l9005.length kn9008) ∧ u = [] ∧ nw = [⟨n0, kn9002, kn9003, false, (0, 0), .v undef, flat [.r kw9004, .i .u8 l9005, .r kw9006]⟩] ∧ (kw9004.length = kn9007) ∧ (kn9008 ≤ l9005.length + kw9006.length) ∧ (l9005.length ≤ kn9008))) := by
  unfold fn_pack_Int_2 at h
  refine d_fn (i := ir_pack_Int_2) (fn := Try.f37) (sl0 := [(0, .c (.v (.slice none 0 0))), (1, .c (.s 0 X0b X0o n_.length X0c))]) (hp0 := [⟨0, X0b, X0ty, true, X0fr, (.v undef), flat [.r X0pr, .i .i64 n_, .r X0ps]⟩]) (by kernel_rfl) low_pack_Int_2 mo rfl rfl rfl fun F z0 => ?_
  dsimp only [ir_pack_Int_2]
  refine wpC_seq ?_
  refine d_reg rfl ?_
  refine wpI_s rfl trivial ?_
  refine wpI_nil ?_
  refine seqK_n ?_
  refine wpC_seq ?_
  refine d_reg rfl ?_
  refine wpI_s rfl trivial ?_
  refine bind_e h fun o1 ho2 h => ?_
  refine d_call (ok_bytes_Clone_2     (h := ho2)) rfl rfl haveRw_n haveRo_n (own_of rfl) ?_
  rintro _ _ _ kz3 ⟨rfl, rfl, rfl⟩
  refine ⟨_, rfl, trivial, ?_⟩
  refine wpI_s rfl trivial ?_
  refine wpI_nil ?_
  refine seqK_n ?_
  refine bind_e h fun o16 h hko16 => ?_
  refine d_join (fun (z : (Nat) ⊕ (List Int × Nat × Nat × List C × List C × Nat × Nat × Nat)) => (match z with | .inl kz4 => ⟨[(5, .c (.v (.slice none 0 0)))], [], 100, kz4⟩ | .inr ((l8, kn5, kn6, kw7, kw9, kn10, kn11, kz15)) => ⟨[(5, .c (.s 101 kn5 kn10 l8.length kn11))], [⟨101, kn5, kn6, false, (0, 0), (.v (.int .u8 0)), flat [.r kw7, .i .u8 l8, .r kw9]⟩], 102, kz15⟩ : St)) (fun (z : (Nat) ⊕ (List Int × Nat × Nat × List C × List C × Nat × Nat × Nat)) => match z with | .inl kz4 => (True) ∧ Sum.inl () = o16 | .inr ((l8, kn5, kn6, kw7, kw9, kn10, kn11, kz15)) => ((kw7.length = kn10) ∧ (kn11 ≤ l8.length + kw9.length) ∧ (l8.length ≤ kn11)) ∧ Sum.inr (l8) = o16) ?_ ?_
  ·refine wpC_seq ?_
   refine d_reg rfl ?_
   refine wpI_s rfl trivial ?_
   refine wpI_s rfl trivial ?_
   refine wpI_s rfl trivial ?_
   refine wpI_nil ?_
   refine seqK_n ?_
   refine wpC_block ?_
   refine bind_e h fun o42 h hko42 => ?_
   refine d_loop (fun (z : (Nat) ⊕ (List Int × Int × Nat × Nat × List C × List C × Nat × Nat × Nat)) => match z with | .inl kz17 => Sum.inl () | .inr ((l21, x28, kn18, kn19, kw20, kw22, kn23, kn24, kz29)) => Sum.inr ((l21, x28))) (fun (z : (Nat) ⊕ (List Int × Int × Nat × Nat × List C × List C × Nat × Nat × Nat)) => (match z with | .inl kz17 => ⟨[(5, .c (.v (.slice none 0 0))), (12, .c (.s 0 X0b X0o n_.length X0c)), (13, ib .i64 ((n_.length : Nat) : Int)), (14, ib .i64 0)], [⟨0, X0b, X0ty, true, X0fr, (.v undef), flat [.r X0pr, .i .i64 n_, .r X0ps]⟩], 100, kz17⟩ | .inr ((l21, x28, kn18, kn19, kw20, kw22, kn23, kn24, kz29)) => ⟨[(5, .c (.s 101 kn18 kn23 l21.length kn24)), (12, .c (.s 0 X0b X0o n_.length X0c)), (13, ib .i64 ((n_.length : Nat) : Int)), (14, ib .i64 x28)], [⟨101, kn18, kn19, false, (0, 0), (.v (.int .u8 0)), flat [.r kw20, .i .u8 l21, .r kw22]⟩, ⟨0, X0b, X0ty, true, X0fr, (.v undef), flat [.r X0pr, .i .i64 n_, .r X0ps]⟩], 102, kz29⟩ : St)) (fun (z : (Nat) ⊕ (List Int × Int × Nat × Nat × List C × List C × Nat × Nat × Nat)) => match z with | .inl kz17 => True | .inr ((l21, x28, kn18, kn19, kw20, kw22, kn23, kn24, kz29)) => (kw20.length = kn23) ∧ (kn24 ≤ l21.length + kw22.length) ∧ (l21.length ≤ kn24)) (Sum.inl kz3) [0] h trivial (leS2_c rfl rfl (leS2_c rfl rfl (leS2_c rfl rfl (leS2_c rfl rfl leS2_n)))) (leH2_c rfl rfl rfl rfl rfl rfl leH2_n) rfl rfl ?_
   rintro rec (kz17 | ⟨l21, x28, kn18, kn19, kw20, kw22, kn23, kn24, kz29⟩)
   ·rintro _ h
    show wpC _ _ _ _ _ (St.mk _ _ _ _)
    unfold fn_pack_Int_2_l3 at h; try dsimp only at h
    refine wpC_seq ?_
    refine d_reg rfl ?_
    refine d_b rfl trivial h fun t43 h => ?_
    refine wpI_nil ?_
    refine seqK_n ?_
    refine wpC_seq ?_
    refine d_cond rfl h (fun h => ?_) (fun h => ?_)
    ·refine wpC_skip ?_
     refine seqK_n ?_
     refine wpC_seq ?_
     refine wpC_block ?_
     refine wpC_seq ?_
     refine d_reg rfl ?_
     refine gd_e h fun g44 h => ?_
     refine wpI_s rfl g44 ?_
     refine d_ld 1 (q := 0) rfl rfl rfl h (sl_offP0 (i := 0) rfl X0S g44) fun x45 h => ?_
     refine wpI_s rfl trivial ?_
     refine wpI_nil ?_
     refine seqK_n ?_
     refine wpC_seq ?_
     refine d_reg rfl ?_
     refine wpI_s rfl trivial ?_
     refine d_n rfl trivial h fun x46 h => ?_
     refine wpI_s rfl trivial ?_
     refine wpI_nil ?_
     refine seqK_n ?_
     refine wpC_seq ?_
     refine d_reg rfl ?_
     refine wpI_s rfl trivial ?_
     refine wpI_nil ?_
     refine seqK_n ?_
     refine wpC_block ?_
     refine bind_e h fun o71 h hko71 => ?_
     refine d_loop (fun (z : (Nat) ⊕ (List Int × Int × Nat × Nat × List C × List C × Nat × Nat × Nat)) => match z with | .inl kz47 => Sum.inl () | .inr ((l51, x58, kn48, kn49, kw50, kw52, kn53, kn54, kz59)) => Sum.inr ((l51, x58))) (fun (z : (Nat) ⊕ (List Int × Int × Nat × Nat × List C × List C × Nat × Nat × Nat)) => (match z with | .inl kz47 => ⟨[(5, .c (.v (.slice none 0 0))), (8, ib .u64 x46), (9, ib .i64 7), (12, .c (.s 0 X0b X0o n_.length X0c)), (13, ib .i64 ((n_.length : Nat) : Int)), (14, ib .i64 0)], [⟨0, X0b, X0ty, true, X0fr, (.v undef), flat [.r X0pr, .i .i64 n_, .r X0ps]⟩], 100, kz47⟩ | .inr ((l51, x58, kn48, kn49, kw50, kw52, kn53, kn54, kz59)) => ⟨[(5, .c (.s 101 kn48 kn53 l51.length kn54)), (8, ib .u64 x46), (9, ib .i64 x58), (12, .c (.s 0 X0b X0o n_.length X0c)), (13, ib .i64 ((n_.length : Nat) : Int)), (14, ib .i64 0)], [⟨101, kn48, kn49, false, (0, 0), (.v (.int .u8 0)), flat [.r kw50, .i .u8 l51, .r kw52]⟩, ⟨0, X0b, X0ty, true, X0fr, (.v undef), flat [.r X0pr, .i .i64 n_, .r X0ps]⟩], 102, kz59⟩ : St)) (fun (z : (Nat) ⊕ (List Int × Int × Nat × Nat × List C × List C × Nat × Nat × Nat)) => match z with | .inl kz47 => True | .inr ((l51, x58, kn48, kn49, kw50, kw52, kn53, kn54, kz59)) => (kw50.length = kn53) ∧ (kn54 ≤ l51.length + kw52.length) ∧ (l51.length ≤ kn54)) (Sum.inl kz17) [0] h trivial (leS2_c rfl rfl (leS2_c rfl rfl (leS2_c rfl rfl (leS2_c rfl rfl (leS2_c rfl rfl (leS2_c rfl rfl leS2_n)))))) (leH2_c rfl rfl rfl rfl rfl rfl leH2_n) rfl rfl ?_
     rintro rec (kz47 | ⟨l51, x58, kn48, kn49, kw50, kw52, kn53, kn54, kz59⟩)
     ·rintro _ h
      show wpC _ _ _ _ _ (St.mk _ _ _ _)
      unfold fn_pack_Int_2_l1 at h; try dsimp only at h
      refine wpC_seq ?_
      refine wpC_seq ?_
      refine d_reg rfl ?_
      refine wpI_s rfl trivial ?_
      refine d_bf (w := true) rfl trivial (by decide) ?_
      refine wpI_nil ?_
      refine seqK_n ?_
      refine wpC_condT rfl ?_
      refine wpC_skip ?_
      refine seqK_n ?_
      refine wpC_seq ?_
      refine wpC_block ?_
      refine d_reg rfl ?_
      refine wpI_s rfl trivial ?_
      refine wpI_s rfl trivial ?_
      refine wpI_s rfl trivial ?_
      refine d_nf (w := 56) rfl trivial (by decide) ?_
      refine d_n rfl (by decide) h fun x72 h => ?_
      refine d_n rfl trivial h fun x73 h => ?_
      refine d_bsl (g := [.r [], .i .u8 [x73], .r []]) (by rfl) (fun _ => trivial) fun kb74 kz75 => ?_
      refine gd_e h fun g76 h => ?_
      refine d_appnil rfl rfl rfl h (fun w hw => Src.of_eq (src_slice (j2 := 1) (p2 := 0) (q2 := 0) hw rfl rfl rfl (hs_zero (fun _ => rfl)) (by rw [Nat.zero_add]; exact (Nat.le_refl _))) (sub_full rfl)) (by first | exact Nat.zero_lt_succ _ | (rw [rfl]; decide) | (rw [sub_len (by rw [Nat.zero_add]; exact (Nat.le_refl _))]; decide)) g76 rfl fun l77 kb78 kc79 kp80 kz81 h82 h83 h => ?_
      refine wpI_s rfl trivial ?_
      refine wpI_nil ?_
      refine blockK_n ?_
      refine seqK_n ?_
      refine d_reg rfl ?_
      refine wpI_s rfl trivial ?_
      refine d_nf (w := 6) rfl trivial (by decide) ?_
      refine wpI_s rfl trivial ?_
      refine wpI_nil ?_
      refine lpK_n (Sum.inr ((l77, 6, kb78, 5, [], kp80, 0, kc79, kz81))) [101, 0] ⟨rfl, h82, h83⟩ h (leS2_c rfl rfl (leS2_c rfl rfl (leS2_c rfl rfl (leS2_c rfl rfl (leS2_c rfl rfl (leS2_c rfl rfl leS2_n)))))) (leH2_c rfl rfl rfl rfl rfl rfl (leH2_c rfl rfl rfl rfl rfl rfl leH2_n)) rfl rfl
     ·rintro ⟨h55, h56, h57⟩ h
      show wpC _ _ _ _ _ (St.mk _ _ _ _)
      unfold fn_pack_Int_2_l1 at h; try dsimp only at h
      refine wpC_seq ?_
      refine wpC_seq ?_
      refine d_reg rfl ?_
      refine wpI_s rfl trivial ?_
      refine d_b rfl trivial h fun t84 h => ?_
      refine wpI_nil ?_
      refine seqK_n ?_
      refine d_cond rfl h (fun h => ?_) (fun h => ?_)
      ·refine wpC_skip ?_
       refine seqK_n ?_
       refine wpC_seq ?_
       refine wpC_block ?_
       refine d_reg rfl ?_
       refine wpI_s rfl trivial ?_
       refine wpI_s rfl trivial ?_
       refine wpI_s rfl trivial ?_
       refine d_n rfl trivial h fun x85 h => ?_
       refine gd_e h fun g86 h => ?_
       refine d_n rfl g86 h fun x87 h => ?_
       refine d_n rfl trivial h fun x88 h => ?_
       refine d_bsl (g := [.r [], .i .u8 [x88], .r []]) (by rfl) (fun _ => trivial) fun kb89 kz90 => ?_
       refine gd_e h fun g91 h => ?_
       refine d_appo rfl rfl rfl rfl h55 h56 h (fun w hw => Src.of_eq (src_slice (j2 := 1) (p2 := 0) (q2 := 0) hw rfl rfl rfl (hs_zero (fun _ => rfl)) (by rw [Nat.zero_add]; exact (Nat.le_refl _))) (sub_full rfl)) g91 rfl rfl fun l92 kb93 ko94 kc95 kt96 kp97 kq98 kz99 h100 h101 h102 h => ?_
       refine wpI_s rfl trivial ?_
       refine wpI_nil ?_
       refine blockK_n ?_
       refine seqK_n ?_
       refine d_reg rfl ?_
       refine wpI_s rfl trivial ?_
       refine d_n rfl trivial h fun x103 h => ?_
       refine wpI_s rfl trivial ?_
       refine wpI_nil ?_
       refine lpK_n (Sum.inr ((l92, x103, kb93, kt96, kp97, kq98, ko94, kc95, kz99))) [103, 0] ⟨h100, h101, h102⟩ h (leS2_c rfl rfl (leS2_c rfl rfl (leS2_c rfl rfl (leS2_c rfl rfl (leS2_c rfl rfl (leS2_c rfl rfl leS2_n)))))) (leH2_c rfl rfl rfl rfl rfl rfl (leH2_c rfl rfl rfl rfl rfl rfl leH2_n)) rfl rfl
      ·refine wpC_exit ?_
       refine seqK_x ?_
       obtain rfl := Option.some.inj h
       have h := hko71; clear hko71; try dsimp only at h
       refine lpK_x ?_
       refine blockK_x ?_
       refine blockK_n ?_
       refine seqK_n ?_
       refine d_reg rfl ?_
       refine d_nf (w := 1) rfl trivial (by decide) ?_
       refine wpI_s rfl trivial ?_
       refine wpI_nil ?_
       refine lpK_n (Sum.inr ((l51, 1, kn48, kn49, kw50, kw52, kn53, kn54, kz59))) [101, 0] ⟨h55, h56, h57⟩ h (leS2_c rfl rfl (leS2_c rfl rfl (leS2_c rfl rfl (leS2_c rfl rfl leS2_n)))) (leH2_c rfl rfl rfl rfl rfl rfl (leH2_c rfl rfl rfl rfl rfl rfl leH2_n)) rfl rfl
    ·refine wpC_exit ?_
     refine seqK_x ?_
     obtain rfl := Option.some.inj h
     have h := hko42; clear hko42; try dsimp only at h
     refine lpK_x ?_
     refine blockK_x ?_
     refine jnK_n (Sum.inl kz17) [] ⟨trivial, Option.some.inj h⟩ (leS2_c rfl rfl leS2_n) leH2_n rfl rfl
   ·rintro ⟨h25, h26, h27⟩ h
    show wpC _ _ _ _ _ (St.mk _ _ _ _)
    unfold fn_pack_Int_2_l3 at h; try dsimp only at h
    refine wpC_seq ?_
    refine d_reg rfl ?_
    refine d_b rfl trivial h fun t104 h => ?_
    refine wpI_nil ?_
    refine seqK_n ?_
    refine wpC_seq ?_
    refine d_cond rfl h (fun h => ?_) (fun h => ?_)
    ·refine wpC_skip ?_
     refine seqK_n ?_
     refine wpC_seq ?_
     refine wpC_block ?_
     refine wpC_seq ?_
     refine d_reg rfl ?_
     refine gd_e h fun g105 h => ?_
     refine wpI_s rfl g105 ?_
     refine d_ld 1 (q := x28.toNat) rfl rfl rfl h (sl_offP0 (i := x28) rfl X0S g105) fun x106 h => ?_
     refine wpI_s rfl trivial ?_
     refine wpI_nil ?_
     refine seqK_n ?_
     refine wpC_seq ?_
     refine d_reg rfl ?_
     refine wpI_s rfl trivial ?_
     refine d_n rfl trivial h fun x107 h => ?_
     refine wpI_s rfl trivial ?_
     refine wpI_nil ?_
     refine seqK_n ?_
     refine wpC_seq ?_
     refine d_reg rfl ?_
     refine wpI_s rfl trivial ?_
     refine wpI_nil ?_
     refine seqK_n ?_
     refine wpC_block ?_
     refine bind_e h fun o131 h hko131 => ?_
     refine d_loop (fun (z : List Int × Int × Nat × Nat × List C × List C × Nat × Nat × Nat) => match z with | (l111, x118, kn108, kn109, kw110, kw112, kn113, kn114, kz119) => (l111, x118)) (fun (z : List Int × Int × Nat × Nat × List C × List C × Nat × Nat × Nat) => (match z with | (l111, x118, kn108, kn109, kw110, kw112, kn113, kn114, kz119) => ⟨[(5, .c (.s 101 kn108 kn113 l111.length kn114)), (8, ib .u64 x107), (9, ib .i64 x118), (12, .c (.s 0 X0b X0o n_.length X0c)), (13, ib .i64 ((n_.length : Nat) : Int)), (14, ib .i64 x28)], [⟨101, kn108, kn109, false, (0, 0), (.v (.int .u8 0)), flat [.r kw110, .i .u8 l111, .r kw112]⟩, ⟨0, X0b, X0ty, true, X0fr, (.v undef), flat [.r X0pr, .i .i64 n_, .r X0ps]⟩], 102, kz119⟩ : St)) (fun (z : List Int × Int × Nat × Nat × List C × List C × Nat × Nat × Nat) => match z with | (l111, x118, kn108, kn109, kw110, kw112, kn113, kn114, kz119) => (kw110.length = kn113) ∧ (kn114 ≤ l111.length + kw112.length) ∧ (l111.length ≤ kn114)) (l21, 7, kn18, kn19, kw20, kw22, kn23, kn24, kz29) [101, 0] h ⟨h25, h26, h27⟩ (leS2_c rfl rfl (leS2_c rfl rfl (leS2_c rfl rfl (leS2_c rfl rfl (leS2_c rfl rfl (leS2_c rfl rfl leS2_n)))))) (leH2_c rfl rfl rfl rfl rfl rfl (leH2_c rfl rfl rfl rfl rfl rfl leH2_n)) rfl rfl ?_
     rintro rec ⟨l111, x118, kn108, kn109, kw110, kw112, kn113, kn114, kz119⟩ ⟨h115, h116, h117⟩ h
     show wpC _ _ _ _ _ (St.mk _ _ _ _)
     unfold fn_pack_Int_2_l2 at h; try dsimp only at h
     refine wpC_seq ?_
     refine wpC_seq ?_
     refine d_reg rfl ?_
     refine wpI_s rfl trivial ?_
     refine d_b rfl trivial h fun t132 h => ?_
     refine wpI_nil ?_
     refine seqK_n ?_
     refine d_cond rfl h (fun h => ?_) (fun h => ?_)
     ·refine wpC_skip ?_
      refine seqK_n ?_
      refine wpC_seq ?_
      refine wpC_block ?_
      refine d_reg rfl ?_
      refine wpI_s rfl trivial ?_
      refine wpI_s rfl trivial ?_
      refine wpI_s rfl trivial ?_
      refine d_n rfl trivial h fun x133 h => ?_
      refine gd_e h fun g134 h => ?_
      refine d_n rfl g134 h fun x135 h => ?_
      refine d_n rfl trivial h fun x136 h => ?_
      refine d_bsl (g := [.r [], .i .u8 [x136], .r []]) (by rfl) (fun _ => trivial) fun kb137 kz138 => ?_
      refine gd_e h fun g139 h => ?_
      refine d_appo rfl rfl rfl rfl h115 h116 h (fun w hw => Src.of_eq (src_slice (j2 := 1) (p2 := 0) (q2 := 0) hw rfl rfl rfl (hs_zero (fun _ => rfl)) (by rw [Nat.zero_add]; exact (Nat.le_refl _))) (sub_full rfl)) g139 rfl rfl fun l140 kb141 ko142 kc143 kt144 kp145 kq146 kz147 h148 h149 h150 h => ?_
      refine wpI_s rfl trivial ?_
      refine wpI_nil ?_
      refine blockK_n ?_
      refine seqK_n ?_
      refine d_reg rfl ?_
      refine wpI_s rfl trivial ?_
      refine d_n rfl trivial h fun x151 h => ?_
      refine wpI_s rfl trivial ?_
      refine wpI_nil ?_
      refine lpK_n (l140, x151, kb141, kt144, kp145, kq146, ko142, kc143, kz147) [103, 0] ⟨h148, h149, h150⟩ h (leS2_c rfl rfl (leS2_c rfl rfl (leS2_c rfl rfl (leS2_c rfl rfl (leS2_c rfl rfl (leS2_c rfl rfl leS2_n)))))) (leH2_c rfl rfl rfl rfl rfl rfl (leH2_c rfl rfl rfl rfl rfl rfl leH2_n)) rfl rfl
     ·refine wpC_exit ?_
      refine seqK_x ?_
      obtain rfl := Option.some.inj h
      have h := hko131; clear hko131; try dsimp only at h
      refine lpK_x ?_
      refine blockK_x ?_
      refine blockK_n ?_
      refine seqK_n ?_
      refine d_reg rfl ?_
      refine d_n rfl trivial h fun x152 h => ?_
      refine wpI_s rfl trivial ?_
      refine wpI_nil ?_
      refine lpK_n (Sum.inr ((l111, x152, kn108, kn109, kw110, kw112, kn113, kn114, kz119))) [101, 0] ⟨h115, h116, h117⟩ h (leS2_c rfl rfl (leS2_c rfl rfl (leS2_c rfl rfl (leS2_c rfl rfl leS2_n)))) (leH2_c rfl rfl rfl rfl rfl rfl (leH2_c rfl rfl rfl rfl rfl rfl leH2_n)) rfl rfl
    ·refine wpC_exit ?_
     refine seqK_x ?_
     obtain rfl := Option.some.inj h
     have h := hko42; clear hko42; try dsimp only at h
     refine lpK_x ?_
     refine blockK_x ?_
     refine jnK_n (Sum.inr ((l21, kn18, kn19, kw20, kw22, kn23, kn24, kz29))) [101] ⟨⟨h25, h26, h27⟩, Option.some.inj h⟩ (leS2_c rfl rfl leS2_n) (leH2_c rfl rfl rfl rfl rfl rfl leH2_n) rfl rfl
  ·rintro (kz4 | ⟨l8, kn5, kn6, kw7, kw9, kn10, kn11, kz15⟩)
   ·rintro ⟨_, rfl⟩
    show wpC _ _ _ _ _ (St.mk _ _ _ _)
    have h := hko16; clear hko16; try dsimp only at h
    refine wpC_seq ?_
    refine d_reg rfl ?_
    refine wpI_s rfl trivial ?_
    refine wpI_s rfl trivial ?_
    refine wpI_nil ?_
    refine seqK_n ?_
    refine wpC_ret ?_
    obtain rfl := Option.some.inj h
    exact d_ret2 [] [] ⟨rfl, rfl, rfl⟩ (rIs_t rfl rfl) leH2_n leH2_n rfl
   ·rintro ⟨⟨h12, h13, h14⟩, rfl⟩
    show wpC _ _ _ _ _ (St.mk _ _ _ _)
    have h := hko16; clear hko16; try dsimp only at h
    refine wpC_seq ?_
    refine d_reg rfl ?_
    refine wpI_s rfl trivial ?_
    refine wpI_s rfl trivial ?_
    refine wpI_nil ?_
    refine seqK_n ?_
    refine wpC_ret ?_
    obtain rfl := Option.some.inj h
    exact d_ret2 [] [101] ⟨kn5, kn6, kw7, kw9, kn10, kn11, rfl, rfl, rfl, h12, h13, h14⟩ (rIs_t rfl rfl) leH2_n (leH2_c rfl rfl rfl rfl rfl rfl leH2_n) rfl
 exact key.cong rfl blkEq_n (blkEq_c rfl rfl rfl rfl blkEq_n)

def ir_chacha_word : IFn := ⟨25, (.seq (.reg [] (.cons ⟨none, (.s 2 (.mv (.k (.int .u32 0))))⟩ .nil)) (.seq (.reg [] (.cons ⟨none, (.s 3 (.mv (.t 0)))⟩ (.cons ⟨none, (.s 4 (.is 1 (.t 3) (.k (.int .i64 0))))⟩ (.cons ⟨none, (.r 5 (.ld (.int .u8 0) (.t 4)))⟩ (.cons ⟨none, (.s 6 (.cv .u32 (.t 5)))⟩ (.cons ⟨none, (.s 7 (.mv (.t 0)))⟩ (.cons ⟨none, (.s 8 (.is 1 (.t 7) (.k (.int .i64 1))))⟩ (.cons ⟨none, (.r 9 (.ld (.int .u8 0) (.t 8)))⟩ (.cons ⟨none, (.s 10 (.cv .u32 (.t 9)))⟩ (.cons ⟨none, (.s 11 (.bin .shl (.t 10) (.k (.int .u64 8))))⟩ (.cons ⟨none, (.s 12 (.bin .or (.t 6) (.t 11)))⟩ (.cons ⟨none, (.s 13 (.mv (.t 0)))⟩ (.cons ⟨none, (.s 14 (.is 1 (.t 13) (.k (.int .i64 2))))⟩ (.cons ⟨none, (.r 15 (.ld (.int .u8 0) (.t 14)))⟩ (.cons ⟨none, (.s 16 (.cv .u32 (.t 15)))⟩ (.cons ⟨none, (.s 17 (.bin .shl (.t 16) (.k (.int .u64 16))))⟩ (.cons ⟨none, (.s 18 (.bin .or (.t 12) (.t 17)))⟩ (.cons ⟨none, (.s 19 (.mv (.t 0)))⟩ (.cons ⟨none, (.s 20 (.is 1 (.t 19) (.k (.int .i64 3))))⟩ (.cons ⟨none, (.r 21 (.ld (.int .u8 0) (.t 20)))⟩ (.cons ⟨none, (.s 22 (.cv .u32 (.t 21)))⟩ (.cons ⟨none, (.s 23 (.bin .shl (.t 22) (.k (.int .u64 24))))⟩ (.cons ⟨none, (.s 24 (.bin .or (.t 18) (.t 23)))⟩ (.cons ⟨none, (.s 2 (.mv (.t 24)))⟩ .nil)))))))))))))))))))))))) .ret)), [(.tmp 2)]⟩
theorem low_chacha_word : lowF Try.prog Try.f68 = some ir_chacha_word.strip := by kernel_rfl
theorem ok_chacha_word {fu : Nat} (i0 : Nat) {X0b : Nat} {X0ty : Nat} {X0pr : List C} {X0ps : List C} {X0o : Nat} {X0c : Nat} {X0n : Nat} {X0fr : Nat × Nat} {b_ : List Int} (X0l : X0n = b_.length) (X0S : 0 < X0n → X0pr.length = X0o) (X0C : X0n ≤ X0c) {x9001 : Int} (h : fn_chacha_word fu b_ = some x9001) :
  EV.Fn Try.prog 68 [.c (.s 0 X0b X0o X0n X0c)] [] [⟨i0, X0b, X0ty, true, X0fr, (.v undef), flat [.r X0pr, .i .u8 b_, .r X0ps]⟩] (fun v u nw => v = ib .u32 x9001 ∧ u = [] ∧ nw = []) := by
 subst X0l
 have key : EV.Fn Try.prog 68 [.c (.s 0 X0b X0o b_.length X0c)] [] [⟨0, X0b, X0ty, true, X0fr, (.v undef), flat [.r X0pr, .i .u8 b_, .r X0ps]⟩] (fun v u nw => v = ib .u32 x9001 ∧ u = [] ∧ nw = []) := by
  unfold fn_chacha_word at h
  refine d_fn (i := ir_chacha_word) (fn := Try.f68) (sl0 := [(0, .c (.s 0 X0b X0o b_.length X0c))]) (hp0 := [⟨0, X0b, X0ty, true, X0fr, (.v undef), flat [.r X0pr, .i .u8 b_, .r X0ps]⟩]) (by kernel_rfl) low_chacha_word mo rfl rfl rfl fun F z0 => ?_
  dsimp only [ir_chacha_word]
  refine wpC_seq ?_
  refine d_reg rfl ?_
  refine wpI_s rfl trivial ?_
  refine wpI_nil ?_
  refine seqK_n ?_
  refine wpC_seq ?_
  refine d_reg rfl ?_
  refine wpI_s rfl trivial ?_
  refine gd_e h fun g1 h => ?_
  refine wpI_s rfl g1 ?_
  refine d_ld 1 (q := 0) rfl rfl rfl h (sl_offP0 (i := 0) rfl X0S g1) fun x2 h => ?_
  refine d_n rfl trivial h fun x3 h => ?_
  refine wpI_s rfl trivial ?_
  refine gd_e h fun g4 h => ?_
  refine wpI_s rfl g4 ?_
  refine d_ld 1 (q := 1) rfl rfl rfl h (sl_offP0 (i := 1) rfl X0S g4) fun x5 h => ?_
  refine d_n rfl trivial h fun x6 h => ?_
  refine d_n rfl (by decide) h fun x7 h => ?_
  refine d_n rfl trivial h fun x8 h => ?_
  refine wpI_s rfl trivial ?_
  refine gd_e h fun g9 h => ?_
  refine wpI_s rfl g9 ?_
  refine d_ld 1 (q := 2) rfl rfl rfl h (sl_offP0 (i := 2) rfl X0S g9) fun x10 h => ?_
  refine d_n rfl trivial h fun x11 h => ?_
  refine d_n rfl (by decide) h fun x12 h => ?_
  refine d_n rfl trivial h fun x13 h => ?_
  refine wpI_s rfl trivial ?_
  refine gd_e h fun g14 h => ?_
  refine wpI_s rfl g14 ?_
  refine d_ld 1 (q := 3) rfl rfl rfl h (sl_offP0 (i := 3) rfl X0S g14) fun x15 h => ?_
  refine d_n rfl trivial h fun x16 h => ?_
  refine d_n rfl (by decide) h fun x17 h => ?_
  refine d_n rfl trivial h fun x18 h => ?_
  refine wpI_s rfl trivial ?_
  refine wpI_nil ?_
  refine seqK_n ?_
  refine wpC_ret ?_
  obtain rfl := Option.some.inj h
  exact d_ret2 [] [] ⟨rfl, rfl, rfl⟩ (rIs_t rfl rfl) leH2_n leH2_n rfl
 exact key.cong rfl blkEq_n (blkEq_c rfl rfl rfl rfl blkEq_n)

end Go.Proofs.Ythgbffnahanfhaa

/- What the functions of the program compute, as functions of data: written by a program of ours out of the lowered instructions. -/
import Derived.Test.YthgbffnahanfhaaEvX
set_option linter.unusedVariables false
set_option linter.unusedSimpArgs false
namespace Go.Proofs.Ythgbffnahanfhaa
open Go Go.EV
set_option maxRecDepth 100000
set_option maxHeartbeats 0
set_option linter.unusedVariables false
noncomputable def fn_math_bits_Mul64 (fu : Nat) (x_ : Int) (y_ : Int) : Option (Int × Int) :=
 nm (iand .u64 x_ 4294967295) fun x1 =>
 nm (ishr .u64 x_ 32) fun x2 =>
 nm (iand .u64 y_ 4294967295) fun x3 =>
 nm (ishr .u64 y_ 32) fun x4 =>
 nm (IntKind.u64.wrap (x1 * x3)) fun x5 =>
 nm (IntKind.u64.wrap (x2 * x3)) fun x6 =>
 nm (ishr .u64 x5 32) fun x7 =>
 nm (IntKind.u64.wrap (x6 + x7)) fun x8 =>
 nm (iand .u64 x8 4294967295) fun x9 =>
 nm (ishr .u64 x8 32) fun x10 =>
 nm (IntKind.u64.wrap (x1 * x4)) fun x11 =>
 nm (IntKind.u64.wrap (x9 + x11)) fun x12 =>
 nm (IntKind.u64.wrap (x2 * x4)) fun x13 =>
 nm (IntKind.u64.wrap (x13 + x10)) fun x14 =>
 nm (ishr .u64 x12 32) fun x15 =>
 nm (IntKind.u64.wrap (x14 + x15)) fun x16 =>
 nm (IntKind.u64.wrap (x_ * y_)) fun x17 =>
 some (x16, x17)
noncomputable def fn_math_bits_Mul (fu : Nat) (x_ : Int) (y_ : Int) : Option (Int × Int) :=
 (fn_math_bits_Mul64 fu x_ y_).bind fun (x3, x4) =>
 some (x3, x4)
noncomputable def fn_bytes_Repeat_l1 (fu : Nat) (x17 : Int) (x21 : Int) (rec : (List Int × Int) → Option (List Int)) : (List Int × Int) → Option (List Int) := fun (l46, x48) =>
 nm (decide (x48 < x17)) fun t54 =>
 cond t54
 (nm (if x21 < x48 then x21 else x48) fun x55 =>
 gd (0 ≤ x48 ∧ x48 ≤ ((x17.toNat : Nat) : Int) ∧ ((x17.toNat : Nat) : Int) ≤ ((x17.toNat : Nat) : Int)) <|
 gd (0 ≤ (0 : Int) ∧ (0 : Int) ≤ x55 ∧ x55 ≤ ((x17.toNat : Nat) : Int)) <|
 (EV.put l46 x48.toNat (sub l46 0 (min x55.toNat (x17.toNat - x48.toNat)))).bind fun l68 =>
 nm (IntKind.i64.wrap (x48 + ((min x55.toNat (x17.toNat - x48.toNat) : Nat) : Int))) fun x70 =>
 rec (l68, x70))
 (some l46)
noncomputable def fn_bytes_Repeat (fu : Nat) (b_ : List Int) (count_ : Int) : Option ((Unit) ⊕ (List Int)) :=
 nm (count_ == 0) fun t1 =>
 cond t1
 (some (Sum.inl ()))
 (nm (decide (count_ < 0)) fun t4 =>
 cond t4
 (none)
 (nm (IntKind.u64.wrap ((b_.length : Nat) : Int)) fun x5 =>
 nm (IntKind.u64.wrap count_) fun x6 =>
 (fn_math_bits_Mul fu x5 x6).bind fun (x9, x10) =>
 ((nm (decide (x9 > 0)) fun t15 =>
 cond (t15 == false)
 (nm (decide (x10 > 9223372036854775807)) fun t16 =>
 some t16)
 (some true)) : Option (Bool)).bind fun t12 =>
 cond t12
 (none)
 (nm (IntKind.i64.wrap x10) fun x17 =>
 nm (((b_.length : Nat) : Int) == 0) fun t18 =>
 cond t18
 (some (Sum.inl ()))
 (((nm (decide (x17 > 8192)) fun t24 =>
 cond t24
 (gd (((b_.length : Nat) : Int) ≠ 0) <|
 nm (IntKind.i64.wrap ((8192 : Int).tdiv ((b_.length : Nat) : Int))) fun x26 =>
 nm (IntKind.i64.wrap (x26 * ((b_.length : Nat) : Int))) fun x27 =>
 nm (x27 == 0) fun t28 =>
 cond t28
 (some ((b_.length : Nat) : Int))
 (some x27))
 (some x17)) : Option (Int)).bind fun x21 =>
 gd (0 ≤ x17 ∧ x17 ≤ 281474976710656) <|
 orc x17.toNat fun l30 =>
 gd (0 ≤ (0 : Int) ∧ (0 : Int) ≤ x17 ∧ x17 ≤ ((x17.toNat : Nat) : Int) ∧ x17 ≤ x17 ∧ x17 ≤ ((x17.toNat : Nat) : Int)) <|
 (EV.put l30 0 (sub b_ 0 (min b_.length x17.toNat))).bind fun l44 =>
 (itr (fn_bytes_Repeat_l1 fu x17 x21) fu (l44, ((min b_.length x17.toNat : Nat) : Int))).bind fun l50 =>
 some (Sum.inr (l50))))))
noncomputable def fn_flash_New (fu : Nat) (sectors_ : Int) : Option ((Unit) ⊕ (List Int)) :=
 nm (if sectors_ > 0 then sectors_ else 0) fun x1 =>
 nm (if 1024 < x1 then 1024 else x1) fun x2 =>
 nm (IntKind.i64.wrap (x2 * 256)) fun x5 =>
 (fn_bytes_Repeat fu [255] x5).bind fun o => match o with
 | .inl () => (some (Sum.inl ()))
 | .inr (l12) => (some (Sum.inr (l12)))
noncomputable def fn_flash_Flash_Size (fu : Nat) (f_0 : List Int) (f_1 : Int) (f_2 : Int) (f_3 : Bool) (f_4 : Int) (f_5 : Int) : Option (Int) :=
 nm (IntKind.i64.wrap (((f_0.length : Nat) : Int).tdiv 256)) fun x1 =>
 some x1
noncomputable def fn_verity_New (fu : Nat) (f_0 : List Int) (f_1 : Int) (f_2 : Int) (f_3 : Bool) (f_4 : Int) (f_5 : Int) (slot_ : Int) : Option ((Unit) ⊕ (Int)) :=
 (((fn_flash_Flash_Size fu f_0 f_1 f_2 f_3 f_4 f_5).bind fun x6 =>
 nm (decide (x6 < 128)) fun t8 =>
 cond (t8 == false)
 (nm (decide (slot_ < 0)) fun t9 =>
 cond (t9 == false)
 (nm (decide (slot_ > 1)) fun t10 =>
 some t10)
 (some true))
 (some true)) : Option (Bool)).bind fun t1 =>
 cond t1
 (some (Sum.inl ()))
 (nm (IntKind.i64.wrap (slot_ * 32)) fun x11 =>
 nm (IntKind.i64.wrap (64 + x11)) fun x12 =>
 some (Sum.inr (x12)))
noncomputable def fn_portcullislaw25_num (fu : Nat) : Option (Unit) :=
 some ()
noncomputable def fn_verity_is (fu : Nat) (i_ : Int) : Option (Bool) :=
 ((nm (decide (i_ ≥ 0)) fun t4 =>
 cond (t4 == true)
 (nm (decide (i_ < 32)) fun t5 =>
 some t5)
 (some false)) : Option (Bool)).bind fun t1 =>
 some t1
noncomputable def fn_flash_Flash_is (fu : Nat) (f_0 : List Int) (f_1 : Int) (f_2 : Int) (f_3 : Bool) (f_4 : Int) (f_5 : Int) (at_ : Int) (n_ : Int) : Option (Bool) :=
 ((nm (decide (at_ ≥ 0)) fun t4 =>
 cond (t4 == true)
 (nm (decide (n_ ≥ 0)) fun t5 =>
 cond (t5 == true)
 (nm (decide (at_ ≤ ((f_0.length : Nat) : Int))) fun t6 =>
 cond (t6 == true)
 (nm (IntKind.i64.wrap (((f_0.length : Nat) : Int) - at_)) fun x7 =>
 nm (decide (n_ ≤ x7)) fun t8 =>
 some t8)
 (some false))
 (some false))
 (some false)) : Option (Bool)).bind fun t1 =>
 some t1
noncomputable def fn_bytes_Clone (fu : Nat) (b_ : List Int) : Option (List Int) :=
 gd ((([] : List Int) ++ b_).length * 1 ≤ 140737488355328) <|
 nm (([] : List Int) ++ b_) fun l4 =>
 some l4
noncomputable def fn_flash_Flash_Read (fu : Nat) (f_0 : List Int) (f_1 : Int) (f_2 : Int) (f_3 : Bool) (f_4 : Int) (f_5 : Int) (at_ : Int) (n_ : Int) : Option ((Unit) ⊕ (List Int)) :=
 ((cond (f_3 == false)
 ((fn_flash_Flash_is fu f_0 f_1 f_2 f_3 f_4 f_5 at_ n_).bind fun t6 =>
 nm (!t6) fun t8 =>
 some t8)
 (some true)) : Option (Bool)).bind fun t1 =>
 cond t1
 (some (Sum.inl ()))
 (nm (IntKind.i64.wrap (at_ + n_)) fun x9 =>
 gd (0 ≤ at_ ∧ at_ ≤ x9 ∧ x9 ≤ ((f_0.length : Nat) : Int)) <|
 (fn_bytes_Clone fu (sub f_0 at_.toNat (x9.toNat - at_.toNat))).bind fun l22 =>
 some (Sum.inr (l22)))
noncomputable def fn_verity_Area_Raw (fu : Nat) (a_00 : List Int) (a_01 : Int) (a_02 : Int) (a_03 : Bool) (a_04 : Int) (a_05 : Int) (a_1 : Int) (i_ : Int) : Option ((Unit) ⊕ (List Int)) :=
 (fn_verity_is fu i_).bind fun t3 =>
 nm (!t3) fun t5 =>
 cond t5
 (some (Sum.inl ()))
 (nm (IntKind.i64.wrap (a_1 + i_)) fun x6 =>
 nm (IntKind.i64.wrap (x6 * 256)) fun x7 =>
 (fn_flash_Flash_Read fu a_00 a_01 a_02 a_03 a_04 a_05 x7 80).bind fun o => match o with
 | .inl () => (some (Sum.inl ()))
 | .inr (l11) => (some (Sum.inr (l11))))
noncomputable def fn_flash_Flash_Dead (fu : Nat) (f_0 : List Int) (f_1 : Int) (f_2 : Int) (f_3 : Bool) (f_4 : Int) (f_5 : Int) : Option (Unit) :=
 some ()
noncomputable def fn_flash_Flash_operation (fu : Nat) (f_0 : List Int) (f_1 : Int) (f_2 : Int) (f_3 : Bool) (f_4 : Int) (f_5 : Int) (n_ : Int) : Option (Int × Int × Bool × Int × Bool) :=
 nm (f_1 != 0) fun t1 =>
 cond t1
 (nm (IntKind.i64.wrap (f_1 - 1)) fun x2 =>
 nm (if x2 > (-1) then x2 else (-1)) fun x3 =>
 some (x3, f_2, f_3, n_, true))
 (nm (if f_2 > 0 then f_2 else 0) fun x4 =>
 nm (if n_ < x4 then n_ else x4) fun x5 =>
 some ((-1), 0, true, x5, false))
noncomputable def fn_flash_Flash_Erase_l1 (fu : Nat) (f_0 : List Int) (x15 : Int) (x18 : Int) (rec : (List Int × Int) → Option (List Int)) : (List Int × Int) → Option (List Int) := fun (l19, x21) =>
 nm (decide (x21 < x15)) fun t27 =>
 cond t27
 (nm (IntKind.i64.wrap (x18 + x21)) fun x28 =>
 gd (0 ≤ x28 ∧ x28 < ((f_0.length : Nat) : Int)) <|
 (upd l19 x28.toNat 255).bind fun l30 =>
 nm (IntKind.i64.wrap (x21 + 1)) fun x32 =>
 rec (l30, x32))
 (some l19)
noncomputable def fn_flash_Flash_Erase (fu : Nat) (f_0 : List Int) (f_1 : Int) (f_2 : Int) (f_3 : Bool) (f_4 : Int) (f_5 : Int) (sector_ : Int) : Option (List Int × Int × Int × Bool × Int × Bool) :=
 ((cond (f_3 == false)
 (nm (decide (sector_ < 0)) fun t4 =>
 cond (t4 == false)
 ((fn_flash_Flash_Size fu f_0 f_1 f_2 f_3 f_4 f_5).bind fun x7 =>
 nm (decide (sector_ ≥ x7)) fun t9 =>
 some t9)
 (some true))
 (some true)) : Option (Bool)).bind fun t1 =>
 cond t1
 (some (f_0, f_1, f_2, f_3, f_4, false))
 ((fn_flash_Flash_operation fu f_0 f_1 f_2 f_3 f_4 f_5 256).bind fun (x12, x13, t14, x15, t16) =>
 nm (IntKind.i64.wrap (sector_ * 256)) fun x18 =>
 (itr (fn_flash_Flash_Erase_l1 fu f_0 x15 x18) fu (f_0, 0)).bind fun l23 =>
 ((cond t16
 (nm (IntKind.i64.wrap (f_4 + 1)) fun x36 =>
 nm (if 1099511627776 < x36 then 1099511627776 else x36) fun x37 =>
 some x37)
 (some f_4)) : Option (Int)).bind fun x33 =>
 some (l23, x12, x13, t14, x33, t16))
noncomputable def fn_flash_Flash_Program_l1 (fu : Nat) (f_0 : List Int) (at_ : Int) (b_ : List Int) (x14 : Int) (rec : (List Int × Int) → Option (List Int)) : (List Int × Int) → Option (List Int) := fun (l23, x25) =>
 nm (decide (x25 < ((x14.toNat : Nat) : Int))) fun t31 =>
 cond t31
 (gd (0 ≤ x25 ∧ x25 < ((x14.toNat : Nat) : Int)) <|
 (b_[x25.toNat]?).bind fun x33 =>
 nm (IntKind.i64.wrap (at_ + x25)) fun x34 =>
 gd (0 ≤ x34 ∧ x34 < ((f_0.length : Nat) : Int)) <|
 (l23[x34.toNat]?).bind fun x36 =>
 nm (iand .u8 x36 x33) fun x37 =>
 gd (0 ≤ x34 ∧ x34 < ((f_0.length : Nat) : Int)) <|
 (upd l23 x34.toNat x37).bind fun l39 =>
 nm (IntKind.i64.wrap (x25 + 1)) fun x41 =>
 rec (l39, x41))
 (some l23)
noncomputable def fn_flash_Flash_Program (fu : Nat) (f_0 : List Int) (f_1 : Int) (f_2 : Int) (f_3 : Bool) (f_4 : Int) (f_5 : Int) (at_ : Int) (b_ : List Int) : Option (List Int × Int × Int × Bool × Int × Bool) :=
 ((cond (f_3 == false)
 ((fn_flash_Flash_is fu f_0 f_1 f_2 f_3 f_4 f_5 at_ ((b_.length : Nat) : Int)).bind fun t6 =>
 nm (!t6) fun t8 =>
 some t8)
 (some true)) : Option (Bool)).bind fun t1 =>
 cond t1
 (some (f_0, f_1, f_2, f_3, f_5, false))
 ((fn_flash_Flash_operation fu f_0 f_1 f_2 f_3 f_4 f_5 ((b_.length : Nat) : Int)).bind fun (x11, x12, t13, x14, t15) =>
 gd (0 ≤ (0 : Int) ∧ (0 : Int) ≤ x14 ∧ x14 ≤ ((b_.length : Nat) : Int)) <|
 (itr (fn_flash_Flash_Program_l1 fu f_0 at_ b_ x14) fu (f_0, 0)).bind fun l27 =>
 ((cond t15
 (nm (IntKind.i64.wrap (f_5 + 1)) fun x45 =>
 nm (if 1099511627776 < x45 then 1099511627776 else x45) fun x46 =>
 some x46)
 (some f_5)) : Option (Int)).bind fun x42 =>
 some (l27, x11, x12, t13, x42, t15))
noncomputable def fn_verity_Area_Write (fu : Nat) (a_00 : List Int) (a_01 : Int) (a_02 : Int) (a_03 : Bool) (a_04 : Int) (a_05 : Int) (a_1 : Int) (i_ : Int) (c_ : List Int) : Option (List Int × Int × Int × Bool × Int × Int × Int) :=
 (((fn_verity_is fu i_).bind fun t6 =>
 nm (!t6) fun t8 =>
 cond (t8 == false)
 (nm (((c_.length : Nat) : Int) != 80) fun t9 =>
 some t9)
 (some true)) : Option (Bool)).bind fun t1 =>
 cond t1
 (some (a_00, a_01, a_02, a_03, a_04, a_05, 1))
 ((((fn_flash_Flash_Dead fu a_00 a_01 a_02 a_03 a_04 a_05).bind fun _ =>
 cond (a_03 == false)
 (nm (IntKind.i64.wrap (a_1 + i_)) fun x23 =>
 (fn_flash_Flash_Erase fu a_00 a_01 a_02 a_03 a_04 a_05 x23).bind fun (l26, x27, x28, t29, x30, t31) =>
 gd (l26.length = a_00.length) <|
 nm (!t31) fun t35 =>
 cond (t35 == false)
 (nm (IntKind.i64.wrap (a_1 + i_)) fun x36 =>
 nm (IntKind.i64.wrap (x36 * 256)) fun x37 =>
 (fn_flash_Flash_Program fu l26 x27 x28 t29 x30 a_05 x37 c_).bind fun (l40, x41, x42, t43, x44, t45) =>
 gd (l40.length = a_00.length) <|
 nm (!t45) fun t49 =>
 some (l40, x41, x42, t43, x30, x44, t49))
 (some (l26, x27, x28, t29, x30, a_05, true)))
 (some (a_00, a_01, a_02, a_03, a_04, a_05, true))) : Option (List Int × Int × Int × Bool × Int × Int × Bool)).bind fun (l10, x12, x13, t14, x15, x16, t17) =>
 cond t17
 (some (l10, x12, x13, t14, x15, x16, 8))
 (some (l10, x12, x13, t14, x15, x16, 0)))
noncomputable def fn_portcullislaw25_num_2 (fu : Nat) (e_ : Int) : Option (Unit) :=
 some ()
noncomputable def fn_portcullislaw25_alive (fu : Nat) : Option (Bool) :=
 (fn_flash_New fu 128).bind fun o => match o with
 | .inl _ => (none)
 | .inr (l3) => ((fn_verity_New fu l3 (-1) 0 false 0 0 0).bind fun o => match o with
 | .inl _ => (none)
 | .inr (x14) => ((fn_portcullislaw25_num fu).bind fun _ =>
 (fn_verity_Area_Raw fu l3 (-1) 0 false 0 0 x14 0).bind fun o => match o with
 | .inl _ => (none)
 | .inr (l22) => ((fn_verity_Area_Write fu l3 (-1) 0 false 0 0 x14 0 (List.replicate 80 0)).bind fun (l37, x38, x39, t40, x41, x42, x43) =>
 gd (l37.length = l3.length) <|
 (fn_verity_Area_Raw fu l37 x38 x39 t40 x41 x42 x14 0).bind fun o => match o with
 | .inl _ => (none)
 | .inr (l49) => (((nm (((l22.length : Nat) : Int) == 80) fun t63 =>
 cond (t63 == true)
 (gd (0 ≤ (0 : Int) ∧ (0 : Int) < ((l22.length : Nat) : Int)) <|
 (l22[0]?).bind fun x65 =>
 nm (x65 == 255) fun t66 =>
 cond (t66 == true)
 ((fn_portcullislaw25_num_2 fu x43).bind fun _ =>
 nm (x43 == 0) fun t70 =>
 cond (t70 == true)
 (nm (((l49.length : Nat) : Int) == 80) fun t71 =>
 cond (t71 == true)
 (gd (0 ≤ (0 : Int) ∧ (0 : Int) < ((l49.length : Nat) : Int)) <|
 (l49[0]?).bind fun x73 =>
 nm (x73 == 0) fun t74 =>
 some t74)
 (some false))
 (some false))
 (some false))
 (some false)) : Option (Bool)).bind fun t60 =>
 some t60))))
noncomputable def fn_portcullisref16_small (fu : Nat) (n_ : Int) : Option (Bool) :=
 ((nm (decide (n_ ≥ 0)) fun t4 =>
 cond (t4 == true)
 (nm (decide (n_ ≤ 2147483647)) fun t5 =>
 some t5)
 (some false)) : Option (Bool)).bind fun t1 =>
 some t1
noncomputable def fn_portcullisref1_Int_l1 (fu : Nat) (rec : (Int × List Int × Int) → Option (List Int)) : (Int × List Int × Int) → Option (List Int) := fun (x45, l46, x48) =>
 nm (decide (x48 ≥ 0)) fun t54 =>
 cond t54
 (nm (iand .i64 x45 255) fun x55 =>
 nm (IntKind.u8.wrap x55) fun x56 =>
 gd (0 ≤ x48 ∧ x48 < ((8 : Nat) : Int)) <|
 (upd l46 x48.toNat x56).bind fun l58 =>
 nm (ishr .i64 x45 8) fun x60 =>
 nm (IntKind.i64.wrap (x48 - 1)) fun x61 =>
 rec (x60, l58, x61))
 (some l46)
noncomputable def fn_portcullisref1_Int_l2 (fu : Nat) (rec : (Int × List Int × Int) → Option (List Int)) : (Int × List Int × Int) → Option (List Int) := fun (x80, l81, x83) =>
 nm (decide (x83 ≥ 0)) fun t89 =>
 cond t89
 (nm (iand .i64 x80 255) fun x90 =>
 nm (IntKind.u8.wrap x90) fun x91 =>
 gd (0 ≤ x83 ∧ x83 < ((8 : Nat) : Int)) <|
 (upd l81 x83.toNat x91).bind fun l93 =>
 nm (ishr .i64 x80 8) fun x95 =>
 nm (IntKind.i64.wrap (x83 - 1)) fun x96 =>
 rec (x95, l93, x96))
 (some l81)
noncomputable def fn_portcullisref1_Int_l3 (fu : Nat) (l_ : List Int) (rec : ((Unit) ⊕ (List Int × Int)) → Option ((Unit) ⊕ (List Int))) : ((Unit) ⊕ (List Int × Int)) → Option ((Unit) ⊕ (List Int)) := fun z => match z with
 | .inl () => (nm (decide (0 < ((l_.length : Nat) : Int))) fun t40 =>
 cond t40
 (gd (0 ≤ (0 : Int) ∧ (0 : Int) < ((l_.length : Nat) : Int)) <|
 (l_[0]?).bind fun x42 =>
 (itr (fn_portcullisref1_Int_l1 fu) fu (x42, (List.replicate 8 0), 7)).bind fun l50 =>
 gd (l50.length * 1 ≤ 140737488355328) <|
 nm l50 fun l68 =>
 rec (Sum.inr ((l68, 1))))
 (some (Sum.inl ())))
 | .inr ((l18, x25)) => (nm (decide (x25 < ((l_.length : Nat) : Int))) fun t75 =>
 cond t75
 (gd (0 ≤ x25 ∧ x25 < ((l_.length : Nat) : Int)) <|
 (l_[x25.toNat]?).bind fun x77 =>
 (itr (fn_portcullisref1_Int_l2 fu) fu (x77, (List.replicate 8 0), 7)).bind fun l85 =>
 gd ((l18 ++ l85).length * 1 ≤ 140737488355328) <|
 nm (l18 ++ l85) fun l103 =>
 nm (IntKind.i64.wrap (x25 + 1)) fun x114 =>
 rec (Sum.inr ((l103, x114))))
 (some (Sum.inr (l18))))
noncomputable def fn_portcullisref1_Int (fu : Nat) (l_ : List Int) : Option ((Unit) ⊕ (List Int)) :=
 (((itr (fn_portcullisref1_Int_l3 fu l_) fu (Sum.inl ())).bind fun o => match o with
 | .inl () => (some (Sum.inl ()))
 | .inr (l31) => (some (Sum.inr (l31)))) : Option ((Unit) ⊕ (List Int))).bind fun o => match o with
 | .inl () => (some (Sum.inl ()))
 | .inr (l5) => (some (Sum.inr (l5)))
noncomputable def fn_portcullisref1_One (fu : Nat) (n_ : Int) : Option (List Int) :=
 (fn_portcullisref1_Int fu [n_]).bind fun o => match o with
 | .inl _ => (none)
 | .inr (l5) => (some l5)
noncomputable def fn_portcullisref16_nonce (fu : Nat) (i_ : Int) : Option (List Int) :=
 (fn_portcullisref1_One fu i_).bind fun l12 =>
 (EV.put (List.replicate 12 0) 4 (sub l12 0 (min l12.length 8))).bind fun l23 =>
 some l23
noncomputable def fn_portcullisref1_little (fu : Nat) (b_ : List Int) : Option (Int) :=
 gd (0 ≤ (0 : Int) ∧ (0 : Int) < ((b_.length : Nat) : Int)) <|
 (b_[0]?).bind fun x2 =>
 nm (IntKind.u32.wrap x2) fun x3 =>
 gd (0 ≤ (1 : Int) ∧ (1 : Int) < ((b_.length : Nat) : Int)) <|
 (b_[1]?).bind fun x5 =>
 nm (IntKind.u32.wrap x5) fun x6 =>
 nm (ishl .u32 x6 8) fun x7 =>
 nm (ior .u32 x3 x7) fun x8 =>
 gd (0 ≤ (2 : Int) ∧ (2 : Int) < ((b_.length : Nat) : Int)) <|
 (b_[2]?).bind fun x10 =>
 nm (IntKind.u32.wrap x10) fun x11 =>
 nm (ishl .u32 x11 16) fun x12 =>
 nm (ior .u32 x8 x12) fun x13 =>
 gd (0 ≤ (3 : Int) ∧ (3 : Int) < ((b_.length : Nat) : Int)) <|
 (b_[3]?).bind fun x15 =>
 nm (IntKind.u32.wrap x15) fun x16 =>
 nm (ishl .u32 x16 24) fun x17 =>
 nm (ior .u32 x13 x17) fun x18 =>
 some x18
noncomputable def fn_portcullisref1_rol (fu : Nat) (x_ : Int) (n_ : Int) : Option (Int) :=
 gd (0 ≤ n_) <|
 nm (ishl .u32 x_ n_) fun x2 =>
 nm (IntKind.u64.wrap (32 - n_)) fun x3 =>
 gd (0 ≤ x3) <|
 nm (ishr .u32 x_ x3) fun x5 =>
 nm (ior .u32 x2 x5) fun x6 =>
 some x6
noncomputable def fn_portcullisref1_quarter (fu : Nat) (s_ : List Int) (a_ : Int) (b_ : Int) (c_ : Int) (d_ : Int) : Option (List Int) :=
 gd (s_.length = 16) <|
 gd (0 ≤ a_ ∧ a_ < ((16 : Nat) : Int)) <|
 (s_[a_.toNat]?).bind fun x2 =>
 gd (0 ≤ b_ ∧ b_ < ((16 : Nat) : Int)) <|
 (s_[b_.toNat]?).bind fun x4 =>
 nm (IntKind.u32.wrap (x2 + x4)) fun x5 =>
 gd (0 ≤ a_ ∧ a_ < ((16 : Nat) : Int)) <|
 (upd s_ a_.toNat x5).bind fun l7 =>
 gd (0 ≤ d_ ∧ d_ < ((16 : Nat) : Int)) <|
 (l7[d_.toNat]?).bind fun x10 =>
 gd (0 ≤ a_ ∧ a_ < ((16 : Nat) : Int)) <|
 (l7[a_.toNat]?).bind fun x12 =>
 nm (ixor .u32 x10 x12) fun x13 =>
 (fn_portcullisref1_rol fu x13 16).bind fun x16 =>
 gd (0 ≤ d_ ∧ d_ < ((16 : Nat) : Int)) <|
 (upd l7 d_.toNat x16).bind fun l19 =>
 gd (0 ≤ c_ ∧ c_ < ((16 : Nat) : Int)) <|
 (l19[c_.toNat]?).bind fun x22 =>
 gd (0 ≤ d_ ∧ d_ < ((16 : Nat) : Int)) <|
 (l19[d_.toNat]?).bind fun x24 =>
 nm (IntKind.u32.wrap (x22 + x24)) fun x25 =>
 gd (0 ≤ c_ ∧ c_ < ((16 : Nat) : Int)) <|
 (upd l19 c_.toNat x25).bind fun l27 =>
 gd (0 ≤ b_ ∧ b_ < ((16 : Nat) : Int)) <|
 (l27[b_.toNat]?).bind fun x30 =>
 gd (0 ≤ c_ ∧ c_ < ((16 : Nat) : Int)) <|
 (l27[c_.toNat]?).bind fun x32 =>
 nm (ixor .u32 x30 x32) fun x33 =>
 (fn_portcullisref1_rol fu x33 12).bind fun x36 =>
 gd (0 ≤ b_ ∧ b_ < ((16 : Nat) : Int)) <|
 (upd l27 b_.toNat x36).bind fun l39 =>
 gd (0 ≤ a_ ∧ a_ < ((16 : Nat) : Int)) <|
 (l39[a_.toNat]?).bind fun x42 =>
 gd (0 ≤ b_ ∧ b_ < ((16 : Nat) : Int)) <|
 (l39[b_.toNat]?).bind fun x44 =>
 nm (IntKind.u32.wrap (x42 + x44)) fun x45 =>
 gd (0 ≤ a_ ∧ a_ < ((16 : Nat) : Int)) <|
 (upd l39 a_.toNat x45).bind fun l47 =>
 gd (0 ≤ d_ ∧ d_ < ((16 : Nat) : Int)) <|
 (l47[d_.toNat]?).bind fun x50 =>
 gd (0 ≤ a_ ∧ a_ < ((16 : Nat) : Int)) <|
 (l47[a_.toNat]?).bind fun x52 =>
 nm (ixor .u32 x50 x52) fun x53 =>
 (fn_portcullisref1_rol fu x53 8).bind fun x56 =>
 gd (0 ≤ d_ ∧ d_ < ((16 : Nat) : Int)) <|
 (upd l47 d_.toNat x56).bind fun l59 =>
 gd (0 ≤ c_ ∧ c_ < ((16 : Nat) : Int)) <|
 (l59[c_.toNat]?).bind fun x62 =>
 gd (0 ≤ d_ ∧ d_ < ((16 : Nat) : Int)) <|
 (l59[d_.toNat]?).bind fun x64 =>
 nm (IntKind.u32.wrap (x62 + x64)) fun x65 =>
 gd (0 ≤ c_ ∧ c_ < ((16 : Nat) : Int)) <|
 (upd l59 c_.toNat x65).bind fun l67 =>
 gd (0 ≤ b_ ∧ b_ < ((16 : Nat) : Int)) <|
 (l67[b_.toNat]?).bind fun x70 =>
 gd (0 ≤ c_ ∧ c_ < ((16 : Nat) : Int)) <|
 (l67[c_.toNat]?).bind fun x72 =>
 nm (ixor .u32 x70 x72) fun x73 =>
 (fn_portcullisref1_rol fu x73 7).bind fun x76 =>
 gd (0 ≤ b_ ∧ b_ < ((16 : Nat) : Int)) <|
 (upd l67 b_.toNat x76).bind fun l79 =>
 some l79
noncomputable def fn_portcullisref1_Block_l1 (fu : Nat) (key_ : List Int) (rec : (List Int × Int) → Option (List Int)) : (List Int × Int) → Option (List Int) := fun (l17, x19) =>
 nm (decide (x19 < 8)) fun t25 =>
 cond t25
 (nm (IntKind.i64.wrap (4 + x19)) fun x26 =>
 nm (IntKind.i64.wrap (4 * x19)) fun x27 =>
 gd (0 ≤ x27 ∧ x27 ≤ ((32 : Nat) : Int) ∧ ((32 : Nat) : Int) ≤ ((32 : Nat) : Int)) <|
 (fn_portcullisref1_little fu (sub key_ x27.toNat (32 - x27.toNat))).bind fun x40 =>
 gd (0 ≤ x26 ∧ x26 < ((16 : Nat) : Int)) <|
 (upd l17 x26.toNat x40).bind fun l43 =>
 nm (IntKind.i64.wrap (x19 + 1)) fun x45 =>
 rec (l43, x45))
 (some l17)
noncomputable def fn_portcullisref1_Block_l2 (fu : Nat) (nonce_ : List Int) (rec : (List Int × Int) → Option (List Int)) : (List Int × Int) → Option (List Int) := fun (l50, x52) =>
 nm (decide (x52 < 3)) fun t58 =>
 cond t58
 (nm (IntKind.i64.wrap (13 + x52)) fun x59 =>
 nm (IntKind.i64.wrap (4 * x52)) fun x60 =>
 gd (0 ≤ x60 ∧ x60 ≤ ((12 : Nat) : Int) ∧ ((12 : Nat) : Int) ≤ ((12 : Nat) : Int)) <|
 (fn_portcullisref1_little fu (sub nonce_ x60.toNat (12 - x60.toNat))).bind fun x73 =>
 gd (0 ≤ x59 ∧ x59 < ((16 : Nat) : Int)) <|
 (upd l50 x59.toNat x73).bind fun l76 =>
 nm (IntKind.i64.wrap (x52 + 1)) fun x78 =>
 rec (l76, x78))
 (some l50)
noncomputable def fn_portcullisref1_Block_l3 (fu : Nat) (rec : (List Int × Int) → Option (List Int)) : (List Int × Int) → Option (List Int) := fun (l81, x83) =>
 nm (decide (x83 < 10)) fun t89 =>
 cond t89
 ((fn_portcullisref1_quarter fu l81 0 4 8 12).bind fun l92 =>
 gd (l92.length = 16) <|
 (fn_portcullisref1_quarter fu l92 1 5 9 13).bind fun l98 =>
 gd (l98.length = 16) <|
 (fn_portcullisref1_quarter fu l98 2 6 10 14).bind fun l104 =>
 gd (l104.length = 16) <|
 (fn_portcullisref1_quarter fu l104 3 7 11 15).bind fun l110 =>
 gd (l110.length = 16) <|
 (fn_portcullisref1_quarter fu l110 0 5 10 15).bind fun l116 =>
 gd (l116.length = 16) <|
 (fn_portcullisref1_quarter fu l116 1 6 11 12).bind fun l122 =>
 gd (l122.length = 16) <|
 (fn_portcullisref1_quarter fu l122 2 7 8 13).bind fun l128 =>
 gd (l128.length = 16) <|
 (fn_portcullisref1_quarter fu l128 3 4 9 14).bind fun l134 =>
 gd (l134.length = 16) <|
 nm (IntKind.i64.wrap (x83 + 1)) fun x138 =>
 rec (l134, x138))
 (some l81)
noncomputable def fn_portcullisref1_Block_l4 (fu : Nat) (l54 : List Int) (l85 : List Int) (rec : (List Int × Int) → Option (List Int)) : (List Int × Int) → Option (List Int) := fun (l141, x143) =>
 nm (decide (x143 < 64)) fun t149 =>
 cond t149
 (nm (IntKind.i64.wrap (x143.tdiv 4)) fun x150 =>
 gd (0 ≤ x150 ∧ x150 < ((16 : Nat) : Int)) <|
 (l85[x150.toNat]?).bind fun x152 =>
 nm (IntKind.i64.wrap (x143.tdiv 4)) fun x153 =>
 gd (0 ≤ x153 ∧ x153 < ((16 : Nat) : Int)) <|
 (l54[x153.toNat]?).bind fun x155 =>
 nm (IntKind.u32.wrap (x152 + x155)) fun x156 =>
 nm (x143.tmod 4) fun x157 =>
 nm (IntKind.i64.wrap (8 * x157)) fun x158 =>
 nm (IntKind.u64.wrap x158) fun x159 =>
 gd (0 ≤ x159) <|
 nm (ishr .u32 x156 x159) fun x161 =>
 nm (iand .u32 x161 255) fun x162 =>
 nm (IntKind.u8.wrap x162) fun x163 =>
 gd (0 ≤ x143 ∧ x143 < ((64 : Nat) : Int)) <|
 (upd l141 x143.toNat x163).bind fun l165 =>
 nm (IntKind.i64.wrap (x143 + 1)) fun x167 =>
 rec (l165, x167))
 (some l141)
noncomputable def fn_portcullisref1_Block (fu : Nat) (key_ : List Int) (counter_ : Int) (nonce_ : List Int) : Option (List Int) :=
 gd (key_.length = 32) <|
 gd (nonce_.length = 12) <|
 (upd (List.replicate 16 0) 0 1634760805).bind fun l9 =>
 (upd l9 1 857760878).bind fun l11 =>
 (upd l11 2 2036477234).bind fun l13 =>
 (upd l13 3 1797285236).bind fun l15 =>
 (itr (fn_portcullisref1_Block_l1 fu key_) fu (l15, 0)).bind fun l21 =>
 nm (iand .i64 counter_ 4294967295) fun x46 =>
 nm (IntKind.u32.wrap x46) fun x47 =>
 (upd l21 12 x47).bind fun l48 =>
 (itr (fn_portcullisref1_Block_l2 fu nonce_) fu (l48, 0)).bind fun l54 =>
 (itr (fn_portcullisref1_Block_l3 fu) fu (l54, 0)).bind fun l85 =>
 (itr (fn_portcullisref1_Block_l4 fu l54 l85) fu ((List.replicate 64 0), 0)).bind fun l145 =>
 some l145
noncomputable def fn_portcullisref1_Turn_l1 (fu : Nat) (key_ : List Int) (nonce_ : List Int) (l7 : List Int) (x14 : Int) (rec : (List Int × List Int × Int) → Option (List Int)) : (List Int × List Int × Int) → Option (List Int) := fun (l17, l19, x21) =>
 nm (decide (x21 < ((l7.length : Nat) : Int))) fun t27 =>
 cond t27
 (((nm (x21.tmod 64) fun x32 =>
 nm (x32 == 0) fun t33 =>
 cond t33
 (nm (IntKind.i64.wrap (x21.tdiv 64)) fun x34 =>
 nm (IntKind.i64.wrap (x14 + x34)) fun x35 =>
 (fn_portcullisref1_Block fu key_ x35 nonce_).bind fun l38 =>
 gd (l38.length = 64) <|
 some l38)
 (some l19)) : Option (List Int)).bind fun l28 =>
 gd (0 ≤ x21 ∧ x21 < ((l7.length : Nat) : Int)) <|
 (l17[x21.toNat]?).bind fun x43 =>
 nm (x21.tmod 64) fun x44 =>
 gd (0 ≤ x44 ∧ x44 < ((64 : Nat) : Int)) <|
 (l28[x44.toNat]?).bind fun x46 =>
 nm (ixor .u8 x43 x46) fun x47 =>
 gd (0 ≤ x21 ∧ x21 < ((l7.length : Nat) : Int)) <|
 (upd l17 x21.toNat x47).bind fun l49 =>
 nm (IntKind.i64.wrap (x21 + 1)) fun x51 =>
 rec (l49, l28, x51))
 (some l17)
noncomputable def fn_portcullisref1_Turn (fu : Nat) (key_ : List Int) (counter_ : Int) (nonce_ : List Int) (b_ : List Int) : Option (List Int) :=
 gd (key_.length = 32) <|
 gd (nonce_.length = 12) <|
 cond (decide (0 < b_.length))
 (gd (b_.length * 1 ≤ 140737488355328) <|
 nm b_ fun l7 =>
 nm (iand .i64 counter_ 4294967295) fun x14 =>
 (itr (fn_portcullisref1_Turn_l1 fu key_ nonce_ l7 x14) fu (l7, (List.replicate 64 0), 0)).bind fun l23 =>
 some l23)
 (none)
noncomputable def fn_portcullisref1_filled_l1 (fu : Nat) (rec : (List Int) → Option (List Int)) : (List Int) → Option (List Int) := fun l4 =>
 nm (((l4.length : Nat) : Int).tmod 16) fun x24 =>
 nm (x24 != 0) fun t25 =>
 cond t25
 (gd ((l4 ++ [0]).length * 1 ≤ 140737488355328) <|
 nm (l4 ++ [0]) fun l29 =>
 rec l29)
 (some l4)
noncomputable def fn_portcullisref1_filled (fu : Nat) (b_ : List Int) : Option (List Int) :=
 (itr (fn_portcullisref1_filled_l1 fu) fu b_).bind fun l15 =>
 some l15
noncomputable def fn_portcullisref1_length_l1 (fu : Nat) (n_ : Int) (rec : ((Unit) ⊕ (List Int × Int)) → Option (List Int)) : ((Unit) ⊕ (List Int × Int)) → Option (List Int) := fun z => match z with
 | .inl () => (nm (ishr .i64 n_ 0) fun x26 =>
 nm (iand .i64 x26 255) fun x27 =>
 nm (IntKind.u8.wrap x27) fun x28 =>
 gd ([x28].length * 1 ≤ 140737488355328) <|
 nm [x28] fun l32 =>
 rec (Sum.inr ((l32, 1))))
 | .inr ((l5, x12)) => (nm (decide (x12 < 8)) fun t39 =>
 cond t39
 (nm (IntKind.i64.wrap (8 * x12)) fun x40 =>
 nm (IntKind.u64.wrap x40) fun x41 =>
 gd (0 ≤ x41) <|
 nm (ishr .i64 n_ x41) fun x43 =>
 nm (iand .i64 x43 255) fun x44 =>
 nm (IntKind.u8.wrap x44) fun x45 =>
 gd ((l5 ++ [x45]).length * 1 ≤ 140737488355328) <|
 nm (l5 ++ [x45]) fun l49 =>
 nm (IntKind.i64.wrap (x12 + 1)) fun x60 =>
 rec (Sum.inr ((l49, x60))))
 (some l5))
noncomputable def fn_portcullisref1_length (fu : Nat) (n_ : Int) : Option (List Int) :=
 (itr (fn_portcullisref1_length_l1 fu n_) fu (Sum.inl ())).bind fun l17 =>
 some l17
noncomputable def fn_portcullisref1_carried_l1 (fu : Nat) (rec : (List Int × Int × Int) → Option (List Int × Int)) : (List Int × Int × Int) → Option (List Int × Int) := fun (l14, x16, x17) =>
 nm (decide (x17 < 16)) fun t24 =>
 cond t24
 (gd (0 ≤ x17 ∧ x17 < ((17 : Nat) : Int)) <|
 (l14[x17.toNat]?).bind fun x26 =>
 nm (IntKind.i64.wrap (x16 + x26)) fun x27 =>
 nm (iand .i64 x27 255) fun x28 =>
 gd (0 ≤ x17 ∧ x17 < ((17 : Nat) : Int)) <|
 (upd l14 x17.toNat x28).bind fun l30 =>
 nm (ishr .i64 x27 8) fun x32 =>
 nm (IntKind.i64.wrap (x17 + 1)) fun x33 =>
 rec (l30, x32, x33))
 (some (l14, x16))
noncomputable def fn_portcullisref1_carried_l2 (fu : Nat) (rec : (List Int × Int) → Option (List Int)) : (List Int × Int) → Option (List Int) := fun (l5, x7) =>
 nm (decide (x7 < 3)) fun t13 =>
 cond t13
 ((itr (fn_portcullisref1_carried_l1 fu) fu (l5, 0, 0)).bind fun (l19, x21) =>
 (l19[16]?).bind fun x34 =>
 nm (IntKind.i64.wrap (x21 + x34)) fun x35 =>
 nm (iand .i64 x35 3) fun x36 =>
 (upd l19 16 x36).bind fun l37 =>
 (l37[0]?).bind fun x39 =>
 nm (ishr .i64 x35 2) fun x40 =>
 nm (IntKind.i64.wrap (5 * x40)) fun x41 =>
 nm (IntKind.i64.wrap (x39 + x41)) fun x42 =>
 (upd l37 0 x42).bind fun l43 =>
 nm (IntKind.i64.wrap (x7 + 1)) fun x45 =>
 rec (l43, x45))
 (some l5)
noncomputable def fn_portcullisref1_carried (fu : Nat) (h_ : List Int) : Option (List Int) :=
 gd (h_.length = 17) <|
 (itr (fn_portcullisref1_carried_l2 fu) fu (h_, 0)).bind fun l9 =>
 some l9
noncomputable def fn_portcullisref1_times_l1 (fu : Nat) (h_ : List Int) (r_ : List Int) (x11 : Int) (rec : (Int × Int) → Option (Int)) : (Int × Int) → Option (Int) := fun (x18, x19) =>
 nm (decide (x19 ≤ x11)) fun t24 =>
 cond t24
 (gd (0 ≤ x19 ∧ x19 < ((17 : Nat) : Int)) <|
 (h_[x19.toNat]?).bind fun x26 =>
 nm (IntKind.i64.wrap (x11 - x19)) fun x27 =>
 gd (0 ≤ x27 ∧ x27 < ((17 : Nat) : Int)) <|
 (r_[x27.toNat]?).bind fun x29 =>
 nm (IntKind.i64.wrap (x26 * x29)) fun x30 =>
 nm (IntKind.i64.wrap (x18 + x30)) fun x31 =>
 nm (IntKind.i64.wrap (x19 + 1)) fun x32 =>
 rec (x31, x32))
 (some x18)
noncomputable def fn_portcullisref1_times_l2 (fu : Nat) (h_ : List Int) (r_ : List Int) (x11 : Int) (rec : (Int × Int) → Option (Int)) : (Int × Int) → Option (Int) := fun (x34, x35) =>
 nm (decide (x35 < 17)) fun t40 =>
 cond t40
 (gd (0 ≤ x35 ∧ x35 < ((17 : Nat) : Int)) <|
 (h_[x35.toNat]?).bind fun x42 =>
 nm (IntKind.i64.wrap (320 * x42)) fun x43 =>
 nm (IntKind.i64.wrap (x11 + 17)) fun x44 =>
 nm (IntKind.i64.wrap (x44 - x35)) fun x45 =>
 gd (0 ≤ x45 ∧ x45 < ((17 : Nat) : Int)) <|
 (r_[x45.toNat]?).bind fun x47 =>
 nm (IntKind.i64.wrap (x43 * x47)) fun x48 =>
 nm (IntKind.i64.wrap (x34 + x48)) fun x49 =>
 nm (IntKind.i64.wrap (x35 + 1)) fun x50 =>
 rec (x49, x50))
 (some x34)
noncomputable def fn_portcullisref1_times_l3 (fu : Nat) (h_ : List Int) (r_ : List Int) (rec : (List Int × Int) → Option (List Int)) : (List Int × Int) → Option (List Int) := fun (l9, x11) =>
 nm (decide (x11 < 17)) fun t17 =>
 cond t17
 ((itr (fn_portcullisref1_times_l1 fu h_ r_ x11) fu (0, 0)).bind fun x21 =>
 nm (IntKind.i64.wrap (x11 + 1)) fun x33 =>
 (itr (fn_portcullisref1_times_l2 fu h_ r_ x11) fu (x21, x33)).bind fun x37 =>
 gd (0 ≤ x11 ∧ x11 < ((17 : Nat) : Int)) <|
 (upd l9 x11.toNat x37).bind fun l52 =>
 nm (IntKind.i64.wrap (x11 + 1)) fun x54 =>
 rec (l52, x54))
 (some l9)
noncomputable def fn_portcullisref1_times (fu : Nat) (h_ : List Int) (r_ : List Int) : Option (List Int) :=
 gd (h_.length = 17) <|
 gd (r_.length = 17) <|
 (itr (fn_portcullisref1_times_l3 fu h_ r_) fu ((List.replicate 17 0), 0)).bind fun l13 =>
 (fn_portcullisref1_carried fu l13).bind fun l57 =>
 gd (l57.length = 17) <|
 some l57
noncomputable def fn_portcullisref1_whole_l1 (fu : Nat) (rec : (List Int × Int × Int) → Option (List Int)) : (List Int × Int × Int) → Option (List Int) := fun (l13, x15, x16) =>
 nm (decide (x16 < 17)) fun t22 =>
 cond t22
 (gd (0 ≤ x16 ∧ x16 < ((17 : Nat) : Int)) <|
 (l13[x16.toNat]?).bind fun x24 =>
 nm (IntKind.i64.wrap (x15 + x24)) fun x25 =>
 nm (iand .i64 x25 255) fun x26 =>
 gd (0 ≤ x16 ∧ x16 < ((17 : Nat) : Int)) <|
 (upd l13 x16.toNat x26).bind fun l28 =>
 nm (ishr .i64 x25 8) fun x30 =>
 nm (IntKind.i64.wrap (x16 + 1)) fun x31 =>
 rec (l28, x30, x31))
 (some l13)
noncomputable def fn_portcullisref1_whole (fu : Nat) (h_ : List Int) : Option (List Int) :=
 gd (h_.length = 17) <|
 (fn_portcullisref1_carried fu h_).bind fun l7 =>
 gd (l7.length = 17) <|
 (itr (fn_portcullisref1_whole_l1 fu) fu (l7, 5, 0)).bind fun l18 =>
 (l18[16]?).bind fun x32 =>
 nm (decide (x32 ≥ 4)) fun t33 =>
 cond t33
 ((l18[16]?).bind fun x34 =>
 nm (IntKind.i64.wrap (x34 - 4)) fun x35 =>
 (upd l18 16 x35).bind fun l36 =>
 some l36)
 (some l7)
noncomputable def fn_portcullisref1_Poly_l1 (fu : Nat) (key_ : List Int) (rec : (List Int × Int) → Option (List Int)) : (List Int × Int) → Option (List Int) := fun (l9, x11) =>
 nm (decide (x11 < 16)) fun t17 =>
 cond t17
 (gd (0 ≤ x11 ∧ x11 < ((32 : Nat) : Int)) <|
 (key_[x11.toNat]?).bind fun x19 =>
 nm (IntKind.i64.wrap x19) fun x20 =>
 gd (0 ≤ x11 ∧ x11 < ((17 : Nat) : Int)) <|
 (upd l9 x11.toNat x20).bind fun l22 =>
 nm (IntKind.i64.wrap (x11 + 1)) fun x24 =>
 rec (l22, x24))
 (some l9)
noncomputable def fn_portcullisref1_Poly_l2 (fu : Nat) (rec : (List Int × Int) → Option (List Int)) : (List Int × Int) → Option (List Int) := fun (l25, x27) =>
 nm (decide (x27 < 16)) fun t33 =>
 cond t33
 (gd (0 ≤ x27 ∧ x27 < ((17 : Nat) : Int)) <|
 (l25[x27.toNat]?).bind fun x35 =>
 nm (iand .i64 x35 15) fun x36 =>
 gd (0 ≤ x27 ∧ x27 < ((17 : Nat) : Int)) <|
 (upd l25 x27.toNat x36).bind fun l38 =>
 nm (IntKind.i64.wrap (x27 + 4)) fun x40 =>
 rec (l38, x40))
 (some l25)
noncomputable def fn_portcullisref1_Poly_l3 (fu : Nat) (rec : (List Int × Int) → Option (List Int)) : (List Int × Int) → Option (List Int) := fun (l41, x43) =>
 nm (decide (x43 < 16)) fun t49 =>
 cond t49
 (gd (0 ≤ x43 ∧ x43 < ((17 : Nat) : Int)) <|
 (l41[x43.toNat]?).bind fun x51 =>
 nm (iand .i64 x51 252) fun x52 =>
 gd (0 ≤ x43 ∧ x43 < ((17 : Nat) : Int)) <|
 (upd l41 x43.toNat x52).bind fun l54 =>
 nm (IntKind.i64.wrap (x43 + 4)) fun x56 =>
 rec (l54, x56))
 (some l41)
noncomputable def fn_portcullisref1_Poly_l4 (fu : Nat) (b_ : List Int) (x59 : Int) (x69 : Int) (rec : (List Int × Int) → Option (List Int)) : (List Int × Int) → Option (List Int) := fun (l73, x75) =>
 nm (decide (x75 < x69)) fun t81 =>
 cond t81
 (nm (IntKind.i64.wrap (x59 + x75)) fun x82 =>
 gd (0 ≤ x82 ∧ x82 < ((b_.length : Nat) : Int)) <|
 (b_[x82.toNat]?).bind fun x84 =>
 nm (IntKind.i64.wrap x84) fun x85 =>
 gd (0 ≤ x75 ∧ x75 < ((17 : Nat) : Int)) <|
 (upd l73 x75.toNat x85).bind fun l87 =>
 nm (IntKind.i64.wrap (x75 + 1)) fun x89 =>
 rec (l87, x89))
 (some l73)
noncomputable def fn_portcullisref1_Poly_l5 (fu : Nat) (l91 : List Int) (rec : (List Int × Int) → Option (List Int)) : (List Int × Int) → Option (List Int) := fun (l93, x95) =>
 nm (decide (x95 < 17)) fun t101 =>
 cond t101
 (gd (0 ≤ x95 ∧ x95 < ((17 : Nat) : Int)) <|
 (l93[x95.toNat]?).bind fun x103 =>
 gd (0 ≤ x95 ∧ x95 < ((17 : Nat) : Int)) <|
 (l91[x95.toNat]?).bind fun x105 =>
 nm (IntKind.i64.wrap (x103 + x105)) fun x106 =>
 gd (0 ≤ x95 ∧ x95 < ((17 : Nat) : Int)) <|
 (upd l93 x95.toNat x106).bind fun l108 =>
 nm (IntKind.i64.wrap (x95 + 1)) fun x110 =>
 rec (l108, x110))
 (some l93)
noncomputable def fn_portcullisref1_Poly_l6 (fu : Nat) (b_ : List Int) (l45 : List Int) (rec : (List Int × Int) → Option (List Int)) : (List Int × Int) → Option (List Int) := fun (l57, x59) =>
 nm (decide (x59 < ((b_.length : Nat) : Int))) fun t65 =>
 cond t65
 (nm (IntKind.i64.wrap (((b_.length : Nat) : Int) - x59)) fun x68 =>
 ((nm (decide (x68 > 16)) fun t72 =>
 cond t72
 (some 16)
 (some x68)) : Option (Int)).bind fun x69 =>
 (itr (fn_portcullisref1_Poly_l4 fu b_ x59 x69) fu ((List.replicate 17 0), 0)).bind fun l77 =>
 gd (0 ≤ x69 ∧ x69 < ((17 : Nat) : Int)) <|
 (upd l77 x69.toNat 1).bind fun l91 =>
 (itr (fn_portcullisref1_Poly_l5 fu l91) fu (l57, 0)).bind fun l97 =>
 (fn_portcullisref1_times fu l97 l45).bind fun l113 =>
 gd (l113.length = 17) <|
 nm (IntKind.i64.wrap (x59 + 16)) fun x117 =>
 rec (l113, x117))
 (some l57)
noncomputable def fn_portcullisref1_Poly_l7 (fu : Nat) (key_ : List Int) (l120 : List Int) (rec : (List Int × Int × Int) → Option (List Int)) : (List Int × Int × Int) → Option (List Int) := fun (l126, x128, x129) =>
 nm (decide (x129 < 16)) fun t135 =>
 cond t135
 (gd (0 ≤ x129 ∧ x129 < ((17 : Nat) : Int)) <|
 (l120[x129.toNat]?).bind fun x137 =>
 nm (IntKind.i64.wrap (x128 + x137)) fun x138 =>
 nm (IntKind.i64.wrap (16 + x129)) fun x139 =>
 gd (0 ≤ x139 ∧ x139 < ((32 : Nat) : Int)) <|
 (key_[x139.toNat]?).bind fun x141 =>
 nm (IntKind.i64.wrap x141) fun x142 =>
 nm (IntKind.i64.wrap (x138 + x142)) fun x143 =>
 nm (iand .i64 x143 255) fun x144 =>
 nm (IntKind.u8.wrap x144) fun x145 =>
 gd (0 ≤ x129 ∧ x129 < ((16 : Nat) : Int)) <|
 (upd l126 x129.toNat x145).bind fun l147 =>
 nm (ishr .i64 x143 8) fun x149 =>
 nm (IntKind.i64.wrap (x129 + 1)) fun x150 =>
 rec (l147, x149, x150))
 (some l126)
noncomputable def fn_portcullisref1_Poly (fu : Nat) (key_ : List Int) (b_ : List Int) : Option (List Int) :=
 gd (key_.length = 32) <|
 (itr (fn_portcullisref1_Poly_l1 fu key_) fu ((List.replicate 17 0), 0)).bind fun l13 =>
 (itr (fn_portcullisref1_Poly_l2 fu) fu (l13, 3)).bind fun l29 =>
 (itr (fn_portcullisref1_Poly_l3 fu) fu (l29, 4)).bind fun l45 =>
 (itr (fn_portcullisref1_Poly_l6 fu b_ l45) fu ((List.replicate 17 0), 0)).bind fun l61 =>
 (fn_portcullisref1_whole fu l61).bind fun l120 =>
 gd (l120.length = 17) <|
 (itr (fn_portcullisref1_Poly_l7 fu key_ l120) fu ((List.replicate 16 0), 0, 0)).bind fun l131 =>
 some l131
noncomputable def fn_portcullisref1_tag (fu : Nat) (key_ : List Int) (nonce_ : List Int) (c_ : List Int) (beside_ : List Int) : Option (List Int) :=
 gd (key_.length = 32) <|
 gd (nonce_.length = 12) <|
 (fn_portcullisref1_Block fu key_ 0 nonce_).bind fun l9 =>
 gd (l9.length = 64) <|
 (EV.put (List.replicate 32 0) 0 (sub l9 0 (min 32 32))).bind fun l27 =>
 cond (decide (0 < beside_.length))
 (gd (beside_.length * 1 ≤ 140737488355328) <|
 nm beside_ fun l31 =>
 (fn_portcullisref1_filled fu l31).bind fun l40 =>
 gd ((l40 ++ c_).length * 1 ≤ 140737488355328) <|
 nm (l40 ++ c_) fun l52 =>
 (fn_portcullisref1_filled fu l52).bind fun l65 =>
 (fn_portcullisref1_length fu ((beside_.length : Nat) : Int)).bind fun l78 =>
 gd ((l65 ++ l78).length * 1 ≤ 140737488355328) <|
 nm (l65 ++ l78) fun l90 =>
 (fn_portcullisref1_length fu ((c_.length : Nat) : Int)).bind fun l103 =>
 gd ((l90 ++ l103).length * 1 ≤ 140737488355328) <|
 nm (l90 ++ l103) fun l115 =>
 (fn_portcullisref1_Poly fu l27 l115).bind fun l128 =>
 gd (l128.length = 16) <|
 some l128)
 (none)
noncomputable def fn_portcullisref1_Seal (fu : Nat) (key_ : List Int) (nonce_ : List Int) (plain_ : List Int) (beside_ : List Int) : Option (List Int) :=
 gd (key_.length = 32) <|
 gd (nonce_.length = 12) <|
 (fn_portcullisref1_Turn fu key_ 1 nonce_ plain_).bind fun l7 =>
 (fn_portcullisref1_tag fu key_ nonce_ l7 beside_).bind fun l16 =>
 gd (l16.length = 16) <|
 gd ((l7 ++ l16).length * 1 ≤ 140737488355328) <|
 nm (l7 ++ l16) fun l28 =>
 some l28
noncomputable def fn_portcullisref16_SealBlock (fu : Nat) (key_ : List Int) (version_ : Int) (i_ : Int) (plain_ : List Int) : Option ((Unit) ⊕ (List Int)) :=
 gd (key_.length = 32) <|
 (((fn_portcullisref16_small fu version_).bind fun t8 =>
 nm (!t8) fun t10 =>
 cond (t10 == false)
 (nm (decide (i_ < 0)) fun t11 =>
 cond (t11 == false)
 (nm (decide (i_ > 31)) fun t12 =>
 cond (t12 == false)
 (nm (((plain_.length : Nat) : Int) != 64) fun t13 =>
 some t13)
 (some true))
 (some true))
 (some true)) : Option (Bool)).bind fun t3 =>
 cond t3
 (some (Sum.inl ()))
 ((fn_portcullisref16_nonce fu i_).bind fun l16 =>
 gd (l16.length = 12) <|
 (fn_portcullisref1_One fu version_).bind fun l22 =>
 (fn_portcullisref1_Seal fu key_ l16 plain_ l22).bind fun l35 =>
 some (Sum.inr (l35)))
noncomputable def fn_flash_Flash_Plan (fu : Nat) (f_0 : List Int) (f_1 : Int) (f_2 : Int) (f_3 : Bool) (f_4 : Int) (f_5 : Int) (c_0 : Int) (c_1 : Int) : Option (Int) :=
 nm (if c_0 > (-1) then c_0 else (-1)) fun x3 =>
 some x3
noncomputable def fn_flash_Flash_Start (fu : Nat) (f_0 : List Int) (f_1 : Int) (f_2 : Int) (f_3 : Bool) (f_4 : Int) (f_5 : Int) : Option (Unit) :=
 some ()
noncomputable def fn_image_may (fu : Nat) (version_ : Int) (i_ : Int) : Option (Bool) :=
 ((nm (decide (version_ ≥ 0)) fun t4 =>
 cond (t4 == true)
 (nm (decide (version_ ≤ 2147483647)) fun t5 =>
 cond (t5 == true)
 (nm (decide (i_ ≥ 0)) fun t6 =>
 cond (t6 == true)
 (nm (decide (i_ < 32)) fun t7 =>
 some t7)
 (some false))
 (some false))
 (some false)) : Option (Bool)).bind fun t1 =>
 some t1
noncomputable def fn_pack_Int_l1 (fu : Nat) (x41 : Int) (rec : (List Int × Int) → Option (List Int)) : (List Int × Int) → Option (List Int) := fun (l45, x52) =>
 nm (decide (x52 ≥ 0)) fun t66 =>
 cond t66
 (nm (IntKind.i64.wrap (8 * x52)) fun x67 =>
 gd (0 ≤ x67) <|
 nm (ishr .u64 x41 x67) fun x69 =>
 nm (IntKind.u8.wrap x69) fun x70 =>
 gd ((l45 ++ [x70]).length * 1 ≤ 140737488355328) <|
 nm (l45 ++ [x70]) fun l74 =>
 nm (IntKind.i64.wrap (x52 - 1)) fun x85 =>
 rec (l74, x85))
 (some l45)
noncomputable def fn_pack_Int_l2 (fu : Nat) (n_ : List Int) (rec : (List Int × Int) → Option (List Int)) : (List Int × Int) → Option (List Int) := fun (l17, x24) =>
 nm (decide (x24 < ((n_.length : Nat) : Int))) fun t38 =>
 cond t38
 (gd (0 ≤ x24 ∧ x24 < ((n_.length : Nat) : Int)) <|
 (n_[x24.toNat]?).bind fun x40 =>
 nm (IntKind.u64.wrap x40) fun x41 =>
 (itr (fn_pack_Int_l1 fu x41) fu (l17, 7)).bind fun l57 =>
 nm (IntKind.i64.wrap (x24 + 1)) fun x86 =>
 rec (l57, x86))
 (some l17)
noncomputable def fn_pack_Int (fu : Nat) (b_ : List Int) (n_ : List Int) : Option (List Int) :=
 (fn_bytes_Clone fu b_).bind fun l3 =>
 (itr (fn_pack_Int_l2 fu n_) fu (l3, 0)).bind fun l29 =>
 some l29
noncomputable def fn_image_nonce (fu : Nat) (i_ : Int) : Option (List Int) :=
 (fn_pack_Int fu (List.replicate 4 0) [i_]).bind fun l9 =>
 gd (12 ≤ l9.length) <|
 nm (sub l9 0 12) fun l21 =>
 some l21
noncomputable def fn_bytes_Clone_2 (fu : Nat) : Option (Unit) :=
 some ()
noncomputable def fn_pack_Int_2_l1 (fu : Nat) (x46 : Int) (rec : ((Unit) ⊕ (List Int × Int)) → Option (List Int)) : ((Unit) ⊕ (List Int × Int)) → Option (List Int) := fun z => match z with
 | .inl () => (nm (ishr .u64 x46 56) fun x72 =>
 nm (IntKind.u8.wrap x72) fun x73 =>
 gd ([x73].length * 1 ≤ 140737488355328) <|
 nm [x73] fun l77 =>
 rec (Sum.inr ((l77, 6))))
 | .inr ((l51, x58)) => (nm (decide (x58 ≥ 0)) fun t84 =>
 cond t84
 (nm (IntKind.i64.wrap (8 * x58)) fun x85 =>
 gd (0 ≤ x85) <|
 nm (ishr .u64 x46 x85) fun x87 =>
 nm (IntKind.u8.wrap x87) fun x88 =>
 gd ((l51 ++ [x88]).length * 1 ≤ 140737488355328) <|
 nm (l51 ++ [x88]) fun l92 =>
 nm (IntKind.i64.wrap (x58 - 1)) fun x103 =>
 rec (Sum.inr ((l92, x103))))
 (some l51))
noncomputable def fn_pack_Int_2_l2 (fu : Nat) (x107 : Int) (rec : (List Int × Int) → Option (List Int)) : (List Int × Int) → Option (List Int) := fun (l111, x118) =>
 nm (decide (x118 ≥ 0)) fun t132 =>
 cond t132
 (nm (IntKind.i64.wrap (8 * x118)) fun x133 =>
 gd (0 ≤ x133) <|
 nm (ishr .u64 x107 x133) fun x135 =>
 nm (IntKind.u8.wrap x135) fun x136 =>
 gd ((l111 ++ [x136]).length * 1 ≤ 140737488355328) <|
 nm (l111 ++ [x136]) fun l140 =>
 nm (IntKind.i64.wrap (x118 - 1)) fun x151 =>
 rec (l140, x151))
 (some l111)
noncomputable def fn_pack_Int_2_l3 (fu : Nat) (n_ : List Int) (rec : ((Unit) ⊕ (List Int × Int)) → Option ((Unit) ⊕ (List Int))) : ((Unit) ⊕ (List Int × Int)) → Option ((Unit) ⊕ (List Int)) := fun z => match z with
 | .inl () => (nm (decide (0 < ((n_.length : Nat) : Int))) fun t43 =>
 cond t43
 (gd (0 ≤ (0 : Int) ∧ (0 : Int) < ((n_.length : Nat) : Int)) <|
 (n_[0]?).bind fun x45 =>
 nm (IntKind.u64.wrap x45) fun x46 =>
 (itr (fn_pack_Int_2_l1 fu x46) fu (Sum.inl ())).bind fun l63 =>
 rec (Sum.inr ((l63, 1))))
 (some (Sum.inl ())))
 | .inr ((l21, x28)) => (nm (decide (x28 < ((n_.length : Nat) : Int))) fun t104 =>
 cond t104
 (gd (0 ≤ x28 ∧ x28 < ((n_.length : Nat) : Int)) <|
 (n_[x28.toNat]?).bind fun x106 =>
 nm (IntKind.u64.wrap x106) fun x107 =>
 (itr (fn_pack_Int_2_l2 fu x107) fu (l21, 7)).bind fun l123 =>
 nm (IntKind.i64.wrap (x28 + 1)) fun x152 =>
 rec (Sum.inr ((l123, x152))))
 (some (Sum.inr (l21))))
noncomputable def fn_pack_Int_2 (fu : Nat) (n_ : List Int) : Option ((Unit) ⊕ (List Int)) :=
 (fn_bytes_Clone_2 fu).bind fun _ =>
 (((itr (fn_pack_Int_2_l3 fu n_) fu (Sum.inl ())).bind fun o => match o with
 | .inl () => (some (Sum.inl ()))
 | .inr (l34) => (some (Sum.inr (l34)))) : Option ((Unit) ⊕ (List Int))).bind fun o => match o with
 | .inl () => (some (Sum.inl ()))
 | .inr (l8) => (some (Sum.inr (l8)))
noncomputable def fn_chacha_word (fu : Nat) (b_ : List Int) : Option (Int) :=
 gd (0 ≤ (0 : Int) ∧ (0 : Int) < ((b_.length : Nat) : Int)) <|
 (b_[0]?).bind fun x2 =>
 nm (IntKind.u32.wrap x2) fun x3 =>
 gd (0 ≤ (1 : Int) ∧ (1 : Int) < ((b_.length : Nat) : Int)) <|
 (b_[1]?).bind fun x5 =>
 nm (IntKind.u32.wrap x5) fun x6 =>
 nm (ishl .u32 x6 8) fun x7 =>
 nm (ior .u32 x3 x7) fun x8 =>
 gd (0 ≤ (2 : Int) ∧ (2 : Int) < ((b_.length : Nat) : Int)) <|
 (b_[2]?).bind fun x10 =>
 nm (IntKind.u32.wrap x10) fun x11 =>
 nm (ishl .u32 x11 16) fun x12 =>
 nm (ior .u32 x8 x12) fun x13 =>
 gd (0 ≤ (3 : Int) ∧ (3 : Int) < ((b_.length : Nat) : Int)) <|
 (b_[3]?).bind fun x15 =>
 nm (IntKind.u32.wrap x15) fun x16 =>
 nm (ishl .u32 x16 24) fun x17 =>
 nm (ior .u32 x13 x17) fun x18 =>
 some x18
noncomputable def fn_chacha_begin_l1 (fu : Nat) (key_ : List Int) (rec : (List Int × Int) → Option (List Int)) : (List Int × Int) → Option (List Int) := fun (l9, x11) =>
 nm (decide (x11 < 8)) fun t17 =>
 cond t17
 (nm (IntKind.i64.wrap (4 + x11)) fun x18 =>
 nm (IntKind.i64.wrap (4 * x11)) fun x19 =>
 gd (0 ≤ x19 ∧ x19 ≤ ((32 : Nat) : Int) ∧ ((32 : Nat) : Int) ≤ ((32 : Nat) : Int)) <|
 (fn_chacha_word fu (sub key_ x19.toNat (32 - x19.toNat))).bind fun x32 =>
 gd (0 ≤ x18 ∧ x18 < ((16 : Nat) : Int)) <|
 (upd l9 x18.toNat x32).bind fun l35 =>
 nm (IntKind.i64.wrap (x11 + 1)) fun x37 =>
 rec (l35, x37))
 (some l9)
noncomputable def fn_chacha_begin_l2 (fu : Nat) (nonce_ : List Int) (rec : (List Int × Int) → Option (List Int)) : (List Int × Int) → Option (List Int) := fun (l40, x42) =>
 nm (decide (x42 < 3)) fun t48 =>
 cond t48
 (nm (IntKind.i64.wrap (13 + x42)) fun x49 =>
 nm (IntKind.i64.wrap (4 * x42)) fun x50 =>
 gd (0 ≤ x50 ∧ x50 ≤ ((12 : Nat) : Int) ∧ ((12 : Nat) : Int) ≤ ((12 : Nat) : Int)) <|
 (fn_chacha_word fu (sub nonce_ x50.toNat (12 - x50.toNat))).bind fun x63 =>
 gd (0 ≤ x49 ∧ x49 < ((16 : Nat) : Int)) <|
 (upd l40 x49.toNat x63).bind fun l66 =>
 nm (IntKind.i64.wrap (x42 + 1)) fun x68 =>
 rec (l66, x68))
 (some l40)
noncomputable def fn_chacha_begin (fu : Nat) (key_ : List Int) (counter_ : Int) (nonce_ : List Int) : Option (List Int) :=
 gd (key_.length = 32) <|
 gd (nonce_.length = 12) <|
 (itr (fn_chacha_begin_l1 fu key_) fu ([1634760805, 857760878, 2036477234, 1797285236, 0, 0, 0, 0, 0, 0, 0, 0, 0, 0, 0, 0], 0)).bind fun l13 =>
 (upd l13 12 counter_).bind fun l38 =>
 (itr (fn_chacha_begin_l2 fu nonce_) fu (l38, 0)).bind fun l44 =>
 some l44
noncomputable def fn_math_bits_RotateLeft32 (fu : Nat) (x_ : Int) (k_ : Int) : Option (Int) :=
 nm (IntKind.u64.wrap k_) fun x1 =>
 nm (iand .u64 x1 31) fun x2 =>
 gd (0 ≤ x2) <|
 nm (ishl .u32 x_ x2) fun x4 =>
 nm (IntKind.u64.wrap (32 - x2)) fun x5 =>
 gd (0 ≤ x5) <|
 nm (ishr .u32 x_ x5) fun x7 =>
 nm (ior .u32 x4 x7) fun x8 =>
 some x8
noncomputable def fn_chacha_quarter (fu : Nat) (s_ : List Int) (a_ : Int) (b_ : Int) (c_ : Int) (d_ : Int) : Option (List Int) :=
 gd (s_.length = 16) <|
 gd (0 ≤ a_ ∧ a_ < ((16 : Nat) : Int)) <|
 (s_[a_.toNat]?).bind fun x2 =>
 gd (0 ≤ b_ ∧ b_ < ((16 : Nat) : Int)) <|
 (s_[b_.toNat]?).bind fun x4 =>
 nm (IntKind.u32.wrap (x2 + x4)) fun x5 =>
 gd (0 ≤ a_ ∧ a_ < ((16 : Nat) : Int)) <|
 (upd s_ a_.toNat x5).bind fun l7 =>
 gd (0 ≤ d_ ∧ d_ < ((16 : Nat) : Int)) <|
 (l7[d_.toNat]?).bind fun x10 =>
 gd (0 ≤ a_ ∧ a_ < ((16 : Nat) : Int)) <|
 (l7[a_.toNat]?).bind fun x12 =>
 nm (ixor .u32 x10 x12) fun x13 =>
 (fn_math_bits_RotateLeft32 fu x13 16).bind fun x16 =>
 gd (0 ≤ d_ ∧ d_ < ((16 : Nat) : Int)) <|
 (upd l7 d_.toNat x16).bind fun l19 =>
 gd (0 ≤ c_ ∧ c_ < ((16 : Nat) : Int)) <|
 (l19[c_.toNat]?).bind fun x22 =>
 gd (0 ≤ d_ ∧ d_ < ((16 : Nat) : Int)) <|
 (l19[d_.toNat]?).bind fun x24 =>
 nm (IntKind.u32.wrap (x22 + x24)) fun x25 =>
 gd (0 ≤ c_ ∧ c_ < ((16 : Nat) : Int)) <|
 (upd l19 c_.toNat x25).bind fun l27 =>
 gd (0 ≤ b_ ∧ b_ < ((16 : Nat) : Int)) <|
 (l27[b_.toNat]?).bind fun x30 =>
 gd (0 ≤ c_ ∧ c_ < ((16 : Nat) : Int)) <|
 (l27[c_.toNat]?).bind fun x32 =>
 nm (ixor .u32 x30 x32) fun x33 =>
 (fn_math_bits_RotateLeft32 fu x33 12).bind fun x36 =>
 gd (0 ≤ b_ ∧ b_ < ((16 : Nat) : Int)) <|
 (upd l27 b_.toNat x36).bind fun l39 =>
 gd (0 ≤ a_ ∧ a_ < ((16 : Nat) : Int)) <|
 (l39[a_.toNat]?).bind fun x42 =>
 gd (0 ≤ b_ ∧ b_ < ((16 : Nat) : Int)) <|
 (l39[b_.toNat]?).bind fun x44 =>
 nm (IntKind.u32.wrap (x42 + x44)) fun x45 =>
 gd (0 ≤ a_ ∧ a_ < ((16 : Nat) : Int)) <|
 (upd l39 a_.toNat x45).bind fun l47 =>
 gd (0 ≤ d_ ∧ d_ < ((16 : Nat) : Int)) <|
 (l47[d_.toNat]?).bind fun x50 =>
 gd (0 ≤ a_ ∧ a_ < ((16 : Nat) : Int)) <|
 (l47[a_.toNat]?).bind fun x52 =>
 nm (ixor .u32 x50 x52) fun x53 =>
 (fn_math_bits_RotateLeft32 fu x53 8).bind fun x56 =>
 gd (0 ≤ d_ ∧ d_ < ((16 : Nat) : Int)) <|
 (upd l47 d_.toNat x56).bind fun l59 =>
 gd (0 ≤ c_ ∧ c_ < ((16 : Nat) : Int)) <|
 (l59[c_.toNat]?).bind fun x62 =>
 gd (0 ≤ d_ ∧ d_ < ((16 : Nat) : Int)) <|
 (l59[d_.toNat]?).bind fun x64 =>
 nm (IntKind.u32.wrap (x62 + x64)) fun x65 =>
 gd (0 ≤ c_ ∧ c_ < ((16 : Nat) : Int)) <|
 (upd l59 c_.toNat x65).bind fun l67 =>
 gd (0 ≤ b_ ∧ b_ < ((16 : Nat) : Int)) <|
 (l67[b_.toNat]?).bind fun x70 =>
 gd (0 ≤ c_ ∧ c_ < ((16 : Nat) : Int)) <|
 (l67[c_.toNat]?).bind fun x72 =>
 nm (ixor .u32 x70 x72) fun x73 =>
 (fn_math_bits_RotateLeft32 fu x73 7).bind fun x76 =>
 gd (0 ≤ b_ ∧ b_ < ((16 : Nat) : Int)) <|
 (upd l67 b_.toNat x76).bind fun l79 =>
 some l79
noncomputable def fn_chacha_Block_l1 (fu : Nat) (rec : (List Int × Int) → Option (List Int)) : (List Int × Int) → Option (List Int) := fun (l27, x29) =>
 nm (decide (x29 < 4)) fun t35 =>
 cond t35
 (nm (IntKind.i64.wrap (4 + x29)) fun x36 =>
 nm (IntKind.i64.wrap (8 + x29)) fun x37 =>
 nm (IntKind.i64.wrap (12 + x29)) fun x38 =>
 (fn_chacha_quarter fu l27 x29 x36 x37 x38).bind fun l41 =>
 gd (l41.length = 16) <|
 nm (IntKind.i64.wrap (x29 + 1)) fun x45 =>
 rec (l41, x45))
 (some l27)
noncomputable def fn_chacha_Block_l2 (fu : Nat) (rec : (List Int × Int) → Option (List Int)) : (List Int × Int) → Option (List Int) := fun (l46, x48) =>
 nm (decide (x48 < 4)) fun t54 =>
 cond t54
 (nm (IntKind.i64.wrap (x48 + 1)) fun x55 =>
 nm (x55.tmod 4) fun x56 =>
 nm (IntKind.i64.wrap (4 + x56)) fun x57 =>
 nm (IntKind.i64.wrap (x48 + 2)) fun x58 =>
 nm (x58.tmod 4) fun x59 =>
 nm (IntKind.i64.wrap (8 + x59)) fun x60 =>
 nm (IntKind.i64.wrap (x48 + 3)) fun x61 =>
 nm (x61.tmod 4) fun x62 =>
 nm (IntKind.i64.wrap (12 + x62)) fun x63 =>
 (fn_chacha_quarter fu l46 x48 x57 x60 x63).bind fun l66 =>
 gd (l66.length = 16) <|
 nm (IntKind.i64.wrap (x48 + 1)) fun x70 =>
 rec (l66, x70))
 (some l46)
noncomputable def fn_chacha_Block_l3 (fu : Nat) (rec : (List Int × Int) → Option (List Int)) : (List Int × Int) → Option (List Int) := fun (l18, x20) =>
 nm (decide (x20 < 10)) fun t26 =>
 cond t26
 ((itr (fn_chacha_Block_l1 fu) fu (l18, 0)).bind fun l31 =>
 (itr (fn_chacha_Block_l2 fu) fu (l31, 0)).bind fun l50 =>
 nm (IntKind.i64.wrap (x20 + 1)) fun x71 =>
 rec (l50, x71))
 (some l18)
noncomputable def fn_chacha_Block_l4 (fu : Nat) (l10 : List Int) (l22 : List Int) (rec : (List Int × Int) → Option (List Int)) : (List Int × Int) → Option (List Int) := fun (l74, x76) =>
 nm (decide (x76 < 64)) fun t82 =>
 cond t82
 (nm (IntKind.i64.wrap (x76.tdiv 4)) fun x83 =>
 gd (0 ≤ x83 ∧ x83 < ((16 : Nat) : Int)) <|
 (l22[x83.toNat]?).bind fun x85 =>
 nm (IntKind.i64.wrap (x76.tdiv 4)) fun x86 =>
 gd (0 ≤ x86 ∧ x86 < ((16 : Nat) : Int)) <|
 (l10[x86.toNat]?).bind fun x88 =>
 nm (IntKind.u32.wrap (x85 + x88)) fun x89 =>
 nm (x76.tmod 4) fun x90 =>
 nm (IntKind.i64.wrap (8 * x90)) fun x91 =>
 gd (0 ≤ x91) <|
 nm (ishr .u32 x89 x91) fun x93 =>
 nm (IntKind.u8.wrap x93) fun x94 =>
 gd (0 ≤ x76 ∧ x76 < ((64 : Nat) : Int)) <|
 (upd l74 x76.toNat x94).bind fun l96 =>
 nm (IntKind.i64.wrap (x76 + 1)) fun x98 =>
 rec (l96, x98))
 (some l74)
noncomputable def fn_chacha_Block (fu : Nat) (key_ : List Int) (counter_ : Int) (nonce_ : List Int) : Option (List Int) :=
 gd (key_.length = 32) <|
 gd (nonce_.length = 12) <|
 nm (IntKind.u32.wrap counter_) fun x7 =>
 (fn_chacha_begin fu key_ x7 nonce_).bind fun l10 =>
 gd (l10.length = 16) <|
 (itr (fn_chacha_Block_l3 fu) fu (l10, 0)).bind fun l22 =>
 (itr (fn_chacha_Block_l4 fu l10 l22) fu ((List.replicate 64 0), 0)).bind fun l78 =>
 some l78
noncomputable def fn_aead_rest (fu : Nat) (n_ : Int) : Option (List Int) :=
 nm (n_.tmod 16) fun x1 =>
 nm (IntKind.i64.wrap (16 - x1)) fun x2 =>
 nm (x2.tmod 16) fun x3 =>
 gd (0 ≤ x3 ∧ ((1 : Nat) : Int) * x3 ≤ 281474976710656 ∧ x3 ≤ 9223372036854775807) <|
 some (List.replicate x3.toNat 0)
noncomputable def fn_aead_eight_l1 (fu : Nat) (n_ : Int) (rec : (List Int × Int) → Option (List Int)) : (List Int × Int) → Option (List Int) := fun (l3, x5) =>
 nm (decide (x5 < ((8 : Nat) : Int))) fun t11 =>
 cond t11
 (nm (IntKind.i64.wrap (8 * x5)) fun x12 =>
 gd (0 ≤ x12) <|
 nm (ishr .i64 n_ x12) fun x14 =>
 nm (IntKind.u8.wrap x14) fun x15 =>
 gd (0 ≤ x5 ∧ x5 < ((8 : Nat) : Int)) <|
 (upd l3 x5.toNat x15).bind fun l17 =>
 nm (IntKind.i64.wrap (x5 + 1)) fun x19 =>
 rec (l17, x19))
 (some l3)
noncomputable def fn_aead_eight (fu : Nat) (n_ : Int) : Option (List Int) :=
 (itr (fn_aead_eight_l1 fu n_) fu ((List.replicate 8 0), 0)).bind fun l7 =>
 some l7
noncomputable def fn_limb_Of_l1 (fu : Nat) (a_ : List Int) (rec : (List Int × Int) → Option (List Int)) : (List Int × Int) → Option (List Int) := fun (l7, x9) =>
 nm (decide (x9 < 32)) fun t15 =>
 cond t15
 (gd (0 ≤ x9 ∧ x9 < ((32 : Nat) : Int)) <|
 (a_[x9.toNat]?).bind fun x17 =>
 nm (IntKind.i64.wrap (x9.tdiv 8)) fun x18 =>
 gd (0 ≤ x18 ∧ x18 < ((4 : Nat) : Int)) <|
 (l7[x18.toNat]?).bind fun x20 =>
 nm (IntKind.u64.wrap x17) fun x21 =>
 nm (x9.tmod 8) fun x22 =>
 nm (IntKind.i64.wrap (8 * x22)) fun x23 =>
 gd (0 ≤ x23) <|
 nm (ishl .u64 x21 x23) fun x25 =>
 nm (ior .u64 x20 x25) fun x26 =>
 gd (0 ≤ x18 ∧ x18 < ((4 : Nat) : Int)) <|
 (upd l7 x18.toNat x26).bind fun l28 =>
 nm (IntKind.i64.wrap (x9 + 1)) fun x30 =>
 rec (l28, x30))
 (some l7)
noncomputable def fn_limb_Of (fu : Nat) (a_ : List Int) : Option (List Int) :=
 gd (a_.length = 32) <|
 (itr (fn_limb_Of_l1 fu a_) fu ((List.replicate 4 0), 0)).bind fun l11 =>
 some l11
noncomputable def fn_poly_clamped (fu : Nat) (key_ : List Int) : Option (List Int) :=
 gd (key_.length = 32) <|
 (fn_limb_Of fu key_).bind fun l7 =>
 gd (l7.length = 4) <|
 (l7[0]?).bind fun x13 =>
 nm (iand .u64 x13 1152921487695413247) fun x14 =>
 (l7[1]?).bind fun x15 =>
 nm (iand .u64 x15 1152921487695413244) fun x16 =>
 some [x14, x16, 0, 0]
noncomputable def fn_limb_N_Add_l1 (fu : Nat) (n_ : List Int) (m_ : List Int) (rec : (List Int × Int × Int) → Option (List Int × Int)) : (List Int × Int × Int) → Option (List Int × Int) := fun (l9, x11, x12) =>
 nm (decide (x12 < 4)) fun t19 =>
 cond t19
 (gd (0 ≤ x12 ∧ x12 < ((4 : Nat) : Int)) <|
 (n_[x12.toNat]?).bind fun x21 =>
 gd (0 ≤ x12 ∧ x12 < ((4 : Nat) : Int)) <|
 (m_[x12.toNat]?).bind fun x23 =>
 gd (0 ≤ x21 ∧ 0 ≤ x23 ∧ 0 ≤ x11 ∧ x11 ≤ 1) <|
 nm ((x21 + x23 + x11) % 18446744073709551616) fun x25 =>
 nm ((x21 + x23 + x11) / 18446744073709551616) fun x26 =>
 gd (0 ≤ x12 ∧ x12 < ((4 : Nat) : Int)) <|
 (upd l9 x12.toNat x25).bind fun l29 =>
 nm (IntKind.i64.wrap (x12 + 1)) fun x31 =>
 rec (l29, x26, x31))
 (some (l9, x11))
noncomputable def fn_limb_N_Add (fu : Nat) (n_ : List Int) (m_ : List Int) : Option (List Int × Int) :=
 gd (n_.length = 4) <|
 gd (m_.length = 4) <|
 (itr (fn_limb_N_Add_l1 fu n_ m_) fu ((List.replicate 4 0), 0, 0)).bind fun (l14, x16) =>
 some (l14, x16)
noncomputable def fn_limb_N_Mul_l1 (fu : Nat) (n_ : List Int) (m_ : List Int) (x11 : Int) (rec : (List Int × Int × Int) → Option (List Int × Int)) : (List Int × Int × Int) → Option (List Int × Int) := fun (l18, x20, x21) =>
 nm (decide (x21 < 4)) fun t28 =>
 cond t28
 (gd (0 ≤ x11 ∧ x11 < ((4 : Nat) : Int)) <|
 (n_[x11.toNat]?).bind fun x30 =>
 gd (0 ≤ x21 ∧ x21 < ((4 : Nat) : Int)) <|
 (m_[x21.toNat]?).bind fun x32 =>
 (fn_math_bits_Mul64 fu x30 x32).bind fun (x35, x36) =>
 nm (IntKind.i64.wrap (x11 + x21)) fun x38 =>
 gd (0 ≤ x38 ∧ x38 < ((8 : Nat) : Int)) <|
 (l18[x38.toNat]?).bind fun x40 =>
 gd (0 ≤ x36 ∧ 0 ≤ x40 ∧ 0 ≤ (0 : Int) ∧ (0 : Int) ≤ 1) <|
 nm ((x36 + x40 + 0) % 18446744073709551616) fun x42 =>
 nm ((x36 + x40 + 0) / 18446744073709551616) fun x43 =>
 nm (IntKind.u64.wrap (x35 + x43)) fun x45 =>
 gd (0 ≤ x42 ∧ 0 ≤ x20 ∧ 0 ≤ (0 : Int) ∧ (0 : Int) ≤ 1) <|
 nm ((x42 + x20 + 0) % 18446744073709551616) fun x47 =>
 nm ((x42 + x20 + 0) / 18446744073709551616) fun x48 =>
 nm (IntKind.i64.wrap (x11 + x21)) fun x50 =>
 nm (IntKind.u64.wrap (x45 + x48)) fun x51 =>
 gd (0 ≤ x50 ∧ x50 < ((8 : Nat) : Int)) <|
 (upd l18 x50.toNat x47).bind fun l53 =>
 nm (IntKind.i64.wrap (x21 + 1)) fun x55 =>
 rec (l53, x51, x55))
 (some (l18, x20))
noncomputable def fn_limb_N_Mul_l2 (fu : Nat) (n_ : List Int) (m_ : List Int) (rec : (List Int × Int) → Option (List Int)) : (List Int × Int) → Option (List Int) := fun (l9, x11) =>
 nm (decide (x11 < 4)) fun t17 =>
 cond t17
 ((itr (fn_limb_N_Mul_l1 fu n_ m_ x11) fu (l9, 0, 0)).bind fun (l23, x25) =>
 nm (IntKind.i64.wrap (x11 + 4)) fun x56 =>
 gd (0 ≤ x56 ∧ x56 < ((8 : Nat) : Int)) <|
 (upd l23 x56.toNat x25).bind fun l58 =>
 nm (IntKind.i64.wrap (x11 + 1)) fun x60 =>
 rec (l58, x60))
 (some l9)
noncomputable def fn_limb_N_Mul (fu : Nat) (n_ : List Int) (m_ : List Int) : Option (List Int) :=
 gd (n_.length = 4) <|
 gd (m_.length = 4) <|
 (itr (fn_limb_N_Mul_l2 fu n_ m_) fu ((List.replicate 8 0), 0)).bind fun l13 =>
 some l13
noncomputable def fn_poly_fold (fu : Nat) (n_ : List Int) : Option (List Int) :=
 gd (n_.length = 4) <|
 (n_[0]?).bind fun x5 =>
 (n_[1]?).bind fun x6 =>
 (n_[2]?).bind fun x7 =>
 nm (iand .u64 x7 3) fun x8 =>
 (n_[2]?).bind fun x11 =>
 nm (ishr .u64 x11 2) fun x12 =>
 (n_[3]?).bind fun x13 =>
 nm (ishl .u64 x13 62) fun x14 =>
 nm (ior .u64 x12 x14) fun x15 =>
 (fn_math_bits_Mul64 fu x15 5).bind fun (x18, x19) =>
 (n_[3]?).bind fun x21 =>
 nm (ishr .u64 x21 2) fun x22 =>
 (fn_math_bits_Mul64 fu x22 5).bind fun (x25, x26) =>
 gd (0 ≤ x26 ∧ 0 ≤ x18 ∧ 0 ≤ (0 : Int) ∧ (0 : Int) ≤ 1) <|
 nm ((x26 + x18 + 0) % 18446744073709551616) fun x29 =>
 nm ((x26 + x18 + 0) / 18446744073709551616) fun x30 =>
 nm (IntKind.u64.wrap (x25 + x30)) fun x32 =>
 (fn_limb_N_Add fu [x5, x6, x8, 0] [x19, x29, x32, 0]).bind fun (l35, x36) =>
 gd (l35.length = 4) <|
 some l35
noncomputable def fn_poly_state_turn (fu : Nat) (s_0 : List Int) (s_1 : List Int) (s_2 : List Int) (s_3 : Int) : Option (List Int) :=
 gd (s_0.length = 4) <|
 gd (s_1.length = 4) <|
 gd (s_2.length = 16) <|
 gd (0 ≤ (0 : Int) ∧ (0 : Int) ≤ s_3 ∧ s_3 ≤ ((16 : Nat) : Int)) <|
 (EV.put (List.replicate 32 0) 0 (sub s_2 0 (min s_3.toNat 32))).bind fun l14 =>
 gd (0 ≤ s_3 ∧ s_3 < ((32 : Nat) : Int)) <|
 (upd l14 s_3.toNat 1).bind fun l17 =>
 (((fn_limb_Of fu l17).bind fun l26 =>
 gd (l26.length = 4) <|
 (fn_limb_N_Add fu s_0 l26).bind fun (l32, x33) =>
 gd (l32.length = 4) <|
 some l32) : Option (List Int)).bind fun l20 =>
 (((fn_limb_N_Mul fu l20 s_1).bind fun l70 =>
 gd (l70.length = 8) <|
 some l70) : Option (List Int)).bind fun l64 =>
 nm (sub l64 0 4) fun l89 =>
 (fn_poly_fold fu l89).bind fun l93 =>
 gd (l93.length = 4) <|
 some l93
noncomputable def fn_poly_state_take (fu : Nat) (s_0 : List Int) (s_1 : List Int) (s_2 : List Int) (s_3 : Int) (x_ : Int) : Option (List Int × List Int × Int) :=
 gd (s_0.length = 4) <|
 gd (s_1.length = 4) <|
 gd (s_2.length = 16) <|
 gd (0 ≤ s_3 ∧ s_3 < ((16 : Nat) : Int)) <|
 (upd s_2 s_3.toNat x_).bind fun l2 =>
 nm (IntKind.i64.wrap (s_3 + 1)) fun x4 =>
 nm (x4 == 16) fun t5 =>
 cond t5
 ((fn_poly_state_turn fu s_0 s_1 l2 x4).bind fun l8 =>
 gd (l8.length = 4) <|
 some (l8, l2, 0))
 (some (s_0, l2, x4))
noncomputable def fn_poly_prime (fu : Nat) : Option (Unit) :=
 some ()
noncomputable def fn_limb_N_Sub_l1 (fu : Nat) (n_ : List Int) (m_ : List Int) (rec : (List Int × Int × Int) → Option (List Int × Int)) : (List Int × Int × Int) → Option (List Int × Int) := fun (l9, x11, x12) =>
 nm (decide (x12 < 4)) fun t19 =>
 cond t19
 (gd (0 ≤ x12 ∧ x12 < ((4 : Nat) : Int)) <|
 (n_[x12.toNat]?).bind fun x21 =>
 gd (0 ≤ x12 ∧ x12 < ((4 : Nat) : Int)) <|
 (m_[x12.toNat]?).bind fun x23 =>
 gd (0 ≤ x21 ∧ 0 ≤ x23 ∧ x23 < 18446744073709551616 ∧ 0 ≤ x11 ∧ x11 ≤ 1) <|
 nm ((x21 - x23 - x11) % 18446744073709551616) fun x25 =>
 nm (if x21 < x23 + x11 then 1 else 0) fun x26 =>
 gd (0 ≤ x12 ∧ x12 < ((4 : Nat) : Int)) <|
 (upd l9 x12.toNat x25).bind fun l29 =>
 nm (IntKind.i64.wrap (x12 + 1)) fun x31 =>
 rec (l29, x26, x31))
 (some (l9, x11))
noncomputable def fn_limb_N_Sub (fu : Nat) (n_ : List Int) (m_ : List Int) : Option (List Int × Int) :=
 gd (n_.length = 4) <|
 gd (m_.length = 4) <|
 (itr (fn_limb_N_Sub_l1 fu n_ m_) fu ((List.replicate 4 0), 0, 0)).bind fun (l14, x16) =>
 some (l14, x16)
noncomputable def fn_limb_N_Num_l1 (fu : Nat) (n_ : List Int) (rec : (List Int × Int) → Option (List Int)) : (List Int × Int) → Option (List Int) := fun (l7, x9) =>
 nm (decide (x9 < 32)) fun t15 =>
 cond t15
 (nm (IntKind.i64.wrap (x9.tdiv 8)) fun x16 =>
 gd (0 ≤ x16 ∧ x16 < ((4 : Nat) : Int)) <|
 (n_[x16.toNat]?).bind fun x18 =>
 nm (x9.tmod 8) fun x19 =>
 nm (IntKind.i64.wrap (8 * x19)) fun x20 =>
 gd (0 ≤ x20) <|
 nm (ishr .u64 x18 x20) fun x22 =>
 nm (IntKind.u8.wrap x22) fun x23 =>
 gd (0 ≤ x9 ∧ x9 < ((32 : Nat) : Int)) <|
 (upd l7 x9.toNat x23).bind fun l25 =>
 nm (IntKind.i64.wrap (x9 + 1)) fun x27 =>
 rec (l25, x27))
 (some l7)
noncomputable def fn_limb_N_Num (fu : Nat) (n_ : List Int) : Option (List Int) :=
 gd (n_.length = 4) <|
 (itr (fn_limb_N_Num_l1 fu n_) fu ((List.replicate 32 0), 0)).bind fun l11 =>
 some l11
noncomputable def fn_poly_Sum_l1 (fu : Nat) (b__0 : List Int) (l7 : List Int) (rec : (List Int × List Int × Int × Int) → Option (List Int × List Int × Int)) : (List Int × List Int × Int × Int) → Option (List Int × List Int × Int) := fun (l13, l15, x17, x18) =>
 nm (decide (x18 < ((b__0.length : Nat) : Int))) fun t27 =>
 cond t27
 (gd (0 ≤ x18 ∧ x18 < ((b__0.length : Nat) : Int)) <|
 (b__0[x18.toNat]?).bind fun x29 =>
 (fn_poly_state_take fu l13 l7 l15 x17 x29).bind fun (l32, l33, x34) =>
 gd (l32.length = 4) <|
 gd (l33.length = 16) <|
 nm (IntKind.i64.wrap (x18 + 1)) fun x40 =>
 rec (l32, l33, x34, x40))
 (some (l13, l15, x17))
noncomputable def fn_poly_Sum_l2 (fu : Nat) (b__1 : List Int) (l7 : List Int) (rec : (List Int × List Int × Int × Int) → Option (List Int × List Int × Int)) : (List Int × List Int × Int × Int) → Option (List Int × List Int × Int) := fun (l41, l43, x45, x46) =>
 nm (decide (x46 < ((b__1.length : Nat) : Int))) fun t55 =>
 cond t55
 (gd (0 ≤ x46 ∧ x46 < ((b__1.length : Nat) : Int)) <|
 (b__1[x46.toNat]?).bind fun x57 =>
 (fn_poly_state_take fu l41 l7 l43 x45 x57).bind fun (l60, l61, x62) =>
 gd (l60.length = 4) <|
 gd (l61.length = 16) <|
 nm (IntKind.i64.wrap (x46 + 1)) fun x68 =>
 rec (l60, l61, x62, x68))
 (some (l41, l43, x45))
noncomputable def fn_poly_Sum_l3 (fu : Nat) (b__2 : List Int) (l7 : List Int) (rec : (List Int × List Int × Int × Int) → Option (List Int × List Int × Int)) : (List Int × List Int × Int × Int) → Option (List Int × List Int × Int) := fun (l69, l71, x73, x74) =>
 nm (decide (x74 < ((b__2.length : Nat) : Int))) fun t83 =>
 cond t83
 (gd (0 ≤ x74 ∧ x74 < ((b__2.length : Nat) : Int)) <|
 (b__2[x74.toNat]?).bind fun x85 =>
 (fn_poly_state_take fu l69 l7 l71 x73 x85).bind fun (l88, l89, x90) =>
 gd (l88.length = 4) <|
 gd (l89.length = 16) <|
 nm (IntKind.i64.wrap (x74 + 1)) fun x96 =>
 rec (l88, l89, x90, x96))
 (some (l69, l71, x73))
noncomputable def fn_poly_Sum_l4 (fu : Nat) (b__3 : List Int) (l7 : List Int) (rec : (List Int × List Int × Int × Int) → Option (List Int × List Int × Int)) : (List Int × List Int × Int × Int) → Option (List Int × List Int × Int) := fun (l97, l99, x101, x102) =>
 nm (decide (x102 < ((b__3.length : Nat) : Int))) fun t111 =>
 cond t111
 (gd (0 ≤ x102 ∧ x102 < ((b__3.length : Nat) : Int)) <|
 (b__3[x102.toNat]?).bind fun x113 =>
 (fn_poly_state_take fu l97 l7 l99 x101 x113).bind fun (l116, l117, x118) =>
 gd (l116.length = 4) <|
 gd (l117.length = 16) <|
 nm (IntKind.i64.wrap (x102 + 1)) fun x124 =>
 rec (l116, l117, x118, x124))
 (some (l97, l99, x101))
noncomputable def fn_poly_Sum_l5 (fu : Nat) (b__4 : List Int) (l7 : List Int) (rec : (List Int × List Int × Int × Int) → Option (List Int × List Int × Int)) : (List Int × List Int × Int × Int) → Option (List Int × List Int × Int) := fun (l125, l127, x129, x130) =>
 nm (decide (x130 < ((b__4.length : Nat) : Int))) fun t139 =>
 cond t139
 (gd (0 ≤ x130 ∧ x130 < ((b__4.length : Nat) : Int)) <|
 (b__4[x130.toNat]?).bind fun x141 =>
 (fn_poly_state_take fu l125 l7 l127 x129 x141).bind fun (l144, l145, x146) =>
 gd (l144.length = 4) <|
 gd (l145.length = 16) <|
 nm (IntKind.i64.wrap (x130 + 1)) fun x152 =>
 rec (l144, l145, x146, x152))
 (some (l125, l127, x129))
noncomputable def fn_poly_Sum_l6 (fu : Nat) (b__5 : List Int) (l7 : List Int) (rec : (List Int × List Int × Int × Int) → Option (List Int × List Int × Int)) : (List Int × List Int × Int × Int) → Option (List Int × List Int × Int) := fun (l153, l155, x157, x158) =>
 nm (decide (x158 < ((b__5.length : Nat) : Int))) fun t167 =>
 cond t167
 (gd (0 ≤ x158 ∧ x158 < ((b__5.length : Nat) : Int)) <|
 (b__5[x158.toNat]?).bind fun x169 =>
 (fn_poly_state_take fu l153 l7 l155 x157 x169).bind fun (l172, l173, x174) =>
 gd (l172.length = 4) <|
 gd (l173.length = 16) <|
 nm (IntKind.i64.wrap (x158 + 1)) fun x180 =>
 rec (l172, l173, x174, x180))
 (some (l153, l155, x157))
noncomputable def fn_poly_Sum (fu : Nat) (key_ : List Int) (b__0 : List Int) (b__1 : List Int) (b__2 : List Int) (b__3 : List Int) (b__4 : List Int) (b__5 : List Int) : Option (List Int) :=
 gd (key_.length = 32) <|
 (fn_poly_clamped fu key_).bind fun l7 =>
 gd (l7.length = 4) <|
 (itr (fn_poly_Sum_l1 fu b__0 l7) fu ((List.replicate 4 0), (List.replicate 16 0), 0, 0)).bind fun (l20, l22, x24) =>
 (itr (fn_poly_Sum_l2 fu b__1 l7) fu (l20, l22, x24, 0)).bind fun (l48, l50, x52) =>
 (itr (fn_poly_Sum_l3 fu b__2 l7) fu (l48, l50, x52, 0)).bind fun (l76, l78, x80) =>
 (itr (fn_poly_Sum_l4 fu b__3 l7) fu (l76, l78, x80, 0)).bind fun (l104, l106, x108) =>
 (itr (fn_poly_Sum_l5 fu b__4 l7) fu (l104, l106, x108, 0)).bind fun (l132, l134, x136) =>
 (itr (fn_poly_Sum_l6 fu b__5 l7) fu (l132, l134, x136, 0)).bind fun (l160, l162, x164) =>
 ((nm (decide (x164 > 0)) fun t186 =>
 cond t186
 ((fn_poly_state_turn fu l160 l7 l162 x164).bind fun l189 =>
 gd (l189.length = 4) <|
 some (l189, 0))
 (some (l160, x164))) : Option (List Int × Int)).bind fun (l181, x183) =>
 (fn_poly_fold fu l181).bind fun l195 =>
 gd (l195.length = 4) <|
 (fn_poly_fold fu l195).bind fun l201 =>
 gd (l201.length = 4) <|
 (fn_poly_fold fu l201).bind fun l207 =>
 gd (l207.length = 4) <|
 (((((fn_poly_prime fu).bind fun _ =>
 gd ([18446744073709551611, 18446744073709551615, 3, 0].length = 4) <|
 (fn_limb_N_Sub fu l207 [18446744073709551611, 18446744073709551615, 3, 0]).bind fun (l229, x230) =>
 gd (l229.length = 4) <|
 some (l229, x230)) : Option (List Int × Int)).bind fun (l218, x220) =>
 nm (x220 == 0) fun t258 =>
 cond t258
 (some l218)
 (some l207)) : Option (List Int)).bind fun l213 =>
 (fn_limb_Of fu key_).bind fun l261 =>
 gd (l261.length = 4) <|
 (l261[2]?).bind fun x267 =>
 (l261[3]?).bind fun x268 =>
 (fn_limb_N_Add fu l213 [x267, x268, 0, 0]).bind fun (l271, x272) =>
 gd (l271.length = 4) <|
 (fn_limb_N_Num fu l271).bind fun l278 =>
 gd (l278.length = 32) <|
 nm (sub l278 0 16) fun l289 =>
 some l289
noncomputable def fn_aead_tag (fu : Nat) (key_ : List Int) (nonce_ : List Int) (b_ : List Int) (beside_ : List Int) : Option (List Int) :=
 gd (key_.length = 32) <|
 gd (nonce_.length = 12) <|
 (fn_chacha_Block fu key_ 0 nonce_).bind fun l9 =>
 gd (l9.length = 64) <|
 nm (sub l9 0 32) fun l20 =>
 (fn_aead_rest fu ((beside_.length : Nat) : Int)).bind fun l24 =>
 (fn_aead_rest fu ((b_.length : Nat) : Int)).bind fun l32 =>
 (fn_aead_eight fu ((beside_.length : Nat) : Int)).bind fun l40 =>
 (fn_aead_eight fu ((b_.length : Nat) : Int)).bind fun l47 =>
 (fn_poly_Sum fu l20 beside_ l24 b_ l32 l40 l47).bind fun l56 =>
 gd (l56.length = 16) <|
 some l56
noncomputable def fn_mac_Same_l1 (fu : Nat) (a_ : List Int) (b_ : List Int) (rec : (Int × Int) → Option (Int)) : (Int × Int) → Option (Int) := fun (x2, x3) =>
 nm (decide (x3 < ((a_.length : Nat) : Int))) fun t8 =>
 cond t8
 (gd (0 ≤ x3 ∧ x3 < ((a_.length : Nat) : Int)) <|
 (a_[x3.toNat]?).bind fun x10 =>
 gd (0 ≤ x3 ∧ x3 < ((b_.length : Nat) : Int)) <|
 (b_[x3.toNat]?).bind fun x12 =>
 nm (ixor .u8 x10 x12) fun x13 =>
 nm (ior .u8 x2 x13) fun x14 =>
 nm (IntKind.i64.wrap (x3 + 1)) fun x15 =>
 rec (x14, x15))
 (some x2)
noncomputable def fn_mac_Same (fu : Nat) (a_ : List Int) (b_ : List Int) : Option (Bool) :=
 nm (((a_.length : Nat) : Int) != ((b_.length : Nat) : Int)) fun t1 =>
 cond t1
 (some false)
 ((itr (fn_mac_Same_l1 fu a_ b_) fu (0, 0)).bind fun x5 =>
 nm (x5 == 0) fun t16 =>
 some t16)
noncomputable def fn_chacha_Turn_l1 (fu : Nat) (key_ : List Int) (nonce_ : List Int) (b_ : List Int) (rec : (List Int × List Int × Int × Int) → Option (List Int)) : (List Int × List Int × Int × Int) → Option (List Int) := fun (l11, l13, x15, x16) =>
 nm (decide (x16 < ((b_.length : Nat) : Int))) fun t22 =>
 cond t22
 (gd (0 ≤ x16 ∧ x16 < ((b_.length : Nat) : Int)) <|
 (b_[x16.toNat]?).bind fun x24 =>
 ((nm (x16.tmod 64) fun x30 =>
 nm (x30 == 0) fun t31 =>
 cond t31
 (nm (IntKind.i64.wrap x15) fun x32 =>
 (fn_chacha_Block fu key_ x32 nonce_).bind fun l35 =>
 gd (l35.length = 64) <|
 nm (IntKind.u32.wrap (x15 + 1)) fun x39 =>
 some (l35, x39))
 (some (l13, x15))) : Option (List Int × Int)).bind fun (l25, x27) =>
 nm (x16.tmod 64) fun x40 =>
 gd (0 ≤ x40 ∧ x40 < ((64 : Nat) : Int)) <|
 (l25[x40.toNat]?).bind fun x42 =>
 nm (ixor .u8 x24 x42) fun x43 =>
 gd (0 ≤ x16 ∧ x16 < ((((b_.length : Nat) : Int).toNat : Nat) : Int)) <|
 (upd l11 x16.toNat x43).bind fun l45 =>
 nm (IntKind.i64.wrap (x16 + 1)) fun x47 =>
 rec (l45, l25, x27, x47))
 (some l11)
noncomputable def fn_chacha_Turn (fu : Nat) (key_ : List Int) (counter_ : Int) (nonce_ : List Int) (b_ : List Int) : Option (List Int) :=
 gd (key_.length = 32) <|
 gd (nonce_.length = 12) <|
 gd (0 ≤ ((b_.length : Nat) : Int) ∧ ((1 : Nat) : Int) * ((b_.length : Nat) : Int) ≤ 281474976710656 ∧ ((b_.length : Nat) : Int) ≤ 9223372036854775807) <|
 nm (IntKind.u32.wrap counter_) fun x10 =>
 (itr (fn_chacha_Turn_l1 fu key_ nonce_ b_) fu ((List.replicate ((b_.length : Nat) : Int).toNat 0), (List.replicate 64 0), x10, 0)).bind fun l18 =>
 some l18
noncomputable def fn_aead_Open (fu : Nat) (key_ : List Int) (nonce_ : List Int) (b_ : List Int) (beside_ : List Int) : Option ((Unit) ⊕ (List Int)) :=
 gd (key_.length = 32) <|
 gd (nonce_.length = 12) <|
 nm (IntKind.i64.wrap (((b_.length : Nat) : Int) - 16)) fun x5 =>
 nm (decide (x5 < 0)) fun t6 =>
 cond t6
 (some (Sum.inl ()))
 (((gd (0 ≤ (0 : Int) ∧ (0 : Int) ≤ x5 ∧ x5 ≤ ((b_.length : Nat) : Int)) <|
 (fn_aead_tag fu key_ nonce_ (sub b_ 0 x5.toNat) beside_).bind fun l24 =>
 gd (l24.length = 16) <|
 some l24) : Option (List Int)).bind fun l8 =>
 gd (0 ≤ x5 ∧ x5 ≤ ((b_.length : Nat) : Int) ∧ ((b_.length : Nat) : Int) ≤ ((b_.length : Nat) : Int)) <|
 (fn_mac_Same fu l8 (sub b_ x5.toNat (b_.length - x5.toNat))).bind fun t63 =>
 nm (!t63) fun t65 =>
 cond t65
 (some (Sum.inl ()))
 (gd (0 ≤ (0 : Int) ∧ (0 : Int) ≤ x5 ∧ x5 ≤ ((b_.length : Nat) : Int)) <|
 (fn_chacha_Turn fu key_ 1 nonce_ (sub b_ 0 x5.toNat)).bind fun l78 =>
 some (Sum.inr (l78))))
noncomputable def fn_image_Open (fu : Nat) (key_ : List Int) (version_ : Int) (i_ : Int) (c_ : List Int) : Option ((Int) ⊕ (List Int)) :=
 gd (key_.length = 32) <|
 (((fn_image_may fu version_ i_).bind fun t8 =>
 nm (!t8) fun t10 =>
 cond (t10 == false)
 (nm (((c_.length : Nat) : Int) != 80) fun t11 =>
 some t11)
 (some true)) : Option (Bool)).bind fun t3 =>
 cond t3
 (some (Sum.inl 1))
 ((((fn_image_nonce fu i_).bind fun l22 =>
 gd (l22.length = 12) <|
 (fn_pack_Int_2 fu [version_]).bind fun o => match o with
 | .inl _ => (none)
 | .inr (l30) => ((fn_aead_Open fu key_ l22 c_ l30).bind fun o => match o with
 | .inl () => (some (Sum.inl ()))
 | .inr (l44) => (some (Sum.inr (l44))))) : Option ((Unit) ⊕ (List Int))).bind fun o => match o with
 | .inl () => (some (Sum.inl 10))
 | .inr (l14) => (some (Sum.inr (l14))))
noncomputable def fn_verity_Area_Has (fu : Nat) (a_00 : List Int) (a_01 : Int) (a_02 : Int) (a_03 : Bool) (a_04 : Int) (a_05 : Int) (a_1 : Int) (key_ : List Int) (version_ : Int) (i_ : Int) : Option (Bool) :=
 gd (key_.length = 32) <|
 (fn_verity_Area_Raw fu a_00 a_01 a_02 a_03 a_04 a_05 a_1 i_).bind fun o => match o with
 | .inl () => (some false)
 | .inr (l6) => ((fn_image_Open fu key_ version_ i_ l6).bind fun o => match o with
 | .inl x19 => (nm (x19 == 0) fun t21 =>
 some t21)
 | .inr (l22) => (some true))
noncomputable def fn_portcullislaw25_VerityTears_l1 (fu : Nat) (c_0 : Int) (c_1 : Int) (l23 : List Int) (l36 : List Int) (rec : (List Int × Int) → Option (List Int)) : (List Int × Int) → Option (List Int) := fun (l112, x114) =>
 nm (decide (x114 < 80)) fun t120 =>
 cond t120
 (((gd (0 ≤ x114 ∧ x114 < ((l23.length : Nat) : Int)) <|
 (l23[x114.toNat]?).bind fun x126 =>
 gd (0 ≤ x114 ∧ x114 < ((80 : Nat) : Int)) <|
 (upd l112 x114.toNat x126).bind fun l128 =>
 ((((nm (c_0 == 0) fun t137 =>
 cond (t137 == true)
 (nm (decide (x114 < c_1)) fun t138 =>
 cond (t138 == false)
 (nm (c_0 == 1) fun t139 =>
 some t139)
 (some true))
 (nm (c_0 == 1) fun t140 =>
 some t140)) : Option (Bool)).bind fun t134 =>
 cond t134
 (gd (0 ≤ x114 ∧ x114 < ((80 : Nat) : Int)) <|
 (upd l128 x114.toNat 255).bind fun l142 =>
 some l142)
 (some l128)) : Option (List Int)).bind fun l130 =>
 ((nm (c_0 == 1) fun t147 =>
 cond (t147 == true)
 (nm (decide (x114 < c_1)) fun t148 =>
 some t148)
 (some false)) : Option (Bool)).bind fun t144 =>
 cond t144
 (gd (0 ≤ x114 ∧ x114 < ((l36.length : Nat) : Int)) <|
 (l36[x114.toNat]?).bind fun x150 =>
 gd (0 ≤ x114 ∧ x114 < ((80 : Nat) : Int)) <|
 (upd l130 x114.toNat x150).bind fun l152 =>
 some l152)
 (some l130)) : Option (List Int)).bind fun l121 =>
 nm (IntKind.i64.wrap (x114 + 1)) fun x154 =>
 rec (l121, x154))
 (some l112)
noncomputable def fn_portcullislaw25_VerityTears (fu : Nat) (key_ : List Int) (version_ : Int) (i_ : Int) (old_ : List Int) (plain_ : List Int) (c_0 : Int) (c_1 : Int) : Option (Bool) :=
 gd (key_.length = 32) <|
 (fn_portcullislaw25_alive fu).bind fun t7 =>
 ((nm (!t7) fun t12 =>
 cond (t12 == false)
 (nm (decide (version_ < 0)) fun t13 =>
 cond (t13 == false)
 (nm (decide (version_ > 1073741824)) fun t14 =>
 cond (t14 == false)
 (nm (decide (i_ < 0)) fun t15 =>
 cond (t15 == false)
 (nm (decide (i_ > 31)) fun t16 =>
 cond (t16 == false)
 (nm (((old_.length : Nat) : Int) != 64) fun t17 =>
 cond (t17 == false)
 (nm (((plain_.length : Nat) : Int) != 64) fun t18 =>
 cond (t18 == false)
 (nm (decide (c_0 < 0)) fun t19 =>
 cond (t19 == false)
 (nm (decide (c_0 > 1)) fun t20 =>
 some t20)
 (some true))
 (some true))
 (some true))
 (some true))
 (some true))
 (some true))
 (some true))
 (some true)) : Option (Bool)).bind fun t9 =>
 cond t9
 (some t7)
 ((fn_portcullisref16_SealBlock fu key_ version_ i_ old_).bind fun o => match o with
 | .inl _ => (none)
 | .inr (l23) => ((fn_portcullisref16_SealBlock fu key_ version_ i_ plain_).bind fun o => match o with
 | .inl _ => (none)
 | .inr (l36) => ((fn_flash_New fu 128).bind fun o => match o with
 | .inl _ => (none)
 | .inr (l49) => ((fn_verity_New fu l49 (-1) 0 false 0 0 1).bind fun o => match o with
 | .inl _ => (none)
 | .inr (x60) => ((fn_portcullislaw25_num fu).bind fun _ =>
 (fn_verity_Area_Write fu l49 (-1) 0 false 0 0 x60 i_ l23).bind fun (l68, x69, x70, t71, x72, x73, x74) =>
 gd (l68.length = l49.length) <|
 (fn_flash_Flash_Plan fu l68 x69 x70 t71 x72 x73 c_0 c_1).bind fun x80 =>
 (fn_verity_Area_Write fu l68 x80 c_1 t71 x72 x73 x60 i_ l36).bind fun (l84, x85, x86, t87, x88, x89, x90) =>
 gd (l84.length = l49.length) <|
 (fn_flash_Flash_Start fu l84 x85 x86 t87 x88 x89).bind fun _ =>
 (fn_verity_Area_Raw fu l84 (-1) 0 false x88 x89 x60 i_).bind fun o => match o with
 | .inl _ => (none)
 | .inr (l99) => ((itr (fn_portcullislaw25_VerityTears_l1 fu c_0 c_1 l23 l36) fu ((List.replicate 80 0), 0)).bind fun l116 =>
 (fn_verity_Area_Write fu l84 (-1) 0 false x88 x89 x60 i_ l36).bind fun (l157, x158, x159, t160, x161, x162, x163) =>
 gd (l157.length = l49.length) <|
 (fn_verity_Area_Raw fu l157 x158 x159 t160 x161 x162 x60 i_).bind fun o => match o with
 | .inl _ => (none)
 | .inr (l169) => ((((fn_portcullislaw25_num_2 fu x74).bind fun _ =>
 nm (x74 == 0) fun t186 =>
 cond (t186 == true)
 ((fn_portcullislaw25_num_2 fu x90).bind fun _ =>
 nm (x90 == 8) fun t190 =>
 cond (t190 == true)
 (nm (mkS (sub l99 0 l99.length)) fun s191 =>
 nm (mkS (sub l116 0 80)) fun s192 =>
 nm (s191.toList == s192.toList) fun t193 =>
 cond (t193 == true)
 ((fn_portcullislaw25_num_2 fu x163).bind fun _ =>
 nm (x163 == 0) fun t197 =>
 cond (t197 == true)
 (nm (mkS (sub l169 0 l169.length)) fun s198 =>
 nm (mkS (sub l36 0 l36.length)) fun s199 =>
 nm (s198.toList == s199.toList) fun t200 =>
 cond (t200 == true)
 ((fn_verity_Area_Has fu l157 x158 x159 t160 x161 x162 x60 key_ version_ i_).bind fun t203 =>
 some t203)
 (some false))
 (some false))
 (some false))
 (some false))
 (some false)) : Option (Bool)).bind fun t180 =>
 some t180)))))))
noncomputable def fn_portcullislaw25_VerityTears_2 (fu : Nat) (key_ : List Int) (version_ : Int) (i_ : Int) (plain_ : List Int) (c_0 : Int) (c_1 : Int) : Option (Bool) :=
 gd (key_.length = 32) <|
 (fn_portcullislaw25_alive fu).bind fun t7 =>
 ((nm (!t7) fun t11 =>
 cond (t11 == false)
 (nm (decide (version_ < 0)) fun t12 =>
 cond (t12 == false)
 (nm (decide (version_ > 1073741824)) fun t13 =>
 cond (t13 == false)
 (nm (decide (i_ < 0)) fun t14 =>
 cond (t14 == false)
 (nm (decide (i_ > 31)) fun t15 =>
 cond (t15 == false)
 (some ())
 (some ()))
 (some ()))
 (some ()))
 (some ()))
 (some ())) : Option (Unit)).bind fun _ =>
 some t7
noncomputable def fn_portcullislaw25_VerityTears_3 (fu : Nat) (key_ : List Int) (version_ : Int) (i_ : Int) (old_ : List Int) (c_0 : Int) (c_1 : Int) : Option (Bool) :=
 gd (key_.length = 32) <|
 (fn_portcullislaw25_alive fu).bind fun t7 =>
 ((nm (!t7) fun t11 =>
 cond (t11 == false)
 (nm (decide (version_ < 0)) fun t12 =>
 cond (t12 == false)
 (nm (decide (version_ > 1073741824)) fun t13 =>
 cond (t13 == false)
 (nm (decide (i_ < 0)) fun t14 =>
 cond (t14 == false)
 (nm (decide (i_ > 31)) fun t15 =>
 cond (t15 == false)
 (nm (((old_.length : Nat) : Int) != 64) fun t16 =>
 cond (t16 == false)
 (some ())
 (some ()))
 (some ()))
 (some ()))
 (some ()))
 (some ()))
 (some ())) : Option (Unit)).bind fun _ =>
 some t7
noncomputable def fn_portcullislaw25_VerityTears_4 (fu : Nat) (key_ : List Int) (version_ : Int) (i_ : Int) (c_0 : Int) (c_1 : Int) : Option (Bool) :=
 gd (key_.length = 32) <|
 (fn_portcullislaw25_alive fu).bind fun t7 =>
 ((nm (!t7) fun t11 =>
 cond (t11 == false)
 (nm (decide (version_ < 0)) fun t12 =>
 cond (t12 == false)
 (nm (decide (version_ > 1073741824)) fun t13 =>
 cond (t13 == false)
 (nm (decide (i_ < 0)) fun t14 =>
 cond (t14 == false)
 (nm (decide (i_ > 31)) fun t15 =>
 cond (t15 == false)
 (some ())
 (some ()))
 (some ()))
 (some ()))
 (some ()))
 (some ())) : Option (Unit)).bind fun _ =>
 some t7
end Go.Proofs.Ythgbffnahanfhaa

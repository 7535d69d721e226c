/-
  The conditions of the functions that this claim reaches, printed by program. Conditions: those of the statement alone.
-/
import Derived.Test.YtnjnpfhgblcgnaaDoorTab
import Derived.Test.YtnjnpfhgblcgnaaDoorSxA
set_option linter.unusedVariables false
set_option linter.unusedSimpArgs false
set_option maxRecDepth 100000
namespace Go.Sx
abbrev F_pitlaw2_WakePlays : Nat := 3
abbrev F_wake_New : Nat := 7
abbrev F_pitref2_Wait : Nat := 8
abbrev F_pitsame_Error : Nat := 9
abbrev F_wake_Stops_Put : Nat := 10
abbrev F_pitref2_Waits : Nat := 11
abbrev F_pitref2_Off : Nat := 12
abbrev F_wake_Stops_Drop : Nat := 13
abbrev F_pitref1_Price : Nat := 14
abbrev F_pitref2_Wake : Nat := 15
abbrev F_wake_Stops_Wake : Nat := 16
abbrev F_pitsame_Orders : Nat := 17
abbrev F_wake_Stops_All : Nat := 18
abbrev F_pitref1_Order : Nat := 46
abbrev F_plain_Told : Nat := 47
abbrev F_order_Check : Nat := 48
abbrev F_wake_Stops_Where : Nat := 49
abbrev F_slices_Delete_Order : Nat := 50
abbrev F_pitref1_Ahead : Nat := 51
abbrev F_tick_Price : Nat := 52
abbrev F_wake_wakes : Nat := 53
abbrev F_slices_SortStableFunc_Order : Nat := 54
abbrev F_wake_Stops_Wake_1 : Nat := 55
abbrev F_cmp_Or_int : Nat := 56
abbrev F_cmp_Compare_int : Nat := 57
abbrev F_slices_Clone_Order : Nat := 58
abbrev F_pitref1_Side : Nat := 59
abbrev F_tick_Side : Nat := 64
abbrev F_order_Id : Nat := 97
abbrev F_order_Who : Nat := 98
abbrev F_order_within : Nat := 99
abbrev F_tick_Valid : Nat := 100
abbrev F_order_Qty : Nat := 101
abbrev F_slices_IndexFunc_Order : Nat := 102
abbrev F_wake_Stops_Where_1 : Nat := 103
abbrev F_tick_Ahead : Nat := 104
abbrev F_slices_stableCmpFunc_Order : Nat := 105
abbrev F_cmp_isNaN_int : Nat := 106
abbrev F_slices_insertionSortCmpFunc_Order : Nat := 129
abbrev F_slices_symMergeCmpFunc_Order : Nat := 130
abbrev F_internal_reflectlite_TypeOf : Nat := 148
abbrev F_slices_rotateCmpFunc_Order : Nat := 151
abbrev F_slices_swapRangeCmpFunc_Order : Nat := 161
abbrev T_Tu_ : Nat := 0
abbrev T_i64 : Nat := 3
abbrev T_u8 : Nat := 5
abbrev T_St_i64_n2_i64_bool_internal_abi_BoundsErrorCode : Nat := 7
abbrev T_runtime_boundsError : Nat := 8
abbrev T_St_str_u64 : Nat := 13
abbrev T_runtime_errorAddressString : Nat := 14
abbrev T_St_P_internal_abi_Type : Nat := 18
abbrev T_internal_runtime_maps_unhashableTypeError : Nat := 19
abbrev T_Sl_Order : Nat := 22
abbrev T_Sl_Sl_i64 : Nat := 23
abbrev T_A2_i64 : Nat := 26
abbrev T_Sl_i64 : Nat := 27
abbrev T_St_i64_i64_i64_i64_i64_i64_i64_i64 : Nat := 28
abbrev T_Order : Nat := 29
abbrev T_error : Nat := 34
abbrev T_Sl_Level : Nat := 48
abbrev T_St_i64_i64_i64_i64_i64 : Nat := 49
abbrev T_Rest : Nat := 50
abbrev T_Sl_Rest : Nat := 53
abbrev T_St_i64_Sl_Rest : Nat := 54
abbrev T_Level : Nat := 55
abbrev T_Sl_A2_i64 : Nat := 58
abbrev T_Sl_Trade : Nat := 79
abbrev T_Sl_Event : Nat := 86
abbrev T_Sl_A3_i64 : Nat := 89
abbrev T_St_i64_i64_i64_i64_i64_i64 : Nat := 91
abbrev T_Trade : Nat := 92
abbrev T_St_i64_i64_i64_i64_Trade : Nat := 93
abbrev T_Event : Nat := 94
abbrev T_A3_i64 : Nat := 102
abbrev T_St_Sl_Order : Nat := 104
abbrev T_wake_Stops : Nat := 105
abbrev T_Errno : Nat := 107
abbrev T_Sl_u8 : Nat := 145
abbrev T_St_P_strings_Builder_Sl_u8 : Nat := 146
abbrev T_strings_Builder : Nat := 147
abbrev T_M_i64_A3_i64 : Nat := 151
abbrev T_M_i64_bool : Nat := 159
abbrev T_St_P_internal_abi_Type_other_internal_reflectlite_flag : Nat := 172
abbrev T_internal_reflectlite_Value : Nat := 173
abbrev T_St_P_internal_abi_Type_n202 : Nat := 202
abbrev T_internal_reflectlite_rtype : Nat := 203
abbrev T_Sl_error : Nat := 214
abbrev T_A24_u8 : Nat := 226
abbrev T_A20_u64_n201 : Nat := 233
abbrev T_A65_u8 : Nat := 234
abbrev T_A32_u8 : Nat := 235
abbrev T_A64_u8 : Nat := 236
abbrev T_St_P_internal_abi_Type_P_internal_abi_Type_P_internal_abi_Type_str : Nat := 237
abbrev T_runtime_TypeAssertionError : Nat := 238
abbrev T_A0_P_runtime_PanicNilError : Nat := 239
abbrev T_St_A0_P_runtime_PanicNilError : Nat := 240
abbrev T_runtime_PanicNilError : Nat := 241
abbrev T_St_u64_u64_u32_internal_abi_TFlag_u8_u8_internal_abi_Kind_func_n245_P_u8_internal_abi_NameOff_internal_abi_TypeOff : Nat := 248
abbrev T_internal_abi_Type : Nat := 249
abbrev T_St_str_internal_abi_Kind : Nat := 252
abbrev T_internal_reflectlite_ValueError : Nat := 253
abbrev T_St_internal_abi_NameOff_u16_u16_u32_u32 : Nat := 257
abbrev T_internal_abi_UncommonType : Nat := 258
abbrev T_Sl_internal_abi_Method : Nat := 259
abbrev T_St_internal_abi_NameOff_internal_abi_TypeOff_internal_abi_TextOff_internal_abi_TextOff : Nat := 261
abbrev T_internal_abi_Method : Nat := 262
structure Arr2_Int where
  x0 : Int
  x1 : Int
def cArr2_Int : Cod Arr2_Int := ((cInt .i64).pair (cInt .i64)).iso (fun p => ⟨p.1, p.2⟩) (fun x => (x.x0, x.x1)) (fun _ => rfl)
def Arr2_Int.cells (x : Arr2_Int) : List Value := [.int .i64 x.x0, .int .i64 x.x1]
def eArr2_Int : Enc1 := .agg { cells := Arr2_Int.cells, rd := cArr2_Int.rd, law := cArr2_Int.law }
structure Order where
  Id : Int
  Who : Int
  Side : Int
  Kind : Int
  Price : Int
  Qty : Int
  Show : Int
  Stop : Int
def cOrder : Cod Order := ((cInt .i64).pair ((cInt .i64).pair ((cInt .i64).pair ((cInt .i64).pair ((cInt .i64).pair ((cInt .i64).pair ((cInt .i64).pair (cInt .i64)))))))).iso (fun p => ⟨p.1, p.2.1, p.2.2.1, p.2.2.2.1, p.2.2.2.2.1, p.2.2.2.2.2.1, p.2.2.2.2.2.2.1, p.2.2.2.2.2.2.2⟩) (fun x => (x.Id, x.Who, x.Side, x.Kind, x.Price, x.Qty, x.Show, x.Stop)) (fun _ => rfl)
def Order.cells (x : Order) : List Value := [.int .i64 x.Id, .int .i64 x.Who, .int .i64 x.Side, .int .i64 x.Kind, .int .i64 x.Price, .int .i64 x.Qty, .int .i64 x.Show, .int .i64 x.Stop]
def eOrder : Enc1 := .agg { cells := Order.cells, rd := cOrder.rd, law := cOrder.law }
structure Wake_Stops where
  l_ : Sl
def cWake_Stops : Cod Wake_Stops := cSl.iso (fun p => ⟨p⟩) (fun x => x.l_) (fun _ => rfl)
def Wake_Stops.cells (x : Wake_Stops) : List Value := [.slice x.l_.a x.l_.len x.l_.cap]
def eWake_Stops : Enc1 := .agg { cells := Wake_Stops.cells, rd := cWake_Stops.rd, law := cWake_Stops.law }
-- no codec for Reflectlite_Value: codec of other
def encL : List (Nat × Enc) := [(0, Enc.t0),
  (3, (Enc.one eInt)),
  (4, (Enc.one eBool)),
  (20, (Enc.one Enc1.raw)),
  (22, (Enc.one eSl)),
  (23, (Enc.one eSl)),
  (24, (Enc.one ePtr)),
  (27, (Enc.one eSl)),
  (29, (Enc.one eOrder)),
  (30, (Enc.t2 eSl eInt)),
  (34, (Enc.one Enc1.err)),
  (38, (Enc.t2 eOrder Enc1.err)),
  (41, (Enc.t2 eSl eSl)),
  (43, (Enc.t2 eSl Enc1.err)),
  (107, (Enc.one eInt)),
  (117, (Enc.one Enc1.clo)),
  (137, (Enc.one Enc1.clo)),
  (176, (Enc.one Enc1.raw))]
def roL : List Nat := [9, 11, 14, 17, 19, 20, 21, 25, 26, 29, 30, 31, 32, 33, 34, 37, 38, 39, 41, 42, 43, 44, 46, 47, 48, 49, 51, 52, 53, 55, 56, 57, 59, 60, 61, 62, 64, 65, 66, 67, 68, 69, 71, 72, 75, 76, 79, 80, 81, 82, 83, 86, 87, 88, 89, 92, 93, 95, 97, 98, 99, 100, 101, 102, 103, 104, 106, 107, 108, 114, 115, 116, 118, 119, 122, 124, 131, 132, 133, 137, 146, 147, 155, 157, 164, 165, 170, 171, 172, 173, 174, 175]
noncomputable def XX : Ctx PP := { tab := lookN tabL, tenv := lookE encL, errT := errT, ro := memN roL, htab := tab_ok tabA, herr := herr, mixed := mixed }
-- pitfloor/pitlaw2.WakePlays
def vc_pitlaw2_WakePlays (l_0 : Sl) (steps : Sl) (u : World) (V : VP) (K : Bool → World → VP → Prop) : Prop :=
  GC PP F_wake_New [] u V (fun x => gval errT ((Enc.one ePtr).enc x)) fun (x1 : Option Addr) u2 V3 => LoopN (σ := Sl × Int) ((⟨none, 0, 0⟩ : Sl), 0) u2 V3 fun s4 u5 V6 next7 => JoinN (fun (s8 : Bool) (u9 : World) (V10 : VP) => IfB s8 (NewC u9 V10 T_A2_i64 (Arr2_Int.cells (⟨0, 0⟩ : Arr2_Int)) fun b12 u13 V14 => JoinN (fun (s15 : Unit) (u16 : World) (V17 : VP) => ((0 ≤ (0 : Int) ∧ (0 : Int) < (2 : Int)) ∧ ∃ x30 : Int, At u16 V17 ((⟨b12, 0, none⟩ : Addr).add ((0 : Int).toNat * 1)) [.int .i64 x30] ∧ JoinN (fun (s31 : Bool) (u32 : World) (V33 : VP) => JoinN (fun (s39 : Sl × Bool) (u40 : World) (V41 : VP) => GC PP F_wake_Stops_All [.pointer x1] u40 V41 (fun x => gval errT ((Enc.one eSl).enc x)) fun (x101 : Sl) u102 V103 => ∃ x104 : Bool, ROc PP F_pitsame_Orders [.slice x101.a x101.len x101.cap, .slice s39.1.a s39.1.len s39.1.cap] u102 V103 (gval errT ((Enc.one eBool).enc x104)) ∧ IfB (!s39.2) (K false u102 V103) (IfB (!x104) (K false u102 V103) ((Rng (s4.2 + 1) ∧ next7 (s39.1, (s4.2 + 1)) u102 V103)))) fun Kj42 => IfB s31 (JoinN (fun (s43 : Order) (u44 : World) (V45 : VP) => GC PP F_pitref2_Wait [.slice s4.1.a s4.1.len s4.1.cap, .agg (Order.cells s43).toArray] u44 V45 (fun x => gval errT ((Enc.t2 eSl eInt).enc x)) fun (x49 : Sl × Int) u50 V51 => GC PP F_wake_Stops_Put [.pointer x1, .agg (Order.cells s43).toArray] u50 V51 (fun x => gval errT ((Enc.one Enc1.err).enc x)) fun (x52 : Option Int) u53 V54 => ∃ x55 : Bool, ROc PP F_pitsame_Error [gval1 errT (.err x52), .int .i64 x49.2] u53 V54 (gval errT ((Enc.one eBool).enc x55)) ∧ Kj42 (x49.1, x55) u53 V54) fun Kj46 => IfB (decide ((l_0.len : Int) > 0)) (IfB ((l_0.len : Int) == 0) (False) (((0 ≤ (s4.2.tmod (l_0.len : Int)) ∧ (s4.2.tmod (l_0.len : Int)) < (l_0.len : Int)) ∧ NilK l_0.a fun ad47 => ∃ x48 : Order, At u32 V33 (ad47.add ((s4.2.tmod (l_0.len : Int)).toNat * 8)) (Order.cells x48) ∧ Kj46 x48 u32 V33))) (Kj46 (⟨0, 0, 0, 0, 0, 0, 0, 0⟩ : Order) u32 V33)) (JoinN (fun (s56 : Sl × Bool) (u57 : World) (V58 : VP) => Kj42 (s56.1, s56.2) u57 V58) fun Kj59 => IfB (x30 == 3) (((0 ≤ (1 : Int) ∧ (1 : Int) < (2 : Int)) ∧ ∃ x60 : Int, At u32 V33 ((⟨b12, 0, none⟩ : Addr).add ((1 : Int).toNat * 1)) [.int .i64 x60] ∧ ∃ x61 : Int, ROc PP F_pitref2_Waits [.slice s4.1.a s4.1.len s4.1.cap, .int .i64 x60] u32 V33 (gval errT ((Enc.one eInt).enc x61)) ∧ JoinN (fun (s62 : Sl × Int × Order) (u63 : World) (V64 : VP) => ((0 ≤ (1 : Int) ∧ (1 : Int) < (2 : Int)) ∧ ∃ x71 : Int, At u63 V64 ((⟨b12, 0, none⟩ : Addr).add ((1 : Int).toNat * 1)) [.int .i64 x71] ∧ GC PP F_wake_Stops_Drop [.pointer x1, .int .i64 x71] u63 V64 (fun x => gval errT ((Enc.t2 eOrder Enc1.err).enc x)) fun (x72 : Order × (Option Int)) u73 V74 => JoinN (fun (s75 : Bool) (u76 : World) (V77 : VP) => Kj59 (s62.1, s75) u76 V77) fun Kj78 => ∃ x79 : Bool, ROc PP F_pitsame_Error [gval1 errT (.err x72.2), .int .i64 s62.2.1] u73 V74 (gval errT ((Enc.one eBool).enc x79)) ∧ IfB x79 (∃ b80, (∀ w, (binOp .eql T_Order (.agg (Order.cells x72.1).toArray) (.agg (Order.cells s62.2.2).toArray)).run PP w = .ok (.bool b80) w) ∧ (∀ w, (eqGuard .eql T_Order (.tmp 138) (.tmp 139) (.agg (Order.cells x72.1).toArray) (.agg (Order.cells s62.2.2).toArray)).run PP w = .ok () w) ∧ Kj78 b80 u73 V74) (Kj78 false u73 V74))) fun Kj65 => IfB (decide (x61 ≥ 0)) (((0 ≤ x61 ∧ x61 < (s4.1.len : Int)) ∧ NilK s4.1.a fun ad66 => ∃ x67 : Order, At u32 V33 (ad66.add (x61.toNat * 8)) (Order.cells x67) ∧ GC PP F_pitref2_Off [.slice s4.1.a s4.1.len s4.1.cap, .int .i64 x61] u32 V33 (fun x => gval errT ((Enc.one eSl).enc x)) fun (x68 : Sl) u69 V70 => Kj65 (x68, 0, x67) u69 V70)) (Kj65 (s4.1, 5, (⟨0, 0, 0, 0, 0, 0, 0, 0⟩ : Order)) u32 V33))) (((0 ≤ (1 : Int) ∧ (1 : Int) < (2 : Int)) ∧ ∃ x81 : Int, At u32 V33 ((⟨b12, 0, none⟩ : Addr).add ((1 : Int).toNat * 1)) [.int .i64 x81] ∧ ∃ x82 : Bool, ROc PP F_pitref1_Price [.int .i64 x81] u32 V33 (gval errT ((Enc.one eBool).enc x82)) ∧ JoinN (fun (s83 : Sl × Int × Sl) (u84 : World) (V85 : VP) => ((0 ≤ (1 : Int) ∧ (1 : Int) < (2 : Int)) ∧ ∃ x91 : Int, At u84 V85 ((⟨b12, 0, none⟩ : Addr).add ((1 : Int).toNat * 1)) [.int .i64 x91] ∧ GC PP F_wake_Stops_Wake [.pointer x1, .int .i64 x91] u84 V85 (fun x => gval errT ((Enc.t2 eSl Enc1.err).enc x)) fun (x92 : Sl × (Option Int)) u93 V94 => JoinN (fun (s95 : Bool) (u96 : World) (V97 : VP) => Kj59 (s83.1, s95) u96 V97) fun Kj98 => ∃ x99 : Bool, ROc PP F_pitsame_Error [gval1 errT (.err x92.2), .int .i64 s83.2.1] u93 V94 (gval errT ((Enc.one eBool).enc x99)) ∧ IfB x99 (∃ x100 : Bool, ROc PP F_pitsame_Orders [.slice x92.1.a x92.1.len x92.1.cap, .slice s83.2.2.a s83.2.2.len s83.2.2.cap] u93 V94 (gval errT ((Enc.one eBool).enc x100)) ∧ Kj98 x100 u93 V94) (Kj98 false u93 V94))) fun Kj86 => IfB x82 (((0 ≤ (1 : Int) ∧ (1 : Int) < (2 : Int)) ∧ ∃ x87 : Int, At u32 V33 ((⟨b12, 0, none⟩ : Addr).add ((1 : Int).toNat * 1)) [.int .i64 x87] ∧ GC PP F_pitref2_Wake [.slice s4.1.a s4.1.len s4.1.cap, .int .i64 x87] u32 V33 (fun x => gval errT ((Enc.t2 eSl eSl).enc x)) fun (x88 : Sl × Sl) u89 V90 => Kj86 (x88.2, 0, x88.1) u89 V90)) (Kj86 (s4.1, 1, (⟨none, 0, 0⟩ : Sl)) u32 V33))))) fun Kj34 => IfB (x30 == 0) (Kj34 true u16 V17) (JoinN (fun (s35 : Bool) (u36 : World) (V37 : VP) => Kj34 s35 u36 V37) fun Kj38 => IfB (x30 == 1) (Kj38 true u16 V17) (Kj38 (x30 == 2) u16 V17)))) fun Kj18 => LoopN (σ := Int) 0 u13 V14 fun s19 u20 V21 next22 => ((0 ≤ s4.2 ∧ s4.2 < (steps.len : Int)) ∧ NilK steps.a fun ad23 => ∃ x24 : Sl, At u20 V21 (ad23.add (s4.2.toNat * 1)) [.slice x24.a x24.len x24.cap] ∧ IfB (decide (s19 < (x24.len : Int))) (IfB (decide (s19 < 2)) (((0 ≤ s4.2 ∧ s4.2 < (steps.len : Int)) ∧ NilK steps.a fun ad25 => ∃ x26 : Sl, At u20 V21 (ad25.add (s4.2.toNat * 1)) [.slice x26.a x26.len x26.cap] ∧ ((0 ≤ s19 ∧ s19 < (x26.len : Int)) ∧ NilK x26.a fun ad27 => ∃ x28 : Int, At u20 V21 (ad27.add (s19.toNat * 1)) [.int .i64 x28] ∧ ((0 ≤ s19 ∧ s19 < (2 : Int)) ∧ ∀ w29, Rel V21 u20 w29 → StOk w29 V21 ((⟨b12, 0, none⟩ : Addr).add (s19.toNat * 1)) 1 ∧ (Rng (s19 + 1) ∧ next22 (s19 + 1) (stW w29 ((⟨b12, 0, none⟩ : Addr).add (s19.toNat * 1)) [.int .i64 x28] 0) V21))))) (Kj18 () u20 V21)) (Kj18 () u20 V21))) (K true u9 V10)) fun Kj11 => IfB (decide (s4.2 < (steps.len : Int))) (Kj11 (decide (s4.2 < 60)) u5 V6) (Kj11 false u5 V6)
-- pitfloor/wake.New
def vc_wake_New  (u : World) (V : VP) (K : (Option Addr) → World → VP → Prop) : Prop :=
  NewC u V T_wake_Stops (Wake_Stops.cells (⟨(⟨none, 0, 0⟩ : Sl)⟩ : Wake_Stops)) fun b1 u2 V3 => K (some ⟨b1, 0, none⟩) u2 V3
-- pitfloor/pitref2.Wait
def vc_pitref2_Wait (l_0 : Sl) (o : Order) (u : World) (V : VP) (K : (Sl × Int) → World → VP → Prop) : Prop :=
  ∃ x1 : Int, ROc PP F_pitref1_Order [.agg (Order.cells o).toArray] u V (gval errT ((Enc.one eInt).enc x1)) ∧ JoinN (fun (s2 : Bool) (u3 : World) (V4 : VP) => JoinN (fun (s6 : Int) (u7 : World) (V8 : VP) => JoinN (fun (s10 : Bool) (u11 : World) (V12 : VP) => JoinN (fun (s15 : Int) (u16 : World) (V17 : VP) => JoinN (fun (s19 : Bool) (u20 : World) (V21 : VP) => JoinN (fun (s23 : Int) (u24 : World) (V25 : VP) => IfB (s23 != 0) (K (l_0, s23) u24 V25) (OpV PP errT (Builtin.append_ #[T_Sl_Order, T_Sl_Order] T_Sl_Order #[.slice none 0 0, .slice l_0.a l_0.len l_0.cap]) (Enc.one eSl) u24 V25 fun (x27 : Sl) u28 V29 => NewC u28 V29 T_Order ((Order.cells o)) fun b30 u31 V32 => OpV PP errT (Builtin.append_ #[T_Sl_Order, T_Sl_Order] T_Sl_Order #[.slice x27.a x27.len x27.cap, .slice (some (⟨b30, 0, none⟩ : Addr)) 1 1]) (Enc.one eSl) u31 V32 fun (x33 : Sl) u34 V35 => K (x33, 0) u34 V35)) fun Kj26 => IfB s19 (Kj26 4 u20 V21) (Kj26 s15 u20 V21)) fun Kj22 => IfB (s15 == 0) (Kj22 (decide ((l_0.len : Int) ≥ 20)) u16 V17) (Kj22 false u16 V17)) fun Kj18 => IfB s10 (Kj18 7 u11 V12) (Kj18 s6 u11 V12)) fun Kj13 => IfB (s6 == 0) (∃ x14 : Int, ROc PP F_pitref2_Waits [.slice l_0.a l_0.len l_0.cap, .int .i64 o.Id] u7 V8 (gval errT ((Enc.one eInt).enc x14)) ∧ Kj13 (decide (x14 ≥ 0)) u7 V8) (Kj13 false u7 V8)) fun Kj9 => IfB s2 (Kj9 6 u3 V4) (Kj9 x1 u3 V4)) fun Kj5 => IfB (x1 == 0) (Kj5 (o.Stop == 0) u V) (Kj5 false u V)
-- pitfloor/pitsame.Error
def vc_pitsame_Error (err : Option Int) (e : Int) (u : World) (V : VP) (K : Bool → World → VP → Prop) : Prop :=
  ∃ x1 : Int, ROc PP F_plain_Told [gval1 errT (.err err)] u V (gval errT ((Enc.one eInt).enc x1)) ∧ K (x1 == e) u V
-- (*pitfloor/wake.Stops).Put
def vc_wake_Stops_Put (s : Option Addr) (o : Order) (u : World) (V : VP) (K : (Option Int) → World → VP → Prop) : Prop :=
  ∃ x1 : Option Int, ROc PP F_order_Check [.agg (Order.cells o).toArray] u V (gval errT ((Enc.one Enc1.err).enc x1)) ∧ IfB x1.isSome (K x1 u V) (IfB (o.Stop == 0) (K (some 6) u V) (∃ x2 : Int, ROc PP F_wake_Stops_Where [.pointer s, .int .i64 o.Id] u V (gval errT ((Enc.one eInt).enc x2)) ∧ IfB (decide (x2 ≥ 0)) (K (some 7) u V) (NilK s fun ad3 => ∃ x4 : Sl, At u V (ad3.add 0) [.slice x4.a x4.len x4.cap] ∧ IfB (decide ((x4.len : Int) ≥ 20)) (K (some 4) u V) (NilK s fun ad5 => ∃ x6 : Sl, At u V (ad5.add 0) [.slice x6.a x6.len x6.cap] ∧ NewC u V T_Order ((Order.cells o)) fun b7 u8 V9 => OpV PP errT (Builtin.append_ #[T_Sl_Order, T_Sl_Order] T_Sl_Order #[.slice x6.a x6.len x6.cap, .slice (some (⟨b7, 0, none⟩ : Addr)) 1 1]) (Enc.one eSl) u8 V9 fun (x10 : Sl) u11 V12 => NilK s fun ad13 => ∀ w14, Rel V12 u11 w14 → StOk w14 V12 (ad13.add 0) 1 ∧ K none (stW w14 (ad13.add 0) [.slice x10.a x10.len x10.cap] 0) V12))))
-- pitfloor/pitref2.Waits
def vc_pitref2_Waits (l_0 : Sl) (id : Int) (u : World) (V : VP) (K : Int → World → VP → Prop) : Prop :=
  LoopN (σ := Int) 0 u V fun s1 u2 V3 next4 => IfB (decide (s1 < (l_0.len : Int))) (((0 ≤ s1 ∧ s1 < (l_0.len : Int)) ∧ NilK l_0.a fun ad5 => ∃ x6 : Int, At u2 V3 ((ad5.add (s1.toNat * 8)).add 0) [.int .i64 x6] ∧ IfB (x6 == id) (K s1 u2 V3) ((Rng (s1 + 1) ∧ next4 (s1 + 1) u2 V3)))) (K (-1) u2 V3)
-- pitfloor/pitref2.Off
def vc_pitref2_Off (l_0 : Sl) (i : Int) (u : World) (V : VP) (K : Sl → World → VP → Prop) : Prop :=
  ((0 ≤ i ∧ i ≤ (l_0.cap : Int)) ∧ OpV PP errT (Builtin.append_ #[T_Sl_Order, T_Sl_Order] T_Sl_Order #[.slice none 0 0, .slice l_0.a i.toNat l_0.cap]) (Enc.one eSl) u V fun (x1 : Sl) u2 V3 => (Rng (i + 1) ∧ ((0 ≤ (i + 1) ∧ (i + 1) ≤ (l_0.len : Int)) ∧ OpV PP errT (Builtin.append_ #[T_Sl_Order, T_Sl_Order] T_Sl_Order #[.slice x1.a x1.len x1.cap, .slice (cutA l_0.a l_0.cap (i + 1).toNat 8) (l_0.len - (i + 1).toNat) (l_0.cap - (i + 1).toNat)]) (Enc.one eSl) u2 V3 fun (x4 : Sl) u5 V6 => K x4 u5 V6)))
-- (*pitfloor/wake.Stops).Drop
def vc_wake_Stops_Drop (s : Option Addr) (id : Int) (u : World) (V : VP) (K : (Order × (Option Int)) → World → VP → Prop) : Prop :=
  ∃ x1 : Int, ROc PP F_wake_Stops_Where [.pointer s, .int .i64 id] u V (gval errT ((Enc.one eInt).enc x1)) ∧ IfB (decide (x1 < 0)) (K ((⟨0, 0, 0, 0, 0, 0, 0, 0⟩ : Order), (some 5)) u V) (NilK s fun ad2 => ∃ x3 : Sl, At u V (ad2.add 0) [.slice x3.a x3.len x3.cap] ∧ ((0 ≤ x1 ∧ x1 < (x3.len : Int)) ∧ NilK x3.a fun ad4 => ∃ x5 : Order, At u V (ad4.add (x1.toNat * 8)) (Order.cells x5) ∧ NilK s fun ad6 => ∃ x7 : Sl, At u V (ad6.add 0) [.slice x7.a x7.len x7.cap] ∧ (Rng (x1 + 1) ∧ GC PP F_slices_Delete_Order [.slice x7.a x7.len x7.cap, .int .i64 x1, .int .i64 (x1 + 1)] u V (fun x => gval errT ((Enc.one eSl).enc x)) fun (x8 : Sl) u9 V10 => NilK s fun ad11 => ∀ w12, Rel V10 u9 w12 → StOk w12 V10 (ad11.add 0) 1 ∧ K (x5, none) (stW w12 (ad11.add 0) [.slice x8.a x8.len x8.cap] 0) V10)))
-- pitfloor/pitref1.Price
def vc_pitref1_Price (p : Int) (u : World) (V : VP) (K : Bool → World → VP → Prop) : Prop :=
  IfB (decide (p ≥ 1)) (K (decide (p ≤ 10000)) u V) (K false u V)
-- pitfloor/pitref2.Wake
def vc_pitref2_Wake (l_0 : Sl) (price : Int) (u : World) (V : VP) (K : (Sl × Sl) → World → VP → Prop) : Prop :=
  LoopN (σ := Sl × Sl) (l_0, (⟨none, 0, 0⟩ : Sl)) u V fun s1 u2 V3 next4 => LoopN (σ := Int × Int) ((-1), 0) u2 V3 fun s5 u6 V7 next8 => IfB (decide (s5.2 < (s1.1.len : Int))) (((0 ≤ s5.2 ∧ s5.2 < (s1.1.len : Int)) ∧ NilK s1.1.a fun ad9 => ∃ x10 : Order, At u6 V7 (ad9.add (s5.2.toNat * 8)) (Order.cells x10) ∧ JoinN (fun (s11 : Bool) (u12 : World) (V13 : VP) => IfB s11 ((Rng (s5.2 + 1) ∧ next8 (s5.1, (s5.2 + 1)) u12 V13)) (IfB (decide (s5.1 < 0)) ((Rng (s5.2 + 1) ∧ next8 (s5.2, (s5.2 + 1)) u12 V13)) (((0 ≤ s5.1 ∧ s5.1 < (s1.1.len : Int)) ∧ NilK s1.1.a fun ad15 => ∃ x16 : Int, At u12 V13 ((ad15.add (s5.1.toNat * 8)).add 2) [.int .i64 x16] ∧ IfB (decide (x10.Side < x16)) ((Rng (s5.2 + 1) ∧ next8 (s5.2, (s5.2 + 1)) u12 V13)) (((0 ≤ s5.1 ∧ s5.1 < (s1.1.len : Int)) ∧ NilK s1.1.a fun ad17 => ∃ x18 : Int, At u12 V13 ((ad17.add (s5.1.toNat * 8)).add 2) [.int .i64 x18] ∧ IfB (x10.Side == x18) (((0 ≤ s5.1 ∧ s5.1 < (s1.1.len : Int)) ∧ NilK s1.1.a fun ad19 => ∃ x20 : Int, At u12 V13 ((ad19.add (s5.1.toNat * 8)).add 7) [.int .i64 x20] ∧ ∃ x21 : Bool, ROc PP F_pitref1_Ahead [.int .i64 x10.Side, .int .i64 x10.Stop, .int .i64 x20] u12 V13 (gval errT ((Enc.one eBool).enc x21)) ∧ IfB x21 ((Rng (s5.2 + 1) ∧ next8 (s5.2, (s5.2 + 1)) u12 V13)) ((Rng (s5.2 + 1) ∧ next8 (s5.1, (s5.2 + 1)) u12 V13)))) ((Rng (s5.2 + 1) ∧ next8 (s5.1, (s5.2 + 1)) u12 V13)))))))) fun Kj14 => IfB (x10.Side == 1) (IfB (decide (x10.Stop > price)) (Kj14 true u6 V7) (IfB (x10.Side == 2) (Kj14 (decide (x10.Stop < price)) u6 V7) (Kj14 false u6 V7))) (IfB (x10.Side == 2) (Kj14 (decide (x10.Stop < price)) u6 V7) (Kj14 false u6 V7)))) (IfB (decide (s5.1 < 0)) (K (s1.2, s1.1) u6 V7) (((0 ≤ s5.1 ∧ s5.1 < (s1.1.len : Int)) ∧ NilK s1.1.a fun ad22 => ∃ x23 : Order, At u6 V7 (ad22.add (s5.1.toNat * 8)) (Order.cells x23) ∧ NewC u6 V7 T_Order ((Order.cells (⟨x23.Id, x23.Who, x23.Side, x23.Kind, x23.Price, x23.Qty, x23.Show, 0⟩ : Order))) fun b24 u25 V26 => OpV PP errT (Builtin.append_ #[T_Sl_Order, T_Sl_Order] T_Sl_Order #[.slice s1.2.a s1.2.len s1.2.cap, .slice (some (⟨b24, 0, none⟩ : Addr)) 1 1]) (Enc.one eSl) u25 V26 fun (x27 : Sl) u28 V29 => GC PP F_pitref2_Off [.slice s1.1.a s1.1.len s1.1.cap, .int .i64 s5.1] u28 V29 (fun x => gval errT ((Enc.one eSl).enc x)) fun (x30 : Sl) u31 V32 => next4 (x30, x27) u31 V32)))
-- (*pitfloor/wake.Stops).Wake
def vc_wake_Stops_Wake (s : Option Addr) (price : Int) (u : World) (V : VP) (K : (Sl × (Option Int)) → World → VP → Prop) : Prop :=
  ∃ x1 : Option Int, ROc PP F_tick_Price [.int .i64 price] u V (gval errT ((Enc.one Enc1.err).enc x1)) ∧ IfB x1.isSome (K ((⟨none, 0, 0⟩ : Sl), x1) u V) (NilK s fun ad2 => ∃ x3 : Sl, At u V (ad2.add 0) [.slice x3.a x3.len x3.cap] ∧ LoopN (σ := Sl × Sl × Int) ((⟨none, 0, 0⟩ : Sl), (⟨none, 0, 0⟩ : Sl), 0) u V fun s4 u5 V6 next7 => IfB (decide (s4.2.2 < (x3.len : Int))) (((0 ≤ s4.2.2 ∧ s4.2.2 < (x3.len : Int)) ∧ NilK x3.a fun ad8 => ∃ x9 : Order, At u5 V6 (ad8.add (s4.2.2.toNat * 8)) (Order.cells x9) ∧ ∃ x10 : Bool, ROc PP F_wake_wakes [.agg (Order.cells x9).toArray, .int .i64 price] u5 V6 (gval errT ((Enc.one eBool).enc x10)) ∧ IfB x10 (NewC u5 V6 T_Order ((Order.cells x9)) fun b11 u12 V13 => OpV PP errT (Builtin.append_ #[T_Sl_Order, T_Sl_Order] T_Sl_Order #[.slice s4.1.a s4.1.len s4.1.cap, .slice (some (⟨b11, 0, none⟩ : Addr)) 1 1]) (Enc.one eSl) u12 V13 fun (x14 : Sl) u15 V16 => (Rng (s4.2.2 + 1) ∧ next7 (x14, s4.2.1, (s4.2.2 + 1)) u15 V16)) (NewC u5 V6 T_Order ((Order.cells x9)) fun b17 u18 V19 => OpV PP errT (Builtin.append_ #[T_Sl_Order, T_Sl_Order] T_Sl_Order #[.slice s4.2.1.a s4.2.1.len s4.2.1.cap, .slice (some (⟨b17, 0, none⟩ : Addr)) 1 1]) (Enc.one eSl) u18 V19 fun (x20 : Sl) u21 V22 => (Rng (s4.2.2 + 1) ∧ next7 (s4.1, x20, (s4.2.2 + 1)) u21 V22)))) (NilK s fun ad23 => ∀ w24, Rel V6 u5 w24 → StOk w24 V6 (ad23.add 0) 1 ∧ GC PP F_slices_SortStableFunc_Order [.slice s4.1.a s4.1.len s4.1.cap, .func (.func F_wake_Stops_Wake_1) #[] #[]] (stW w24 (ad23.add 0) [.slice s4.2.1.a s4.2.1.len s4.2.1.cap] 0) V6 (fun x => gval errT (Enc.t0.enc x)) fun (x25 : Unit) u26 V27 => LoopN (σ := Int) 0 u26 V27 fun s28 u29 V30 next31 => IfB (decide (s28 < (s4.1.len : Int))) (((0 ≤ s28 ∧ s28 < (s4.1.len : Int)) ∧ NilK s4.1.a fun ad32 => ∀ w33, Rel V30 u29 w33 → StOk w33 V30 ((ad32.add (s28.toNat * 8)).add 7) 1 ∧ (Rng (s28 + 1) ∧ next31 (s28 + 1) (stW w33 ((ad32.add (s28.toNat * 8)).add 7) [.int .i64 0] 0) V30))) (K (s4.1, none) u29 V30)))
-- pitfloor/pitsame.Orders
def vc_pitsame_Orders (a : Sl) (b : Sl) (u : World) (V : VP) (K : Bool → World → VP → Prop) : Prop :=
  IfB ((a.len : Int) != (b.len : Int)) (K false u V) (LoopN (σ := Int) 0 u V fun s1 u2 V3 next4 => IfB (decide (s1 < (a.len : Int))) (((0 ≤ s1 ∧ s1 < (a.len : Int)) ∧ NilK a.a fun ad5 => ∃ x6 : Order, At u2 V3 (ad5.add (s1.toNat * 8)) (Order.cells x6) ∧ ((0 ≤ s1 ∧ s1 < (b.len : Int)) ∧ NilK b.a fun ad7 => ∃ x8 : Order, At u2 V3 (ad7.add (s1.toNat * 8)) (Order.cells x8) ∧ ∃ b9, (∀ w, (binOp .neq T_Order (.agg (Order.cells x6).toArray) (.agg (Order.cells x8).toArray)).run PP w = .ok (.bool b9) w) ∧ (∀ w, (eqGuard .neq T_Order (.tmp 20) (.tmp 24) (.agg (Order.cells x6).toArray) (.agg (Order.cells x8).toArray)).run PP w = .ok () w) ∧ IfB b9 (K false u2 V3) ((Rng (s1 + 1) ∧ next4 (s1 + 1) u2 V3))))) (K true u2 V3))
-- (*pitfloor/wake.Stops).All
def vc_wake_Stops_All (s : Option Addr) (u : World) (V : VP) (K : Sl → World → VP → Prop) : Prop :=
  NilK s fun ad1 => ∃ x2 : Sl, At u V (ad1.add 0) [.slice x2.a x2.len x2.cap] ∧ GC PP F_slices_Clone_Order [.slice x2.a x2.len x2.cap] u V (fun x => gval errT ((Enc.one eSl).enc x)) fun (x3 : Sl) u4 V5 => K x3 u4 V5
-- pitfloor/pitref1.Order
def vc_pitref1_Order (o : Order) (u : World) (V : VP) (K : Int → World → VP → Prop) : Prop :=
  ∃ x1 : Bool, ROc PP F_pitref1_Side [.int .i64 o.Side] u V (gval errT ((Enc.one eBool).enc x1)) ∧ JoinN (fun (s2 : Bool) (u3 : World) (V4 : VP) => IfB s2 (K 1 u3 V4) (∃ x6 : Bool, ROc PP F_pitref1_Price [.int .i64 o.Price] u3 V4 (gval errT ((Enc.one eBool).enc x6)) ∧ JoinN (fun (s7 : Bool) (u8 : World) (V9 : VP) => IfB s7 (K 1 u8 V9) (JoinN (fun (s11 : Bool) (u12 : World) (V13 : VP) => IfB s11 (K 1 u12 V13) (IfB (o.Show != 0) (IfB (o.Kind != 1) (IfB (o.Kind != 5) (K 3 u12 V13) (∃ x15 : Bool, ROc PP F_pitref1_Price [.int .i64 o.Stop] u12 V13 (gval errT ((Enc.one eBool).enc x15)) ∧ IfB (o.Stop != 0) (IfB (!x15) (K 1 u12 V13) (K 0 u12 V13)) (K 0 u12 V13))) (∃ x16 : Bool, ROc PP F_pitref1_Price [.int .i64 o.Stop] u12 V13 (gval errT ((Enc.one eBool).enc x16)) ∧ IfB (o.Stop != 0) (IfB (!x16) (K 1 u12 V13) (K 0 u12 V13)) (K 0 u12 V13))) (∃ x17 : Bool, ROc PP F_pitref1_Price [.int .i64 o.Stop] u12 V13 (gval errT ((Enc.one eBool).enc x17)) ∧ IfB (o.Stop != 0) (IfB (!x17) (K 1 u12 V13) (K 0 u12 V13)) (K 0 u12 V13)))) fun Kj14 => IfB (decide (o.Qty < 1)) (Kj14 true u8 V9) (IfB (decide (o.Qty > 10000)) (Kj14 true u8 V9) (IfB (decide (o.Show < 0)) (Kj14 true u8 V9) (Kj14 (decide (o.Show > o.Qty)) u8 V9))))) fun Kj10 => IfB (o.Kind == 2) (IfB (o.Price != 0) (Kj10 true u3 V4) (IfB (o.Kind != 2) (Kj10 (!x6) u3 V4) (Kj10 false u3 V4))) (IfB (o.Kind != 2) (Kj10 (!x6) u3 V4) (Kj10 false u3 V4)))) fun Kj5 => IfB (decide (o.Id < 1)) (Kj5 true u V) (IfB (decide (o.Id > 9999)) (Kj5 true u V) (IfB (decide (o.Who < 1)) (Kj5 true u V) (IfB (decide (o.Who > 9)) (Kj5 true u V) (IfB (!x1) (Kj5 true u V) (IfB (decide (o.Kind < 1)) (Kj5 true u V) (Kj5 (decide (o.Kind > 5)) u V))))))
-- pitfloor/plain.Told
def vc_plain_Told (err : Option Int) (u : World) (V : VP) (K : Int → World → VP → Prop) : Prop :=
  IfB err.isNone (K 0 u V) (NewC u V T_Errno [.int .i64 0] fun b1 u2 V3 => False)
-- pitfloor/order.Check
def vc_order_Check (o : Order) (u : World) (V : VP) (K : (Option Int) → World → VP → Prop) : Prop :=
  JoinN (fun (s1 : Bool) (u2 : World) (V3 : VP) => IfB s1 (K (some 1) u2 V3) (JoinN (fun (s9 : Bool) (u10 : World) (V11 : VP) => IfB s9 (K (some 1) u10 V11) (JoinN (fun (s15 : Bool) (u16 : World) (V17 : VP) => IfB s15 (K (some 1) u16 V17) (JoinN (fun (s21 : Bool) (u22 : World) (V23 : VP) => IfB s21 (K (some 3) u22 V23) (IfB (o.Stop != 0) (∃ x25 : Bool, ROc PP F_tick_Valid [.int .i64 o.Stop] u22 V23 (gval errT ((Enc.one eBool).enc x25)) ∧ IfB (!x25) (K (some 1) u22 V23) (K none u22 V23)) (K none u22 V23))) fun Kj24 => IfB (o.Show != 0) (IfB (o.Kind != 1) (Kj24 (o.Kind != 5) u16 V17) (Kj24 false u16 V17)) (Kj24 false u16 V17))) fun Kj18 => ∃ x19 : Bool, ROc PP F_order_Qty [.int .i64 o.Qty] u10 V11 (gval errT ((Enc.one eBool).enc x19)) ∧ IfB (!x19) (Kj18 true u10 V11) (∃ x20 : Bool, ROc PP F_order_within [.int .i64 o.Show, .int .i64 0, .int .i64 o.Qty] u10 V11 (gval errT ((Enc.one eBool).enc x20)) ∧ Kj18 (!x20) u10 V11))) fun Kj12 => IfB (o.Kind == 2) (IfB (o.Price != 0) (Kj12 true u2 V3) (IfB (o.Kind != 2) (∃ x13 : Bool, ROc PP F_tick_Valid [.int .i64 o.Price] u2 V3 (gval errT ((Enc.one eBool).enc x13)) ∧ Kj12 (!x13) u2 V3) (Kj12 false u2 V3))) (IfB (o.Kind != 2) (∃ x14 : Bool, ROc PP F_tick_Valid [.int .i64 o.Price] u2 V3 (gval errT ((Enc.one eBool).enc x14)) ∧ Kj12 (!x14) u2 V3) (Kj12 false u2 V3)))) fun Kj4 => ∃ x5 : Bool, ROc PP F_order_Id [.int .i64 o.Id] u V (gval errT ((Enc.one eBool).enc x5)) ∧ IfB (!x5) (Kj4 true u V) (∃ x6 : Bool, ROc PP F_order_Who [.int .i64 o.Who] u V (gval errT ((Enc.one eBool).enc x6)) ∧ IfB (!x6) (Kj4 true u V) (∃ x7 : Bool, ROc PP F_tick_Side [.int .i64 o.Side] u V (gval errT ((Enc.one eBool).enc x7)) ∧ IfB (!x7) (Kj4 true u V) (∃ x8 : Bool, ROc PP F_order_within [.int .i64 o.Kind, .int .i64 1, .int .i64 5] u V (gval errT ((Enc.one eBool).enc x8)) ∧ Kj4 (!x8) u V)))
-- (*pitfloor/wake.Stops).Where
def vc_wake_Stops_Where (s : Option Addr) (id : Int) (u : World) (V : VP) (K : Int → World → VP → Prop) : Prop :=
  NewC u V T_i64 [.int .i64 id] fun b1 u2 V3 => NilK s fun ad4 => ∃ x5 : Sl, At u2 V3 (ad4.add 0) [.slice x5.a x5.len x5.cap] ∧ ∃ x6 : Int, ROc PP F_slices_IndexFunc_Order [.slice x5.a x5.len x5.cap, .func (.func F_wake_Stops_Where_1) #[] #[.pointer (some ⟨b1, 0, none⟩)]] u2 V3 (gval errT ((Enc.one eInt).enc x6)) ∧ K x6 u2 V3
-- slices.Delete[[]pitfloor/api.Order,pitfloor/api.Order]
def vc_slices_Delete_Order (s : Sl) (i : Int) (j : Int) (u : World) (V : VP) (K : Sl → World → VP → Prop) : Prop :=
  ((0 ≤ (s.len : Int) ∧ (s.len : Int) ≤ (s.cap : Int)) ∧ (0 ≤ j ∧ j ≤ (s.len : Int)) ∧ (0 ≤ i ∧ i ≤ j) ∧ IfB (i == j) (K s u V) (((0 ≤ i ∧ i ≤ (s.cap : Int)) ∧ ((0 ≤ j ∧ j ≤ (s.len : Int)) ∧ OpV PP errT (Builtin.append_ #[T_Sl_Order, T_Sl_Order] T_Sl_Order #[.slice s.a i.toNat s.cap, .slice (cutA s.a s.cap j.toNat 8) (s.len - j.toNat) (s.cap - j.toNat)]) (Enc.one eSl) u V fun (x1 : Sl) u2 V3 => ((0 ≤ (s.len : Int) ∧ (s.len : Int) ≤ (x1.cap : Int)) ∧ (0 ≤ (x1.len : Int) ∧ (x1.len : Int) ≤ (s.len : Int)) ∧ OpV PP errT (Builtin.clear_ #[T_Sl_Order] T_Tu_ #[.slice (cutA x1.a x1.cap (x1.len : Int).toNat 8) ((s.len : Int).toNat - (x1.len : Int).toNat) (x1.cap - (x1.len : Int).toNat)]) Enc.t0 u2 V3 fun (x4 : Unit) u5 V6 => K x1 u5 V6)))))
-- pitfloor/pitref1.Ahead
def vc_pitref1_Ahead (side : Int) (a : Int) (b : Int) (u : World) (V : VP) (K : Bool → World → VP → Prop) : Prop :=
  IfB (side == 1) (IfB (decide (a < b)) (K true u V) (IfB (side == 2) (K (decide (a > b)) u V) (K false u V))) (IfB (side == 2) (K (decide (a > b)) u V) (K false u V))
-- pitfloor/tick.Price
def vc_tick_Price (p : Int) (u : World) (V : VP) (K : (Option Int) → World → VP → Prop) : Prop :=
  ∃ x1 : Bool, ROc PP F_tick_Valid [.int .i64 p] u V (gval errT ((Enc.one eBool).enc x1)) ∧ IfB (!x1) (K (some 1) u V) (K none u V)
-- pitfloor/wake.wakes
def vc_wake_wakes (o : Order) (price : Int) (u : World) (V : VP) (K : Bool → World → VP → Prop) : Prop :=
  IfB (o.Stop == price) (K true u V) (∃ x1 : Bool, ROc PP F_tick_Ahead [.int .i64 o.Side, .int .i64 o.Stop, .int .i64 price] u V (gval errT ((Enc.one eBool).enc x1)) ∧ K x1 u V)
-- slices.SortStableFunc[[]pitfloor/api.Order,pitfloor/api.Order]
def vc_slices_SortStableFunc_Order (x_0 : Sl) (cmp : Clo) (u : World) (V : VP) (K : Unit → World → VP → Prop) : Prop :=
  GC PP F_slices_stableCmpFunc_Order [.slice x_0.a x_0.len x_0.cap, .int .i64 (x_0.len : Int), .func (.func cmp.f) #[] cmp.caps.toArray] u V (fun x => gval errT (Enc.t0.enc x)) fun (x1 : Unit) u2 V3 => K () u2 V3
-- (*pitfloor/wake.Stops).Wake$1
def vc_wake_Stops_Wake_1 (a : Order) (b : Order) (u : World) (V : VP) (K : Int → World → VP → Prop) : Prop :=
  JoinN (fun (s1 : Bool) (u2 : World) (V3 : VP) => IfB s1 (∃ x5 : Int, ROc PP F_cmp_Compare_int [.int .i64 a.Side, .int .i64 b.Side] u2 V3 (gval errT ((Enc.one eInt).enc x5)) ∧ ∃ x6 : Int, ROc PP F_cmp_Compare_int [.int .i64 a.Stop, .int .i64 b.Stop] u2 V3 (gval errT ((Enc.one eInt).enc x6)) ∧ NewC u2 V3 T_i64 [.int .i64 x5, .int .i64 x6] fun b7 u8 V9 => ∃ x10 : Int, ROc PP F_cmp_Or_int [.slice (some (⟨b7, 0, none⟩ : Addr)) 2 2] u8 V9 (gval errT ((Enc.one eInt).enc x10)) ∧ K x10 u8 V9) (∃ x11 : Int, ROc PP F_cmp_Compare_int [.int .i64 b.Stop, .int .i64 a.Stop] u2 V3 (gval errT ((Enc.one eInt).enc x11)) ∧ K x11 u2 V3)) fun Kj4 => IfB (a.Side != b.Side) (Kj4 true u V) (Kj4 (a.Side == 1) u V)
-- cmp.Or[int]
def vc_cmp_Or_int (vals : Sl) (u : World) (V : VP) (K : Int → World → VP → Prop) : Prop :=
  LoopN (σ := Int) 0 u V fun s1 u2 V3 next4 => IfB (decide (s1 < (vals.len : Int))) (((0 ≤ s1 ∧ s1 < (vals.len : Int)) ∧ NilK vals.a fun ad5 => ∃ x6 : Int, At u2 V3 (ad5.add (s1.toNat * 1)) [.int .i64 x6] ∧ IfB (x6 != 0) (K x6 u2 V3) ((Rng (s1 + 1) ∧ next4 (s1 + 1) u2 V3)))) (K 0 u2 V3)
-- cmp.Compare[int]
def vc_cmp_Compare_int (x_0 : Int) (y : Int) (u : World) (V : VP) (K : Int → World → VP → Prop) : Prop :=
  ∃ x1 : Bool, ROc PP F_cmp_isNaN_int [.int .i64 x_0] u V (gval errT ((Enc.one eBool).enc x1)) ∧ ∃ x2 : Bool, ROc PP F_cmp_isNaN_int [.int .i64 y] u V (gval errT ((Enc.one eBool).enc x2)) ∧ IfB x1 (IfB x2 (K 0 u V) (K (-1) u V)) (IfB x2 (K 1 u V) (IfB (decide (x_0 < y)) (K (-1) u V) (IfB (decide (x_0 > y)) (K 1 u V) (K 0 u V))))
-- slices.Clone[[]pitfloor/api.Order,pitfloor/api.Order]
def vc_slices_Clone_Order (s : Sl) (u : World) (V : VP) (K : Sl → World → VP → Prop) : Prop :=
  IfB s.a.isNone (K (⟨none, 0, 0⟩ : Sl) u V) (NewC u V T_Order ([]) fun b1 u2 V3 => OpV PP errT (Builtin.append_ #[T_Sl_Order, T_Sl_Order] T_Sl_Order #[.slice (some (⟨b1, 0, none⟩ : Addr)) 0 0, .slice s.a s.len s.cap]) (Enc.one eSl) u2 V3 fun (x4 : Sl) u5 V6 => K x4 u5 V6)
-- pitfloor/pitref1.Side
def vc_pitref1_Side (s : Int) (u : World) (V : VP) (K : Bool → World → VP → Prop) : Prop :=
  IfB (s == 1) (K true u V) (K (s == 2) u V)
-- pitfloor/tick.Side
def vc_tick_Side (s : Int) (u : World) (V : VP) (K : Bool → World → VP → Prop) : Prop :=
  IfB (s == 1) (K true u V) (K (s == 2) u V)
-- pitfloor/order.Id
def vc_order_Id (n : Int) (u : World) (V : VP) (K : Bool → World → VP → Prop) : Prop :=
  ∃ x1 : Bool, ROc PP F_order_within [.int .i64 n, .int .i64 1, .int .i64 9999] u V (gval errT ((Enc.one eBool).enc x1)) ∧ K x1 u V
-- pitfloor/order.Who
def vc_order_Who (n : Int) (u : World) (V : VP) (K : Bool → World → VP → Prop) : Prop :=
  ∃ x1 : Bool, ROc PP F_order_within [.int .i64 n, .int .i64 1, .int .i64 9] u V (gval errT ((Enc.one eBool).enc x1)) ∧ K x1 u V
-- pitfloor/order.within
def vc_order_within (n : Int) (low : Int) (high : Int) (u : World) (V : VP) (K : Bool → World → VP → Prop) : Prop :=
  IfB (decide (n ≥ low)) (K (decide (n ≤ high)) u V) (K false u V)
-- pitfloor/tick.Valid
def vc_tick_Valid (p : Int) (u : World) (V : VP) (K : Bool → World → VP → Prop) : Prop :=
  IfB (decide (p ≥ 1)) (K (decide (p ≤ 10000)) u V) (K false u V)
-- pitfloor/order.Qty
def vc_order_Qty (n : Int) (u : World) (V : VP) (K : Bool → World → VP → Prop) : Prop :=
  ∃ x1 : Bool, ROc PP F_order_within [.int .i64 n, .int .i64 1, .int .i64 10000] u V (gval errT ((Enc.one eBool).enc x1)) ∧ K x1 u V
-- slices.IndexFunc[[]pitfloor/api.Order,pitfloor/api.Order]
def vc_slices_IndexFunc_Order (s : Sl) (f : Clo) (u : World) (V : VP) (K : Int → World → VP → Prop) : Prop :=
  LoopN (σ := Int) 0 u V fun s1 u2 V3 next4 => IfB (decide (s1 < (s.len : Int))) (((0 ≤ s1 ∧ s1 < (s.len : Int)) ∧ NilK s.a fun ad5 => ∃ x6 : Order, At u2 V3 (ad5.add (s1.toNat * 8)) (Order.cells x6) ∧ ∃ x7 : Bool, ROc PP f.f ([.agg (Order.cells x6).toArray] ++ f.caps) u2 V3 (gval errT ((Enc.one eBool).enc x7)) ∧ IfB x7 (K s1 u2 V3) ((Rng (s1 + 1) ∧ next4 (s1 + 1) u2 V3)))) (K (-1) u2 V3)
-- (*pitfloor/wake.Stops).Where$1
def vc_wake_Stops_Where_1 (o : Order) (c0 : Addr) (u : World) (V : VP) (K : Bool → World → VP → Prop) : Prop :=
  ∃ x1 : Int, At u V c0 [.int .i64 x1] ∧ K (o.Id == x1) u V
-- pitfloor/tick.Ahead
def vc_tick_Ahead (side : Int) (a : Int) (b : Int) (u : World) (V : VP) (K : Bool → World → VP → Prop) : Prop :=
  IfB (side == 1) (K (decide (a < b)) u V) (K (decide (a > b)) u V)
-- slices.stableCmpFunc[pitfloor/api.Order]
def vc_slices_stableCmpFunc_Order (data : Sl) (n : Int) (cmp : Clo) (u : World) (V : VP) (K : Unit → World → VP → Prop) : Prop :=
  LoopN (σ := Int × Int) (0, 20) u V fun s1 u2 V3 next4 => IfB (decide (s1.2 ≤ n)) (GC PP F_slices_insertionSortCmpFunc_Order [.slice data.a data.len data.cap, .int .i64 s1.1, .int .i64 s1.2, .func (.func cmp.f) #[] cmp.caps.toArray] u2 V3 (fun x => gval errT (Enc.t0.enc x)) fun (x5 : Unit) u6 V7 => (Rng (s1.2 + 20) ∧ next4 (s1.2, (s1.2 + 20)) u6 V7)) (GC PP F_slices_insertionSortCmpFunc_Order [.slice data.a data.len data.cap, .int .i64 s1.1, .int .i64 n, .func (.func cmp.f) #[] cmp.caps.toArray] u2 V3 (fun x => gval errT (Enc.t0.enc x)) fun (x8 : Unit) u9 V10 => LoopN (σ := Int) 20 u9 V10 fun s11 u12 V13 next14 => IfB (decide (s11 < n)) ((Rng (2 * s11) ∧ LoopN (σ := Int × Int) (0, (2 * s11)) u12 V13 fun s15 u16 V17 next18 => IfB (decide (s15.2 ≤ n)) ((Rng (s15.1 + s11) ∧ GC PP F_slices_symMergeCmpFunc_Order [.slice data.a data.len data.cap, .int .i64 s15.1, .int .i64 (s15.1 + s11), .int .i64 s15.2, .func (.func cmp.f) #[] cmp.caps.toArray] u16 V17 (fun x => gval errT (Enc.t0.enc x)) fun (x19 : Unit) u20 V21 => (Rng (2 * s11) ∧ (Rng (s15.2 + (2 * s11)) ∧ next18 (s15.2, (s15.2 + (2 * s11))) u20 V21)))) ((Rng (s15.1 + s11) ∧ IfB (decide ((s15.1 + s11) < n)) (GC PP F_slices_symMergeCmpFunc_Order [.slice data.a data.len data.cap, .int .i64 s15.1, .int .i64 (s15.1 + s11), .int .i64 n, .func (.func cmp.f) #[] cmp.caps.toArray] u16 V17 (fun x => gval errT (Enc.t0.enc x)) fun (x22 : Unit) u23 V24 => (Rng (s11 * 2) ∧ next14 (s11 * 2) u23 V24)) ((Rng (s11 * 2) ∧ next14 (s11 * 2) u16 V17)))))) (K () u12 V13))
-- cmp.isNaN[int]
def vc_cmp_isNaN_int (x_0 : Int) (u : World) (V : VP) (K : Bool → World → VP → Prop) : Prop :=
  K (x_0 != x_0) u V
-- slices.insertionSortCmpFunc[pitfloor/api.Order]
def vc_slices_insertionSortCmpFunc_Order (data : Sl) (a : Int) (b : Int) (cmp : Clo) (u : World) (V : VP) (K : Unit → World → VP → Prop) : Prop :=
  (Rng (a + 1) ∧ LoopN (σ := Int) (a + 1) u V fun s1 u2 V3 next4 => IfB (decide (s1 < b)) (LoopN (σ := Int) s1 u2 V3 fun s5 u6 V7 next8 => JoinN (fun (s9 : Bool) (u10 : World) (V11 : VP) => IfB s9 ((Rng (s5 - 1) ∧ (Rng (s5 - 1) ∧ ((0 ≤ (s5 - 1) ∧ (s5 - 1) < (data.len : Int)) ∧ NilK data.a fun ad18 => ∃ x19 : Order, At u10 V11 (ad18.add ((s5 - 1).toNat * 8)) (Order.cells x19) ∧ ((0 ≤ s5 ∧ s5 < (data.len : Int)) ∧ NilK data.a fun ad20 => ∃ x21 : Order, At u10 V11 (ad20.add (s5.toNat * 8)) (Order.cells x21) ∧ ((0 ≤ s5 ∧ s5 < (data.len : Int)) ∧ NilK data.a fun ad22 => ∀ w23, Rel V11 u10 w23 → StOk w23 V11 (ad22.add (s5.toNat * 8)) 8 ∧ ((0 ≤ (s5 - 1) ∧ (s5 - 1) < (data.len : Int)) ∧ NilK data.a fun ad24 => ∀ w25, Rel V11 (stW w23 (ad22.add (s5.toNat * 8)) (Order.cells x19) 0) w25 → StOk w25 V11 (ad24.add ((s5 - 1).toNat * 8)) 8 ∧ (Rng (s5 - 1) ∧ next8 (s5 - 1) (stW w25 (ad24.add ((s5 - 1).toNat * 8)) (Order.cells x21) 0) V11)))))))) ((Rng (s1 + 1) ∧ next4 (s1 + 1) u10 V11))) fun Kj12 => IfB (decide (s5 > a)) (((0 ≤ s5 ∧ s5 < (data.len : Int)) ∧ NilK data.a fun ad13 => ∃ x14 : Order, At u6 V7 (ad13.add (s5.toNat * 8)) (Order.cells x14) ∧ (Rng (s5 - 1) ∧ ((0 ≤ (s5 - 1) ∧ (s5 - 1) < (data.len : Int)) ∧ NilK data.a fun ad15 => ∃ x16 : Order, At u6 V7 (ad15.add ((s5 - 1).toNat * 8)) (Order.cells x16) ∧ ∃ x17 : Int, ROc PP cmp.f ([.agg (Order.cells x14).toArray, .agg (Order.cells x16).toArray] ++ cmp.caps) u6 V7 (gval errT ((Enc.one eInt).enc x17)) ∧ Kj12 (decide (x17 < 0)) u6 V7)))) (Kj12 false u6 V7)) (K () u2 V3))
-- slices.symMergeCmpFunc[pitfloor/api.Order]
def vc_slices_symMergeCmpFunc_Order (data : Sl) (a : Int) (m : Int) (b : Int) (cmp : Clo) (u : World) (V : VP) (K : Unit → World → VP → Prop) : Prop :=
  (Rng (m - a) ∧ IfB ((m - a) == 1) (LoopN (σ := Int × Int) (m, b) u V fun s1 u2 V3 next4 => IfB (decide (s1.1 < s1.2)) ((Rng (s1.1 + s1.2) ∧ ((0 ≤ (IntKind.wrap .i64 (Int.fdiv (IntKind.wrap .u64 (s1.1 + s1.2)) (2 ^ (min (1 : Int).toNat (IntKind.bits .u64))))) ∧ (IntKind.wrap .i64 (Int.fdiv (IntKind.wrap .u64 (s1.1 + s1.2)) (2 ^ (min (1 : Int).toNat (IntKind.bits .u64))))) < (data.len : Int)) ∧ NilK data.a fun ad5 => ∃ x6 : Order, At u2 V3 (ad5.add ((IntKind.wrap .i64 (Int.fdiv (IntKind.wrap .u64 (s1.1 + s1.2)) (2 ^ (min (1 : Int).toNat (IntKind.bits .u64))))).toNat * 8)) (Order.cells x6) ∧ ((0 ≤ a ∧ a < (data.len : Int)) ∧ NilK data.a fun ad7 => ∃ x8 : Order, At u2 V3 (ad7.add (a.toNat * 8)) (Order.cells x8) ∧ ∃ x9 : Int, ROc PP cmp.f ([.agg (Order.cells x6).toArray, .agg (Order.cells x8).toArray] ++ cmp.caps) u2 V3 (gval errT ((Enc.one eInt).enc x9)) ∧ IfB (decide (x9 < 0)) ((Rng ((IntKind.wrap .i64 (Int.fdiv (IntKind.wrap .u64 (s1.1 + s1.2)) (2 ^ (min (1 : Int).toNat (IntKind.bits .u64))))) + 1) ∧ next4 (((IntKind.wrap .i64 (Int.fdiv (IntKind.wrap .u64 (s1.1 + s1.2)) (2 ^ (min (1 : Int).toNat (IntKind.bits .u64))))) + 1), s1.2) u2 V3)) (next4 (s1.1, (IntKind.wrap .i64 (Int.fdiv (IntKind.wrap .u64 (s1.1 + s1.2)) (2 ^ (min (1 : Int).toNat (IntKind.bits .u64)))))) u2 V3))))) (LoopN (σ := Int) a u2 V3 fun s10 u11 V12 next13 => (Rng (s1.1 - 1) ∧ IfB (decide (s10 < (s1.1 - 1))) ((Rng (s10 + 1) ∧ (Rng (s10 + 1) ∧ ((0 ≤ (s10 + 1) ∧ (s10 + 1) < (data.len : Int)) ∧ NilK data.a fun ad14 => ∃ x15 : Order, At u11 V12 (ad14.add ((s10 + 1).toNat * 8)) (Order.cells x15) ∧ ((0 ≤ s10 ∧ s10 < (data.len : Int)) ∧ NilK data.a fun ad16 => ∃ x17 : Order, At u11 V12 (ad16.add (s10.toNat * 8)) (Order.cells x17) ∧ ((0 ≤ s10 ∧ s10 < (data.len : Int)) ∧ NilK data.a fun ad18 => ∀ w19, Rel V12 u11 w19 → StOk w19 V12 (ad18.add (s10.toNat * 8)) 8 ∧ ((0 ≤ (s10 + 1) ∧ (s10 + 1) < (data.len : Int)) ∧ NilK data.a fun ad20 => ∀ w21, Rel V12 (stW w19 (ad18.add (s10.toNat * 8)) (Order.cells x15) 0) w21 → StOk w21 V12 (ad20.add ((s10 + 1).toNat * 8)) 8 ∧ (Rng (s10 + 1) ∧ next13 (s10 + 1) (stW w21 (ad20.add ((s10 + 1).toNat * 8)) (Order.cells x17) 0) V12)))))))) (K () u11 V12)))) ((Rng (b - m) ∧ IfB ((b - m) == 1) (LoopN (σ := Int × Int) (a, m) u V fun s22 u23 V24 next25 => IfB (decide (s22.1 < s22.2)) ((Rng (s22.1 + s22.2) ∧ ((0 ≤ m ∧ m < (data.len : Int)) ∧ NilK data.a fun ad26 => ∃ x27 : Order, At u23 V24 (ad26.add (m.toNat * 8)) (Order.cells x27) ∧ ((0 ≤ (IntKind.wrap .i64 (Int.fdiv (IntKind.wrap .u64 (s22.1 + s22.2)) (2 ^ (min (1 : Int).toNat (IntKind.bits .u64))))) ∧ (IntKind.wrap .i64 (Int.fdiv (IntKind.wrap .u64 (s22.1 + s22.2)) (2 ^ (min (1 : Int).toNat (IntKind.bits .u64))))) < (data.len : Int)) ∧ NilK data.a fun ad28 => ∃ x29 : Order, At u23 V24 (ad28.add ((IntKind.wrap .i64 (Int.fdiv (IntKind.wrap .u64 (s22.1 + s22.2)) (2 ^ (min (1 : Int).toNat (IntKind.bits .u64))))).toNat * 8)) (Order.cells x29) ∧ ∃ x30 : Int, ROc PP cmp.f ([.agg (Order.cells x27).toArray, .agg (Order.cells x29).toArray] ++ cmp.caps) u23 V24 (gval errT ((Enc.one eInt).enc x30)) ∧ IfB (!(decide (x30 < 0))) ((Rng ((IntKind.wrap .i64 (Int.fdiv (IntKind.wrap .u64 (s22.1 + s22.2)) (2 ^ (min (1 : Int).toNat (IntKind.bits .u64))))) + 1) ∧ next25 (((IntKind.wrap .i64 (Int.fdiv (IntKind.wrap .u64 (s22.1 + s22.2)) (2 ^ (min (1 : Int).toNat (IntKind.bits .u64))))) + 1), s22.2) u23 V24)) (next25 (s22.1, (IntKind.wrap .i64 (Int.fdiv (IntKind.wrap .u64 (s22.1 + s22.2)) (2 ^ (min (1 : Int).toNat (IntKind.bits .u64)))))) u23 V24))))) (LoopN (σ := Int) m u23 V24 fun s31 u32 V33 next34 => IfB (decide (s31 > s22.1)) ((Rng (s31 - 1) ∧ (Rng (s31 - 1) ∧ ((0 ≤ (s31 - 1) ∧ (s31 - 1) < (data.len : Int)) ∧ NilK data.a fun ad35 => ∃ x36 : Order, At u32 V33 (ad35.add ((s31 - 1).toNat * 8)) (Order.cells x36) ∧ ((0 ≤ s31 ∧ s31 < (data.len : Int)) ∧ NilK data.a fun ad37 => ∃ x38 : Order, At u32 V33 (ad37.add (s31.toNat * 8)) (Order.cells x38) ∧ ((0 ≤ s31 ∧ s31 < (data.len : Int)) ∧ NilK data.a fun ad39 => ∀ w40, Rel V33 u32 w40 → StOk w40 V33 (ad39.add (s31.toNat * 8)) 8 ∧ ((0 ≤ (s31 - 1) ∧ (s31 - 1) < (data.len : Int)) ∧ NilK data.a fun ad41 => ∀ w42, Rel V33 (stW w40 (ad39.add (s31.toNat * 8)) (Order.cells x36) 0) w42 → StOk w42 V33 (ad41.add ((s31 - 1).toNat * 8)) 8 ∧ (Rng (s31 - 1) ∧ next34 (s31 - 1) (stW w42 (ad41.add ((s31 - 1).toNat * 8)) (Order.cells x38) 0) V33)))))))) (K () u32 V33))) ((Rng (a + b) ∧ (Rng ((IntKind.wrap .i64 (Int.fdiv (IntKind.wrap .u64 (a + b)) (2 ^ (min (1 : Int).toNat (IntKind.bits .u64))))) + m) ∧ JoinN (fun (s43 : Int × Int) (u44 : World) (V45 : VP) => (Rng (((IntKind.wrap .i64 (Int.fdiv (IntKind.wrap .u64 (a + b)) (2 ^ (min (1 : Int).toNat (IntKind.bits .u64))))) + m) - 1) ∧ LoopN (σ := Int × Int) (s43.1, s43.2) u44 V45 fun s47 u48 V49 next50 => IfB (decide (s47.1 < s47.2)) ((Rng (s47.1 + s47.2) ∧ (Rng ((((IntKind.wrap .i64 (Int.fdiv (IntKind.wrap .u64 (a + b)) (2 ^ (min (1 : Int).toNat (IntKind.bits .u64))))) + m) - 1) - (IntKind.wrap .i64 (Int.fdiv (IntKind.wrap .u64 (s47.1 + s47.2)) (2 ^ (min (1 : Int).toNat (IntKind.bits .u64)))))) ∧ ((0 ≤ ((((IntKind.wrap .i64 (Int.fdiv (IntKind.wrap .u64 (a + b)) (2 ^ (min (1 : Int).toNat (IntKind.bits .u64))))) + m) - 1) - (IntKind.wrap .i64 (Int.fdiv (IntKind.wrap .u64 (s47.1 + s47.2)) (2 ^ (min (1 : Int).toNat (IntKind.bits .u64)))))) ∧ ((((IntKind.wrap .i64 (Int.fdiv (IntKind.wrap .u64 (a + b)) (2 ^ (min (1 : Int).toNat (IntKind.bits .u64))))) + m) - 1) - (IntKind.wrap .i64 (Int.fdiv (IntKind.wrap .u64 (s47.1 + s47.2)) (2 ^ (min (1 : Int).toNat (IntKind.bits .u64)))))) < (data.len : Int)) ∧ NilK data.a fun ad51 => ∃ x52 : Order, At u48 V49 (ad51.add (((((IntKind.wrap .i64 (Int.fdiv (IntKind.wrap .u64 (a + b)) (2 ^ (min (1 : Int).toNat (IntKind.bits .u64))))) + m) - 1) - (IntKind.wrap .i64 (Int.fdiv (IntKind.wrap .u64 (s47.1 + s47.2)) (2 ^ (min (1 : Int).toNat (IntKind.bits .u64)))))).toNat * 8)) (Order.cells x52) ∧ ((0 ≤ (IntKind.wrap .i64 (Int.fdiv (IntKind.wrap .u64 (s47.1 + s47.2)) (2 ^ (min (1 : Int).toNat (IntKind.bits .u64))))) ∧ (IntKind.wrap .i64 (Int.fdiv (IntKind.wrap .u64 (s47.1 + s47.2)) (2 ^ (min (1 : Int).toNat (IntKind.bits .u64))))) < (data.len : Int)) ∧ NilK data.a fun ad53 => ∃ x54 : Order, At u48 V49 (ad53.add ((IntKind.wrap .i64 (Int.fdiv (IntKind.wrap .u64 (s47.1 + s47.2)) (2 ^ (min (1 : Int).toNat (IntKind.bits .u64))))).toNat * 8)) (Order.cells x54) ∧ ∃ x55 : Int, ROc PP cmp.f ([.agg (Order.cells x52).toArray, .agg (Order.cells x54).toArray] ++ cmp.caps) u48 V49 (gval errT ((Enc.one eInt).enc x55)) ∧ IfB (!(decide (x55 < 0))) ((Rng ((IntKind.wrap .i64 (Int.fdiv (IntKind.wrap .u64 (s47.1 + s47.2)) (2 ^ (min (1 : Int).toNat (IntKind.bits .u64))))) + 1) ∧ next50 (((IntKind.wrap .i64 (Int.fdiv (IntKind.wrap .u64 (s47.1 + s47.2)) (2 ^ (min (1 : Int).toNat (IntKind.bits .u64))))) + 1), s47.2) u48 V49)) (next50 (s47.1, (IntKind.wrap .i64 (Int.fdiv (IntKind.wrap .u64 (s47.1 + s47.2)) (2 ^ (min (1 : Int).toNat (IntKind.bits .u64)))))) u48 V49)))))) ((Rng (((IntKind.wrap .i64 (Int.fdiv (IntKind.wrap .u64 (a + b)) (2 ^ (min (1 : Int).toNat (IntKind.bits .u64))))) + m) - s47.1) ∧ JoinN (fun (s56 : Bool) (u57 : World) (V58 : VP) => JoinN (fun (s60 : Unit) (u61 : World) (V62 : VP) => JoinN (fun (s67 : Bool) (u68 : World) (V69 : VP) => IfB s67 (GC PP F_slices_symMergeCmpFunc_Order [.slice data.a data.len data.cap, .int .i64 a, .int .i64 s47.1, .int .i64 (IntKind.wrap .i64 (Int.fdiv (IntKind.wrap .u64 (a + b)) (2 ^ (min (1 : Int).toNat (IntKind.bits .u64))))), .func (.func cmp.f) #[] cmp.caps.toArray] u68 V69 (fun x => gval errT (Enc.t0.enc x)) fun (x71 : Unit) u72 V73 => IfB (decide ((IntKind.wrap .i64 (Int.fdiv (IntKind.wrap .u64 (a + b)) (2 ^ (min (1 : Int).toNat (IntKind.bits .u64))))) < (((IntKind.wrap .i64 (Int.fdiv (IntKind.wrap .u64 (a + b)) (2 ^ (min (1 : Int).toNat (IntKind.bits .u64))))) + m) - s47.1))) (IfB (decide ((((IntKind.wrap .i64 (Int.fdiv (IntKind.wrap .u64 (a + b)) (2 ^ (min (1 : Int).toNat (IntKind.bits .u64))))) + m) - s47.1) < b)) (GC PP F_slices_symMergeCmpFunc_Order [.slice data.a data.len data.cap, .int .i64 (IntKind.wrap .i64 (Int.fdiv (IntKind.wrap .u64 (a + b)) (2 ^ (min (1 : Int).toNat (IntKind.bits .u64))))), .int .i64 (((IntKind.wrap .i64 (Int.fdiv (IntKind.wrap .u64 (a + b)) (2 ^ (min (1 : Int).toNat (IntKind.bits .u64))))) + m) - s47.1), .int .i64 b, .func (.func cmp.f) #[] cmp.caps.toArray] u72 V73 (fun x => gval errT (Enc.t0.enc x)) fun (x74 : Unit) u75 V76 => K () u75 V76) (K () u72 V73)) (K () u72 V73)) (IfB (decide ((IntKind.wrap .i64 (Int.fdiv (IntKind.wrap .u64 (a + b)) (2 ^ (min (1 : Int).toNat (IntKind.bits .u64))))) < (((IntKind.wrap .i64 (Int.fdiv (IntKind.wrap .u64 (a + b)) (2 ^ (min (1 : Int).toNat (IntKind.bits .u64))))) + m) - s47.1))) (IfB (decide ((((IntKind.wrap .i64 (Int.fdiv (IntKind.wrap .u64 (a + b)) (2 ^ (min (1 : Int).toNat (IntKind.bits .u64))))) + m) - s47.1) < b)) (GC PP F_slices_symMergeCmpFunc_Order [.slice data.a data.len data.cap, .int .i64 (IntKind.wrap .i64 (Int.fdiv (IntKind.wrap .u64 (a + b)) (2 ^ (min (1 : Int).toNat (IntKind.bits .u64))))), .int .i64 (((IntKind.wrap .i64 (Int.fdiv (IntKind.wrap .u64 (a + b)) (2 ^ (min (1 : Int).toNat (IntKind.bits .u64))))) + m) - s47.1), .int .i64 b, .func (.func cmp.f) #[] cmp.caps.toArray] u68 V69 (fun x => gval errT (Enc.t0.enc x)) fun (x77 : Unit) u78 V79 => K () u78 V79) (K () u68 V69)) (K () u68 V69))) fun Kj70 => IfB (decide (a < s47.1)) (Kj70 (decide (s47.1 < (IntKind.wrap .i64 (Int.fdiv (IntKind.wrap .u64 (a + b)) (2 ^ (min (1 : Int).toNat (IntKind.bits .u64))))))) u61 V62) (Kj70 false u61 V62)) fun Kj63 => IfB s56 (GC PP F_slices_rotateCmpFunc_Order [.slice data.a data.len data.cap, .int .i64 s47.1, .int .i64 m, .int .i64 (((IntKind.wrap .i64 (Int.fdiv (IntKind.wrap .u64 (a + b)) (2 ^ (min (1 : Int).toNat (IntKind.bits .u64))))) + m) - s47.1), .func (.func cmp.f) #[] cmp.caps.toArray] u57 V58 (fun x => gval errT (Enc.t0.enc x)) fun (x64 : Unit) u65 V66 => Kj63 () u65 V66) (Kj63 () u57 V58)) fun Kj59 => IfB (decide (s47.1 < m)) (Kj59 (decide (m < (((IntKind.wrap .i64 (Int.fdiv (IntKind.wrap .u64 (a + b)) (2 ^ (min (1 : Int).toNat (IntKind.bits .u64))))) + m) - s47.1))) u48 V49) (Kj59 false u48 V49))))) fun Kj46 => IfB (decide (m > (IntKind.wrap .i64 (Int.fdiv (IntKind.wrap .u64 (a + b)) (2 ^ (min (1 : Int).toNat (IntKind.bits .u64))))))) ((Rng (((IntKind.wrap .i64 (Int.fdiv (IntKind.wrap .u64 (a + b)) (2 ^ (min (1 : Int).toNat (IntKind.bits .u64))))) + m) - b) ∧ Kj46 ((((IntKind.wrap .i64 (Int.fdiv (IntKind.wrap .u64 (a + b)) (2 ^ (min (1 : Int).toNat (IntKind.bits .u64))))) + m) - b), (IntKind.wrap .i64 (Int.fdiv (IntKind.wrap .u64 (a + b)) (2 ^ (min (1 : Int).toNat (IntKind.bits .u64)))))) u V)) (Kj46 (a, m) u V)))))))
-- slices.rotateCmpFunc[pitfloor/api.Order]
def vc_slices_rotateCmpFunc_Order (data : Sl) (a : Int) (m : Int) (b : Int) (cmp : Clo) (u : World) (V : VP) (K : Unit → World → VP → Prop) : Prop :=
  (Rng (m - a) ∧ (Rng (b - m) ∧ LoopN (σ := Int × Int) ((m - a), (b - m)) u V fun s1 u2 V3 next4 => IfB (s1.1 != s1.2) (IfB (decide (s1.1 > s1.2)) ((Rng (m - s1.1) ∧ GC PP F_slices_swapRangeCmpFunc_Order [.slice data.a data.len data.cap, .int .i64 (m - s1.1), .int .i64 m, .int .i64 s1.2, .func (.func cmp.f) #[] cmp.caps.toArray] u2 V3 (fun x => gval errT (Enc.t0.enc x)) fun (x5 : Unit) u6 V7 => (Rng (s1.1 - s1.2) ∧ next4 ((s1.1 - s1.2), s1.2) u6 V7))) ((Rng (m - s1.1) ∧ (Rng (m + s1.2) ∧ (Rng ((m + s1.2) - s1.1) ∧ GC PP F_slices_swapRangeCmpFunc_Order [.slice data.a data.len data.cap, .int .i64 (m - s1.1), .int .i64 ((m + s1.2) - s1.1), .int .i64 s1.1, .func (.func cmp.f) #[] cmp.caps.toArray] u2 V3 (fun x => gval errT (Enc.t0.enc x)) fun (x8 : Unit) u9 V10 => (Rng (s1.2 - s1.1) ∧ next4 (s1.1, (s1.2 - s1.1)) u9 V10)))))) ((Rng (m - s1.1) ∧ GC PP F_slices_swapRangeCmpFunc_Order [.slice data.a data.len data.cap, .int .i64 (m - s1.1), .int .i64 m, .int .i64 s1.1, .func (.func cmp.f) #[] cmp.caps.toArray] u2 V3 (fun x => gval errT (Enc.t0.enc x)) fun (x11 : Unit) u12 V13 => K () u12 V13))))
-- slices.swapRangeCmpFunc[pitfloor/api.Order]
def vc_slices_swapRangeCmpFunc_Order (data : Sl) (a : Int) (b : Int) (n : Int) (cmp : Clo) (u : World) (V : VP) (K : Unit → World → VP → Prop) : Prop :=
  LoopN (σ := Int) 0 u V fun s1 u2 V3 next4 => IfB (decide (s1 < n)) ((Rng (a + s1) ∧ (Rng (b + s1) ∧ (Rng (b + s1) ∧ ((0 ≤ (b + s1) ∧ (b + s1) < (data.len : Int)) ∧ NilK data.a fun ad5 => ∃ x6 : Order, At u2 V3 (ad5.add ((b + s1).toNat * 8)) (Order.cells x6) ∧ (Rng (a + s1) ∧ ((0 ≤ (a + s1) ∧ (a + s1) < (data.len : Int)) ∧ NilK data.a fun ad7 => ∃ x8 : Order, At u2 V3 (ad7.add ((a + s1).toNat * 8)) (Order.cells x8) ∧ ((0 ≤ (a + s1) ∧ (a + s1) < (data.len : Int)) ∧ NilK data.a fun ad9 => ∀ w10, Rel V3 u2 w10 → StOk w10 V3 (ad9.add ((a + s1).toNat * 8)) 8 ∧ ((0 ≤ (b + s1) ∧ (b + s1) < (data.len : Int)) ∧ NilK data.a fun ad11 => ∀ w12, Rel V3 (stW w10 (ad9.add ((a + s1).toNat * 8)) (Order.cells x6) 0) w12 → StOk w12 V3 (ad11.add ((b + s1).toNat * 8)) 8 ∧ (Rng (s1 + 1) ∧ next4 (s1 + 1) (stW w12 (ad11.add ((b + s1).toNat * 8)) (Order.cells x8) 0) V3)))))))))) (K () u2 V3)
end Go.Sx

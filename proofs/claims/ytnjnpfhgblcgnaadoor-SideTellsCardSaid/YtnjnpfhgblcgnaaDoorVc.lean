/-
  The conditions of the functions that this claim reaches, printed by program. Conditions: those of the statement alone.
-/
import Derived.Test.YtnjnpfhgblcgnaaDoorTab
import Derived.Test.YtnjnpfhgblcgnaaDoorSxA
set_option linter.unusedVariables false
set_option linter.unusedSimpArgs false
set_option maxRecDepth 100000
namespace Go.Sx
abbrev F_pitlaw1_SideTells : Nat := 4
abbrev F_pitsame_Error : Nat := 9
abbrev F_pitref1_Price : Nat := 14
abbrev F_pitref1_Levels : Nat := 19
abbrev F_side_Check : Nat := 20
abbrev F_side_Best : Nat := 21
abbrev F_side_Depth : Nat := 22
abbrev F_pitref1_Add : Nat := 23
abbrev F_side_Add : Nat := 24
abbrev F_pitsame_Levels : Nat := 25
abbrev F_pitref1_At : Nat := 26
abbrev F_pitref1_Out : Nat := 27
abbrev F_side_Drop : Nat := 28
abbrev F_side_Find : Nat := 29
abbrev F_plain_Told : Nat := 47
abbrev F_pitref1_Ahead : Nat := 51
abbrev F_tick_Price : Nat := 52
abbrev F_pitref1_Side : Nat := 59
abbrev F_pitref1_Queue : Nat := 60
abbrev F_pitref1_Count : Nat := 61
abbrev F_pitref1_Twice : Nat := 62
abbrev F_pitref1_Flat : Nat := 63
abbrev F_tick_Side : Nat := 64
abbrev F_queue_Check : Nat := 65
abbrev F_side_ahead : Nat := 66
abbrev F_side_Count : Nat := 67
abbrev F_side_Twice : Nat := 68
abbrev F_pitref1_Rest : Nat := 69
abbrev F_pitref1_Put : Nat := 70
abbrev F_queue_One : Nat := 71
abbrev F_side_Where : Nat := 72
abbrev F_side_Put : Nat := 73
abbrev F_side_Own : Nat := 74
abbrev F_pitsame_Rests : Nat := 75
abbrev F_pitref1_In : Nat := 76
abbrev F_pitref1_Without : Nat := 77
abbrev F_side_Cut : Nat := 78
abbrev F_order_Id : Nat := 97
abbrev F_order_Who : Nat := 98
abbrev F_order_within : Nat := 99
abbrev F_tick_Valid : Nat := 100
abbrev F_order_Qty : Nat := 101
abbrev F_tick_Ahead : Nat := 104
abbrev F_queue_Find : Nat := 107
abbrev F_tick_Other : Nat := 108
abbrev F_slices_Insert_Level : Nat := 109
abbrev F_slices_Clone_Level : Nat := 110
abbrev F_slices_Clone_Rest : Nat := 111
abbrev F_slices_Delete_Rest : Nat := 112
abbrev F_slices_Delete_Level : Nat := 113
abbrev F_slices_IndexFunc_Rest : Nat := 131
abbrev F_queue_Find_1 : Nat := 132
abbrev F_slices_overlaps_Level : Nat := 133
abbrev F_slices_rotateRight_Level : Nat := 134
abbrev F_internal_reflectlite_TypeOf : Nat := 148
abbrev F_slices_rotateLeft_Level : Nat := 152
abbrev F_slices_Reverse_Level : Nat := 162
abbrev T_Tu_ : Nat := 0
abbrev T_i64 : Nat := 3
abbrev T_u8 : Nat := 5
abbrev T_St_i64_n2_i64_bool_internal_abi_BoundsErrorCode : Nat := 7
abbrev T_runtime_boundsError : Nat := 8
abbrev T_St_str_u64 : Nat := 13
abbrev T_runtime_errorAddressString : Nat := 14
abbrev T_St_P_internal_abi_Type : Nat := 18
abbrev T_internal_runtime_maps_unhashableTypeError : Nat := 19
abbrev T_Sl_Order : Nat := 22
abbrev T_Sl_Sl_i64 : Nat := 23
abbrev T_A2_i64 : Nat := 26
abbrev T_Sl_i64 : Nat := 27
abbrev T_St_i64_i64_i64_i64_i64_i64_i64_i64 : Nat := 28
abbrev T_Order : Nat := 29
abbrev T_error : Nat := 34
abbrev T_Sl_Level : Nat := 48
abbrev T_St_i64_i64_i64_i64_i64 : Nat := 49
abbrev T_Rest : Nat := 50
abbrev T_Sl_Rest : Nat := 53
abbrev T_St_i64_Sl_Rest : Nat := 54
abbrev T_Level : Nat := 55
abbrev T_Sl_A2_i64 : Nat := 58
abbrev T_Sl_Trade : Nat := 79
abbrev T_Sl_Event : Nat := 86
abbrev T_Sl_A3_i64 : Nat := 89
abbrev T_St_i64_i64_i64_i64_i64_i64 : Nat := 91
abbrev T_Trade : Nat := 92
abbrev T_St_i64_i64_i64_i64_Trade : Nat := 93
abbrev T_Event : Nat := 94
abbrev T_A3_i64 : Nat := 102
abbrev T_St_Sl_Order : Nat := 104
abbrev T_wake_Stops : Nat := 105
abbrev T_Errno : Nat := 107
abbrev T_Sl_u8 : Nat := 145
abbrev T_St_P_strings_Builder_Sl_u8 : Nat := 146
abbrev T_strings_Builder : Nat := 147
abbrev T_M_i64_A3_i64 : Nat := 151
abbrev T_M_i64_bool : Nat := 159
abbrev T_St_P_internal_abi_Type_other_internal_reflectlite_flag : Nat := 172
abbrev T_internal_reflectlite_Value : Nat := 173
abbrev T_St_P_internal_abi_Type_n202 : Nat := 202
abbrev T_internal_reflectlite_rtype : Nat := 203
abbrev T_Sl_error : Nat := 214
abbrev T_A24_u8 : Nat := 226
abbrev T_A20_u64_n201 : Nat := 233
abbrev T_A65_u8 : Nat := 234
abbrev T_A32_u8 : Nat := 235
abbrev T_A64_u8 : Nat := 236
abbrev T_St_P_internal_abi_Type_P_internal_abi_Type_P_internal_abi_Type_str : Nat := 237
abbrev T_runtime_TypeAssertionError : Nat := 238
abbrev T_A0_P_runtime_PanicNilError : Nat := 239
abbrev T_St_A0_P_runtime_PanicNilError : Nat := 240
abbrev T_runtime_PanicNilError : Nat := 241
abbrev T_St_u64_u64_u32_internal_abi_TFlag_u8_u8_internal_abi_Kind_func_n245_P_u8_internal_abi_NameOff_internal_abi_TypeOff : Nat := 248
abbrev T_internal_abi_Type : Nat := 249
abbrev T_St_str_internal_abi_Kind : Nat := 252
abbrev T_internal_reflectlite_ValueError : Nat := 253
abbrev T_St_internal_abi_NameOff_u16_u16_u32_u32 : Nat := 257
abbrev T_internal_abi_UncommonType : Nat := 258
abbrev T_Sl_internal_abi_Method : Nat := 259
abbrev T_St_internal_abi_NameOff_internal_abi_TypeOff_internal_abi_TextOff_internal_abi_TextOff : Nat := 261
abbrev T_internal_abi_Method : Nat := 262
structure Rest where
  Id : Int
  Who : Int
  Qty : Int
  Hidden : Int
  Show : Int
def cRest : Cod Rest := ((cInt .i64).pair ((cInt .i64).pair ((cInt .i64).pair ((cInt .i64).pair (cInt .i64))))).iso (fun p => ⟨p.1, p.2.1, p.2.2.1, p.2.2.2.1, p.2.2.2.2⟩) (fun x => (x.Id, x.Who, x.Qty, x.Hidden, x.Show)) (fun _ => rfl)
def Rest.cells (x : Rest) : List Value := [.int .i64 x.Id, .int .i64 x.Who, .int .i64 x.Qty, .int .i64 x.Hidden, .int .i64 x.Show]
def eRest : Enc1 := .agg { cells := Rest.cells, rd := cRest.rd, law := cRest.law }
structure Arr2_Int where
  x0 : Int
  x1 : Int
def cArr2_Int : Cod Arr2_Int := ((cInt .i64).pair (cInt .i64)).iso (fun p => ⟨p.1, p.2⟩) (fun x => (x.x0, x.x1)) (fun _ => rfl)
def Arr2_Int.cells (x : Arr2_Int) : List Value := [.int .i64 x.x0, .int .i64 x.x1]
def eArr2_Int : Enc1 := .agg { cells := Arr2_Int.cells, rd := cArr2_Int.rd, law := cArr2_Int.law }
structure Level where
  Price : Int
  Rests : Sl
def cLevel : Cod Level := ((cInt .i64).pair cSl).iso (fun p => ⟨p.1, p.2⟩) (fun x => (x.Price, x.Rests)) (fun _ => rfl)
def Level.cells (x : Level) : List Value := [.int .i64 x.Price, .slice x.Rests.a x.Rests.len x.Rests.cap]
def eLevel : Enc1 := .agg { cells := Level.cells, rd := cLevel.rd, law := cLevel.law }
-- no codec for Reflectlite_Value: codec of other
def encL : List (Nat × Enc) := [(0, Enc.t0),
  (3, (Enc.one eInt)),
  (4, (Enc.one eBool)),
  (20, (Enc.one Enc1.raw)),
  (26, (Enc.one eArr2_Int)),
  (34, (Enc.one Enc1.err)),
  (48, (Enc.one eSl)),
  (50, (Enc.one eRest)),
  (53, (Enc.one eSl)),
  (55, (Enc.one eLevel)),
  (56, (Enc.t2 eInt Enc1.err)),
  (58, (Enc.one eSl)),
  (59, (Enc.t2 eSl Enc1.err)),
  (61, (Enc.t2 eSl eInt)),
  (63, (Enc.t2 eSl Enc1.err)),
  (66, (Enc.t2 eInt eInt)),
  (69, (Enc.t4 eSl eRest eInt Enc1.err)),
  (71, (Enc.t3 eInt eInt Enc1.err)),
  (107, (Enc.one eInt)),
  (159, (Enc.one eMap)),
  (176, (Enc.one Enc1.raw)),
  (186, (Enc.one Enc1.clo))]
def roL : List Nat := [9, 11, 14, 17, 19, 20, 21, 25, 26, 29, 30, 31, 32, 33, 34, 37, 38, 39, 41, 42, 43, 44, 46, 47, 48, 49, 51, 52, 53, 55, 56, 57, 59, 60, 61, 62, 64, 65, 66, 67, 68, 69, 71, 72, 75, 76, 79, 80, 81, 82, 83, 86, 87, 88, 89, 92, 93, 95, 97, 98, 99, 100, 101, 102, 103, 104, 106, 107, 108, 114, 115, 116, 118, 119, 122, 124, 131, 132, 133, 137, 146, 147, 155, 157, 164, 165, 170, 171, 172, 173, 174, 175]
noncomputable def XX : Ctx PP := { tab := lookN tabL, tenv := lookE encL, errT := errT, ro := memN roL, htab := tab_ok tabA, herr := herr, mixed := mixed }
-- pitfloor/pitlaw1.SideTells
def vc_pitlaw1_SideTells (s : Int) (l_1 : Sl) (p : Int) (r_3 : Rest) (id : Int) (n : Int) (u : World) (V : VP) (K : Bool → World → VP → Prop) : Prop :=
  ∃ x1 : Int, ROc PP F_pitref1_Levels [.int .i64 s, .slice l_1.a l_1.len l_1.cap] u V (gval errT ((Enc.one eInt).enc x1)) ∧ ∃ x2 : Option Int, ROc PP F_side_Check [.int .i64 s, .slice l_1.a l_1.len l_1.cap] u V (gval errT ((Enc.one Enc1.err).enc x2)) ∧ ∃ x3 : Bool, ROc PP F_pitsame_Error [gval1 errT (.err x2), .int .i64 x1] u V (gval errT ((Enc.one eBool).enc x3)) ∧ JoinN (fun (s4 : Bool) (u5 : World) (V6 : VP) => JoinN (fun (s8 : Int × Int) (u9 : World) (V10 : VP) => ∃ x18 : Int × (Option Int), ROc PP F_side_Best [.int .i64 s, .slice l_1.a l_1.len l_1.cap] u9 V10 (gval errT ((Enc.t2 eInt Enc1.err).enc x18)) ∧ ∃ x19 : Bool, ROc PP F_pitsame_Error [gval1 errT (.err x18.2), .int .i64 s8.1] u9 V10 (gval errT ((Enc.one eBool).enc x19)) ∧ JoinN (fun (s20 : Bool) (u21 : World) (V22 : VP) => JoinN (fun (s24 : Int) (u25 : World) (V26 : VP) => LoopN (σ := Sl × Int) ((⟨none, 0, 0⟩ : Sl), 0) u25 V26 fun s28 u29 V30 next31 => JoinN (fun (s32 : Bool) (u33 : World) (V34 : VP) => IfB s32 (LoopN (σ := Int × Int) (0, 0) u33 V34 fun s36 u37 V38 next39 => ((0 ≤ s28.2 ∧ s28.2 < (l_1.len : Int)) ∧ NilK l_1.a fun ad40 => ∃ x41 : Sl, At u37 V38 ((ad40.add (s28.2.toNat * 2)).add 1) [.slice x41.a x41.len x41.cap] ∧ IfB (decide (s36.2 < (x41.len : Int))) (((0 ≤ s28.2 ∧ s28.2 < (l_1.len : Int)) ∧ NilK l_1.a fun ad42 => ∃ x43 : Sl, At u37 V38 ((ad42.add (s28.2.toNat * 2)).add 1) [.slice x43.a x43.len x43.cap] ∧ ((0 ≤ s36.2 ∧ s36.2 < (x43.len : Int)) ∧ NilK x43.a fun ad44 => ∃ x45 : Int, At u37 V38 ((ad44.add (s36.2.toNat * 5)).add 2) [.int .i64 x45] ∧ (Rng (s36.1 + x45) ∧ (Rng (s36.2 + 1) ∧ next39 ((s36.1 + x45), (s36.2 + 1)) u37 V38))))) (((0 ≤ s28.2 ∧ s28.2 < (l_1.len : Int)) ∧ NilK l_1.a fun ad46 => ∃ x47 : Int, At u37 V38 ((ad46.add (s28.2.toNat * 2)).add 0) [.int .i64 x47] ∧ NewC u37 V38 T_A2_i64 ((Arr2_Int.cells (⟨x47, s36.1⟩ : Arr2_Int))) fun b48 u49 V50 => OpV PP errT (Builtin.append_ #[T_Sl_A2_i64, T_Sl_A2_i64] T_Sl_A2_i64 #[.slice s28.1.a s28.1.len s28.1.cap, .slice (some (⟨b48, 0, none⟩ : Addr)) 1 1]) (Enc.one eSl) u49 V50 fun (x51 : Sl) u52 V53 => (Rng (s28.2 + 1) ∧ next31 (x51, (s28.2 + 1)) u52 V53))))) (GC PP F_side_Depth [.int .i64 s, .slice l_1.a l_1.len l_1.cap, .int .i64 n] u33 V34 (fun x => gval errT ((Enc.t2 eSl Enc1.err).enc x)) fun (x54 : Sl × (Option Int)) u55 V56 => ∃ x57 : Bool, ROc PP F_pitsame_Error [gval1 errT (.err x54.2), .int .i64 s24] u55 V56 (gval errT ((Enc.one eBool).enc x57)) ∧ IfB ((x54.1.len : Int) != (s28.1.len : Int)) (K false u55 V56) (LoopN (σ := Int) 0 u55 V56 fun s58 u59 V60 next61 => IfB (decide (s58 < (x54.1.len : Int))) (((0 ≤ s58 ∧ s58 < (x54.1.len : Int)) ∧ NilK x54.1.a fun ad62 => ∃ x63 : Arr2_Int, At u59 V60 (ad62.add (s58.toNat * 2)) (Arr2_Int.cells x63) ∧ ((0 ≤ s58 ∧ s58 < (s28.1.len : Int)) ∧ NilK s28.1.a fun ad64 => ∃ x65 : Arr2_Int, At u59 V60 (ad64.add (s58.toNat * 2)) (Arr2_Int.cells x65) ∧ ∃ b66, (∀ w, (binOp .neq T_A2_i64 (.agg (Arr2_Int.cells x63).toArray) (.agg (Arr2_Int.cells x65).toArray)).run PP w = .ok (.bool b66) w) ∧ (∀ w, (eqGuard .neq T_A2_i64 (.tmp 150) (.tmp 154) (.agg (Arr2_Int.cells x63).toArray) (.agg (Arr2_Int.cells x65).toArray)).run PP w = .ok () w) ∧ IfB b66 (K false u59 V60) ((Rng (s58 + 1) ∧ next61 (s58 + 1) u59 V60))))) (JoinN (fun (s67 : Int × Sl) (u68 : World) (V69 : VP) => GC PP F_side_Add [.int .i64 s, .slice l_1.a l_1.len l_1.cap, .int .i64 p, .agg (Rest.cells r_3).toArray] u68 V69 (fun x => gval errT ((Enc.t2 eSl Enc1.err).enc x)) fun (x74 : Sl × (Option Int)) u75 V76 => ∃ x77 : Bool, ROc PP F_pitsame_Error [gval1 errT (.err x74.2), .int .i64 s67.1] u75 V76 (gval errT ((Enc.one eBool).enc x77)) ∧ ∃ x78 : Bool, ROc PP F_pitsame_Levels [.slice x74.1.a x74.1.len x74.1.cap, .slice s67.2.a s67.2.len s67.2.cap] u75 V76 (gval errT ((Enc.one eBool).enc x78)) ∧ ∃ x79 : Int × Int, ROc PP F_pitref1_At [.slice l_1.a l_1.len l_1.cap, .int .i64 id] u75 V76 (gval errT ((Enc.t2 eInt eInt).enc x79)) ∧ JoinN (fun (s80 : Bool) (u81 : World) (V82 : VP) => JoinN (fun (s84 : Int × Sl × Int × Rest) (u85 : World) (V86 : VP) => GC PP F_side_Drop [.int .i64 s, .slice l_1.a l_1.len l_1.cap, .int .i64 id] u85 V86 (fun x => gval errT ((Enc.t4 eSl eRest eInt Enc1.err).enc x)) fun (x101 : Sl × Rest × Int × (Option Int)) u102 V103 => ∃ x104 : Bool, ROc PP F_pitsame_Error [gval1 errT (.err x101.2.2.2), .int .i64 s84.1] u102 V103 (gval errT ((Enc.one eBool).enc x104)) ∧ ∃ x105 : Bool, ROc PP F_pitsame_Levels [.slice x101.1.a x101.1.len x101.1.cap, .slice s84.2.1.a s84.2.1.len s84.2.1.cap] u102 V103 (gval errT ((Enc.one eBool).enc x105)) ∧ JoinN (fun (s106 : Int × Int) (u107 : World) (V108 : VP) => ∃ x110 : Int × Int × (Option Int), ROc PP F_side_Find [.int .i64 s, .slice l_1.a l_1.len l_1.cap, .int .i64 id] u107 V108 (gval errT ((Enc.t3 eInt eInt Enc1.err).enc x110)) ∧ ∃ x111 : Bool, ROc PP F_pitsame_Error [gval1 errT (.err x110.2.2), .int .i64 s84.1] u107 V108 (gval errT ((Enc.one eBool).enc x111)) ∧ IfB x3 (IfB x19 (IfB x57 (IfB x77 (IfB x104 (IfB x111 (IfB x78 (IfB x105 (IfB (x18.1 == s8.2) (∃ b112, (∀ w, (binOp .eql T_Rest (.agg (Rest.cells x101.2.1).toArray) (.agg (Rest.cells s84.2.2.2).toArray)).run PP w = .ok (.bool b112) w) ∧ (∀ w, (eqGuard .eql T_Rest (.tmp 268) (.tmp 269) (.agg (Rest.cells x101.2.1).toArray) (.agg (Rest.cells s84.2.2.2).toArray)).run PP w = .ok () w) ∧ IfB b112 (IfB (x101.2.2.1 == s84.2.2.1) (IfB (x110.1 == s106.1) (K (x110.2.1 == s106.2) u107 V108) (K false u107 V108)) (K false u107 V108)) (K false u107 V108)) (K false u107 V108)) (K false u107 V108)) (K false u107 V108)) (K false u107 V108)) (K false u107 V108)) (K false u107 V108)) (K false u107 V108)) (K false u107 V108)) (K false u107 V108)) fun Kj109 => IfB (s84.1 != 0) (Kj109 (0, 0) u102 V103) (Kj109 (x79.1, x79.2) u102 V103)) fun Kj87 => IfB s80 (Kj87 (5, (⟨none, 0, 0⟩ : Sl), 0, (⟨0, 0, 0, 0, 0⟩ : Rest)) u81 V82) (JoinN (fun (s88 : Sl × Int × Rest) (u89 : World) (V90 : VP) => Kj87 (x1, s88.1, s88.2.1, s88.2.2) u89 V90) fun Kj91 => IfB (x1 == 0) (GC PP F_pitref1_Out [.slice l_1.a l_1.len l_1.cap, .int .i64 x79.1, .int .i64 x79.2] u81 V82 (fun x => gval errT ((Enc.one eSl).enc x)) fun (x92 : Sl) u93 V94 => ((0 ≤ x79.1 ∧ x79.1 < (l_1.len : Int)) ∧ NilK l_1.a fun ad95 => ∃ x96 : Sl, At u93 V94 ((ad95.add (x79.1.toNat * 2)).add 1) [.slice x96.a x96.len x96.cap] ∧ ((0 ≤ x79.2 ∧ x79.2 < (x96.len : Int)) ∧ NilK x96.a fun ad97 => ∃ x98 : Rest, At u93 V94 (ad97.add (x79.2.toNat * 5)) (Rest.cells x98) ∧ ((0 ≤ x79.1 ∧ x79.1 < (l_1.len : Int)) ∧ NilK l_1.a fun ad99 => ∃ x100 : Int, At u93 V94 ((ad99.add (x79.1.toNat * 2)).add 0) [.int .i64 x100] ∧ Kj91 (x92, x100, x98) u93 V94)))) (Kj91 ((⟨none, 0, 0⟩ : Sl), 0, (⟨0, 0, 0, 0, 0⟩ : Rest)) u81 V82))) fun Kj83 => IfB (x1 == 0) (Kj83 (decide (x79.1 < 0)) u75 V76) (Kj83 false u75 V76)) fun Kj70 => IfB (x1 == 0) (GC PP F_pitref1_Add [.int .i64 s, .slice l_1.a l_1.len l_1.cap, .int .i64 p, .agg (Rest.cells r_3).toArray] u59 V60 (fun x => gval errT ((Enc.t2 eSl eInt).enc x)) fun (x71 : Sl × Int) u72 V73 => Kj70 (x71.2, x71.1) u72 V73) (Kj70 (x1, (⟨none, 0, 0⟩ : Sl)) u59 V60))))) fun Kj35 => IfB (decide (s28.2 < (l_1.len : Int))) (IfB (decide (s28.2 < n)) (Kj35 (s24 == 0) u29 V30) (Kj35 false u29 V30)) (Kj35 false u29 V30)) fun Kj27 => IfB s20 (Kj27 1 u21 V22) (Kj27 x1 u21 V22)) fun Kj23 => IfB (x1 == 0) (Kj23 (decide (n < 0)) u9 V10) (Kj23 false u9 V10)) fun Kj11 => IfB s4 (Kj11 (5, 0) u5 V6) (JoinN (fun (s12 : Int) (u13 : World) (V14 : VP) => Kj11 (x1, s12) u13 V14) fun Kj15 => IfB (x1 == 0) (((0 ≤ (0 : Int) ∧ (0 : Int) < (l_1.len : Int)) ∧ NilK l_1.a fun ad16 => ∃ x17 : Int, At u5 V6 ((ad16.add ((0 : Int).toNat * 2)).add 0) [.int .i64 x17] ∧ Kj15 x17 u5 V6)) (Kj15 0 u5 V6))) fun Kj7 => IfB (x1 == 0) (Kj7 ((l_1.len : Int) == 0) u V) (Kj7 false u V)
-- pitfloor/pitsame.Error
def vc_pitsame_Error (err : Option Int) (e : Int) (u : World) (V : VP) (K : Bool → World → VP → Prop) : Prop :=
  ∃ x1 : Int, ROc PP F_plain_Told [gval1 errT (.err err)] u V (gval errT ((Enc.one eInt).enc x1)) ∧ K (x1 == e) u V
-- pitfloor/pitref1.Price
def vc_pitref1_Price (p : Int) (u : World) (V : VP) (K : Bool → World → VP → Prop) : Prop :=
  IfB (decide (p ≥ 1)) (K (decide (p ≤ 10000)) u V) (K false u V)
-- pitfloor/pitref1.Levels
def vc_pitref1_Levels (side : Int) (l_1 : Sl) (u : World) (V : VP) (K : Int → World → VP → Prop) : Prop :=
  ∃ x1 : Bool, ROc PP F_pitref1_Side [.int .i64 side] u V (gval errT ((Enc.one eBool).enc x1)) ∧ IfB (!x1) (K 1 u V) (LoopN (σ := Int) 0 u V fun s2 u3 V4 next5 => IfB (decide (s2 < (l_1.len : Int))) (((0 ≤ s2 ∧ s2 < (l_1.len : Int)) ∧ NilK l_1.a fun ad6 => ∃ x7 : Int, At u3 V4 ((ad6.add (s2.toNat * 2)).add 0) [.int .i64 x7] ∧ ∃ x8 : Bool, ROc PP F_pitref1_Price [.int .i64 x7] u3 V4 (gval errT ((Enc.one eBool).enc x8)) ∧ IfB (!x8) (K 1 u3 V4) (((0 ≤ s2 ∧ s2 < (l_1.len : Int)) ∧ NilK l_1.a fun ad9 => ∃ x10 : Sl, At u3 V4 ((ad9.add (s2.toNat * 2)).add 1) [.slice x10.a x10.len x10.cap] ∧ IfB ((x10.len : Int) == 0) (K 3 u3 V4) (((0 ≤ s2 ∧ s2 < (l_1.len : Int)) ∧ NilK l_1.a fun ad11 => ∃ x12 : Sl, At u3 V4 ((ad11.add (s2.toNat * 2)).add 1) [.slice x12.a x12.len x12.cap] ∧ ∃ x13 : Int, ROc PP F_pitref1_Queue [.slice x12.a x12.len x12.cap] u3 V4 (gval errT ((Enc.one eInt).enc x13)) ∧ IfB (x13 != 0) (K x13 u3 V4) (IfB (s2 == 0) ((Rng (s2 + 1) ∧ next5 (s2 + 1) u3 V4)) ((Rng (3 - side) ∧ (Rng (s2 - 1) ∧ ((0 ≤ (s2 - 1) ∧ (s2 - 1) < (l_1.len : Int)) ∧ NilK l_1.a fun ad14 => ∃ x15 : Int, At u3 V4 ((ad14.add ((s2 - 1).toNat * 2)).add 0) [.int .i64 x15] ∧ ((0 ≤ s2 ∧ s2 < (l_1.len : Int)) ∧ NilK l_1.a fun ad16 => ∃ x17 : Int, At u3 V4 ((ad16.add (s2.toNat * 2)).add 0) [.int .i64 x17] ∧ ∃ x18 : Bool, ROc PP F_pitref1_Ahead [.int .i64 (3 - side), .int .i64 x15, .int .i64 x17] u3 V4 (gval errT ((Enc.one eBool).enc x18)) ∧ IfB (!x18) (K 7 u3 V4) ((Rng (s2 + 1) ∧ next5 (s2 + 1) u3 V4)))))))))))))) (∃ x19 : Int, ROc PP F_pitref1_Count [.slice l_1.a l_1.len l_1.cap] u3 V4 (gval errT ((Enc.one eInt).enc x19)) ∧ IfB (decide (x19 > 60)) (K 4 u3 V4) (GC PP F_pitref1_Flat [.slice l_1.a l_1.len l_1.cap] u3 V4 (fun x => gval errT ((Enc.one eSl).enc x)) fun (x20 : Sl) u21 V22 => ∃ x23 : Bool, ROc PP F_pitref1_Twice [.slice x20.a x20.len x20.cap] u21 V22 (gval errT ((Enc.one eBool).enc x23)) ∧ IfB x23 (K 7 u21 V22) (K 0 u21 V22))))
-- pitfloor/side.Check
def vc_side_Check (side : Int) (l_1 : Sl) (u : World) (V : VP) (K : (Option Int) → World → VP → Prop) : Prop :=
  ∃ x1 : Bool, ROc PP F_tick_Side [.int .i64 side] u V (gval errT ((Enc.one eBool).enc x1)) ∧ IfB (!x1) (K (some 1) u V) (LoopN (σ := Int) 0 u V fun s2 u3 V4 next5 => IfB (decide (s2 < (l_1.len : Int))) (((0 ≤ s2 ∧ s2 < (l_1.len : Int)) ∧ NilK l_1.a fun ad6 => ∃ x7 : Level, At u3 V4 (ad6.add (s2.toNat * 2)) (Level.cells x7) ∧ ∃ x8 : Option Int, ROc PP F_tick_Price [.int .i64 x7.Price] u3 V4 (gval errT ((Enc.one Enc1.err).enc x8)) ∧ IfB x8.isSome (K x8 u3 V4) (IfB ((x7.Rests.len : Int) == 0) (K (some 3) u3 V4) (∃ x9 : Option Int, ROc PP F_queue_Check [.slice x7.Rests.a x7.Rests.len x7.Rests.cap] u3 V4 (gval errT ((Enc.one Enc1.err).enc x9)) ∧ IfB x9.isSome (K x9 u3 V4) (IfB (decide (s2 > 0)) ((Rng (s2 - 1) ∧ ((0 ≤ (s2 - 1) ∧ (s2 - 1) < (l_1.len : Int)) ∧ NilK l_1.a fun ad10 => ∃ x11 : Int, At u3 V4 ((ad10.add ((s2 - 1).toNat * 2)).add 0) [.int .i64 x11] ∧ ∃ x12 : Bool, ROc PP F_side_ahead [.int .i64 side, .int .i64 x11, .int .i64 x7.Price] u3 V4 (gval errT ((Enc.one eBool).enc x12)) ∧ IfB (!x12) (K (some 7) u3 V4) ((Rng (s2 + 1) ∧ next5 (s2 + 1) u3 V4))))) ((Rng (s2 + 1) ∧ next5 (s2 + 1) u3 V4))))))) (∃ x13 : Int, ROc PP F_side_Count [.slice l_1.a l_1.len l_1.cap] u3 V4 (gval errT ((Enc.one eInt).enc x13)) ∧ IfB (decide (x13 > 60)) (K (some 4) u3 V4) (∃ x14 : Bool, ROc PP F_side_Twice [.slice l_1.a l_1.len l_1.cap] u3 V4 (gval errT ((Enc.one eBool).enc x14)) ∧ IfB x14 (K (some 7) u3 V4) (K none u3 V4))))
-- pitfloor/side.Best
def vc_side_Best (side : Int) (l_1 : Sl) (u : World) (V : VP) (K : (Int × (Option Int)) → World → VP → Prop) : Prop :=
  ∃ x1 : Option Int, ROc PP F_side_Check [.int .i64 side, .slice l_1.a l_1.len l_1.cap] u V (gval errT ((Enc.one Enc1.err).enc x1)) ∧ IfB x1.isSome (K (0, x1) u V) (IfB ((l_1.len : Int) == 0) (K (0, (some 5)) u V) (((0 ≤ (0 : Int) ∧ (0 : Int) < (l_1.len : Int)) ∧ NilK l_1.a fun ad2 => ∃ x3 : Int, At u V ((ad2.add ((0 : Int).toNat * 2)).add 0) [.int .i64 x3] ∧ K (x3, none) u V)))
-- pitfloor/side.Depth
def vc_side_Depth (side : Int) (l_1 : Sl) (n : Int) (u : World) (V : VP) (K : (Sl × (Option Int)) → World → VP → Prop) : Prop :=
  ∃ x1 : Option Int, ROc PP F_side_Check [.int .i64 side, .slice l_1.a l_1.len l_1.cap] u V (gval errT ((Enc.one Enc1.err).enc x1)) ∧ IfB x1.isSome (K ((⟨none, 0, 0⟩ : Sl), x1) u V) (IfB (decide (n < 0)) (K ((⟨none, 0, 0⟩ : Sl), (some 1)) u V) (((0 ≤ (if (l_1.len : Int) < n then (l_1.len : Int) else n) ∧ (if (l_1.len : Int) < n then (l_1.len : Int) else n) ≤ (l_1.cap : Int)) ∧ LoopN (σ := Sl × Int) ((⟨none, 0, 0⟩ : Sl), 0) u V fun s2 u3 V4 next5 => IfB (decide (s2.2 < ((if (l_1.len : Int) < n then (l_1.len : Int) else n).toNat : Int))) (((0 ≤ s2.2 ∧ s2.2 < ((if (l_1.len : Int) < n then (l_1.len : Int) else n).toNat : Int)) ∧ NilK l_1.a fun ad6 => ∃ x7 : Level, At u3 V4 (ad6.add (s2.2.toNat * 2)) (Level.cells x7) ∧ LoopN (σ := Int × Int) (0, 0) u3 V4 fun s8 u9 V10 next11 => IfB (decide (s8.2 < (x7.Rests.len : Int))) (((0 ≤ s8.2 ∧ s8.2 < (x7.Rests.len : Int)) ∧ NilK x7.Rests.a fun ad12 => ∃ x13 : Rest, At u9 V10 (ad12.add (s8.2.toNat * 5)) (Rest.cells x13) ∧ (Rng (s8.1 + x13.Qty) ∧ (Rng (s8.2 + 1) ∧ next11 ((s8.1 + x13.Qty), (s8.2 + 1)) u9 V10)))) (NewC u9 V10 T_A2_i64 ((Arr2_Int.cells (⟨x7.Price, s8.1⟩ : Arr2_Int))) fun b14 u15 V16 => OpV PP errT (Builtin.append_ #[T_Sl_A2_i64, T_Sl_A2_i64] T_Sl_A2_i64 #[.slice s2.1.a s2.1.len s2.1.cap, .slice (some (⟨b14, 0, none⟩ : Addr)) 1 1]) (Enc.one eSl) u15 V16 fun (x17 : Sl) u18 V19 => (Rng (s2.2 + 1) ∧ next5 (x17, (s2.2 + 1)) u18 V19)))) (K (s2.1, none) u3 V4))))
-- pitfloor/pitref1.Add
def vc_pitref1_Add (side : Int) (l_1 : Sl) (price : Int) (r_3 : Rest) (u : World) (V : VP) (K : (Sl × Int) → World → VP → Prop) : Prop :=
  ∃ x1 : Bool, ROc PP F_pitref1_Price [.int .i64 price] u V (gval errT ((Enc.one eBool).enc x1)) ∧ IfB (!x1) (K ((⟨none, 0, 0⟩ : Sl), 1) u V) (∃ x2 : Int, ROc PP F_pitref1_Rest [.agg (Rest.cells r_3).toArray] u V (gval errT ((Enc.one eInt).enc x2)) ∧ IfB (x2 != 0) (K ((⟨none, 0, 0⟩ : Sl), x2) u V) (∃ x3 : Int × Int, ROc PP F_pitref1_At [.slice l_1.a l_1.len l_1.cap, .int .i64 r_3.Id] u V (gval errT ((Enc.t2 eInt eInt).enc x3)) ∧ IfB (decide (x3.1 ≥ 0)) (K ((⟨none, 0, 0⟩ : Sl), 7) u V) (∃ x4 : Int, ROc PP F_pitref1_Count [.slice l_1.a l_1.len l_1.cap] u V (gval errT ((Enc.one eInt).enc x4)) ∧ IfB (decide (x4 ≥ 60)) (K ((⟨none, 0, 0⟩ : Sl), 4) u V) (GC PP F_pitref1_Put [.int .i64 side, .slice l_1.a l_1.len l_1.cap, .int .i64 price, .agg (Rest.cells r_3).toArray] u V (fun x => gval errT ((Enc.one eSl).enc x)) fun (x5 : Sl) u6 V7 => K (x5, 0) u6 V7))))
-- pitfloor/side.Add
def vc_side_Add (side : Int) (l_1 : Sl) (price : Int) (r_3 : Rest) (u : World) (V : VP) (K : (Sl × (Option Int)) → World → VP → Prop) : Prop :=
  ∃ x1 : Option Int, ROc PP F_side_Check [.int .i64 side, .slice l_1.a l_1.len l_1.cap] u V (gval errT ((Enc.one Enc1.err).enc x1)) ∧ IfB x1.isSome (K ((⟨none, 0, 0⟩ : Sl), x1) u V) (∃ x2 : Option Int, ROc PP F_tick_Price [.int .i64 price] u V (gval errT ((Enc.one Enc1.err).enc x2)) ∧ IfB x2.isSome (K ((⟨none, 0, 0⟩ : Sl), x2) u V) (∃ x3 : Option Int, ROc PP F_queue_One [.agg (Rest.cells r_3).toArray] u V (gval errT ((Enc.one Enc1.err).enc x3)) ∧ IfB x3.isSome (K ((⟨none, 0, 0⟩ : Sl), x3) u V) (∃ x4 : Int × Int, ROc PP F_side_Where [.slice l_1.a l_1.len l_1.cap, .int .i64 r_3.Id] u V (gval errT ((Enc.t2 eInt eInt).enc x4)) ∧ IfB (decide (x4.1 ≥ 0)) (K ((⟨none, 0, 0⟩ : Sl), (some 7)) u V) (∃ x5 : Int, ROc PP F_side_Count [.slice l_1.a l_1.len l_1.cap] u V (gval errT ((Enc.one eInt).enc x5)) ∧ IfB (decide (x5 ≥ 60)) (K ((⟨none, 0, 0⟩ : Sl), (some 4)) u V) (GC PP F_side_Own [.slice l_1.a l_1.len l_1.cap] u V (fun x => gval errT ((Enc.one eSl).enc x)) fun (x6 : Sl) u7 V8 => GC PP F_side_Put [.int .i64 side, .slice x6.a x6.len x6.cap, .int .i64 price, .agg (Rest.cells r_3).toArray] u7 V8 (fun x => gval errT ((Enc.one eSl).enc x)) fun (x9 : Sl) u10 V11 => K (x9, none) u10 V11)))))
-- pitfloor/pitsame.Levels
def vc_pitsame_Levels (a : Sl) (b : Sl) (u : World) (V : VP) (K : Bool → World → VP → Prop) : Prop :=
  IfB ((a.len : Int) != (b.len : Int)) (K false u V) (LoopN (σ := Int) 0 u V fun s1 u2 V3 next4 => IfB (decide (s1 < (a.len : Int))) (((0 ≤ s1 ∧ s1 < (a.len : Int)) ∧ NilK a.a fun ad5 => ∃ x6 : Sl, At u2 V3 ((ad5.add (s1.toNat * 2)).add 1) [.slice x6.a x6.len x6.cap] ∧ ((0 ≤ s1 ∧ s1 < (b.len : Int)) ∧ NilK b.a fun ad7 => ∃ x8 : Sl, At u2 V3 ((ad7.add (s1.toNat * 2)).add 1) [.slice x8.a x8.len x8.cap] ∧ ∃ x9 : Bool, ROc PP F_pitsame_Rests [.slice x6.a x6.len x6.cap, .slice x8.a x8.len x8.cap] u2 V3 (gval errT ((Enc.one eBool).enc x9)) ∧ IfB (!x9) (K false u2 V3) (((0 ≤ s1 ∧ s1 < (a.len : Int)) ∧ NilK a.a fun ad10 => ∃ x11 : Int, At u2 V3 ((ad10.add (s1.toNat * 2)).add 0) [.int .i64 x11] ∧ ((0 ≤ s1 ∧ s1 < (b.len : Int)) ∧ NilK b.a fun ad12 => ∃ x13 : Int, At u2 V3 ((ad12.add (s1.toNat * 2)).add 0) [.int .i64 x13] ∧ IfB (x11 != x13) (K false u2 V3) ((Rng (s1 + 1) ∧ next4 (s1 + 1) u2 V3)))))))) (K true u2 V3))
-- pitfloor/pitref1.At
def vc_pitref1_At (l_0 : Sl) (id : Int) (u : World) (V : VP) (K : (Int × Int) → World → VP → Prop) : Prop :=
  LoopN (σ := Int) 0 u V fun s1 u2 V3 next4 => IfB (decide (s1 < (l_0.len : Int))) (((0 ≤ s1 ∧ s1 < (l_0.len : Int)) ∧ NilK l_0.a fun ad5 => ∃ x6 : Sl, At u2 V3 ((ad5.add (s1.toNat * 2)).add 1) [.slice x6.a x6.len x6.cap] ∧ ∃ x7 : Int, ROc PP F_pitref1_In [.slice x6.a x6.len x6.cap, .int .i64 id] u2 V3 (gval errT ((Enc.one eInt).enc x7)) ∧ IfB (decide (x7 ≥ 0)) (K (s1, x7) u2 V3) ((Rng (s1 + 1) ∧ next4 (s1 + 1) u2 V3)))) (K ((-1), (-1)) u2 V3)
-- pitfloor/pitref1.Out
def vc_pitref1_Out (l_0 : Sl) (i : Int) (k : Int) (u : World) (V : VP) (K : Sl → World → VP → Prop) : Prop :=
  ((0 ≤ i ∧ i ≤ (l_0.cap : Int)) ∧ OpV PP errT (Builtin.append_ #[T_Sl_Level, T_Sl_Level] T_Sl_Level #[.slice none 0 0, .slice l_0.a i.toNat l_0.cap]) (Enc.one eSl) u V fun (x1 : Sl) u2 V3 => ((0 ≤ i ∧ i < (l_0.len : Int)) ∧ NilK l_0.a fun ad4 => ∃ x5 : Sl, At u2 V3 ((ad4.add (i.toNat * 2)).add 1) [.slice x5.a x5.len x5.cap] ∧ GC PP F_pitref1_Without [.slice x5.a x5.len x5.cap, .int .i64 k] u2 V3 (fun x => gval errT ((Enc.one eSl).enc x)) fun (x6 : Sl) u7 V8 => IfB (decide ((x6.len : Int) > 0)) (((0 ≤ i ∧ i < (l_0.len : Int)) ∧ NilK l_0.a fun ad9 => ∃ x10 : Int, At u7 V8 ((ad9.add (i.toNat * 2)).add 0) [.int .i64 x10] ∧ NewC u7 V8 T_Level ((Level.cells (⟨x10, x6⟩ : Level))) fun b11 u12 V13 => OpV PP errT (Builtin.append_ #[T_Sl_Level, T_Sl_Level] T_Sl_Level #[.slice x1.a x1.len x1.cap, .slice (some (⟨b11, 0, none⟩ : Addr)) 1 1]) (Enc.one eSl) u12 V13 fun (x14 : Sl) u15 V16 => (Rng (i + 1) ∧ ((0 ≤ (i + 1) ∧ (i + 1) ≤ (l_0.len : Int)) ∧ OpV PP errT (Builtin.append_ #[T_Sl_Level, T_Sl_Level] T_Sl_Level #[.slice x14.a x14.len x14.cap, .slice (cutA l_0.a l_0.cap (i + 1).toNat 2) (l_0.len - (i + 1).toNat) (l_0.cap - (i + 1).toNat)]) (Enc.one eSl) u15 V16 fun (x17 : Sl) u18 V19 => K x17 u18 V19)))) ((Rng (i + 1) ∧ ((0 ≤ (i + 1) ∧ (i + 1) ≤ (l_0.len : Int)) ∧ OpV PP errT (Builtin.append_ #[T_Sl_Level, T_Sl_Level] T_Sl_Level #[.slice x1.a x1.len x1.cap, .slice (cutA l_0.a l_0.cap (i + 1).toNat 2) (l_0.len - (i + 1).toNat) (l_0.cap - (i + 1).toNat)]) (Enc.one eSl) u7 V8 fun (x20 : Sl) u21 V22 => K x20 u21 V22)))))
-- pitfloor/side.Drop
def vc_side_Drop (side : Int) (l_1 : Sl) (id : Int) (u : World) (V : VP) (K : (Sl × Rest × Int × (Option Int)) → World → VP → Prop) : Prop :=
  ∃ x1 : Option Int, ROc PP F_side_Check [.int .i64 side, .slice l_1.a l_1.len l_1.cap] u V (gval errT ((Enc.one Enc1.err).enc x1)) ∧ IfB x1.isSome (K ((⟨none, 0, 0⟩ : Sl), (⟨0, 0, 0, 0, 0⟩ : Rest), 0, x1) u V) (∃ x2 : Int × Int, ROc PP F_side_Where [.slice l_1.a l_1.len l_1.cap, .int .i64 id] u V (gval errT ((Enc.t2 eInt eInt).enc x2)) ∧ IfB (decide (x2.1 < 0)) (K ((⟨none, 0, 0⟩ : Sl), (⟨0, 0, 0, 0, 0⟩ : Rest), 0, (some 5)) u V) (((0 ≤ x2.1 ∧ x2.1 < (l_1.len : Int)) ∧ NilK l_1.a fun ad3 => ∃ x4 : Sl, At u V ((ad3.add (x2.1.toNat * 2)).add 1) [.slice x4.a x4.len x4.cap] ∧ ((0 ≤ x2.2 ∧ x2.2 < (x4.len : Int)) ∧ NilK x4.a fun ad5 => ∃ x6 : Rest, At u V (ad5.add (x2.2.toNat * 5)) (Rest.cells x6) ∧ ((0 ≤ x2.1 ∧ x2.1 < (l_1.len : Int)) ∧ NilK l_1.a fun ad7 => ∃ x8 : Int, At u V ((ad7.add (x2.1.toNat * 2)).add 0) [.int .i64 x8] ∧ (At u V ((ad7.add (x2.1.toNat * 2)).add 0) [.int .i64 x8] ∧ GC PP F_side_Own [.slice l_1.a l_1.len l_1.cap] u V (fun x => gval errT ((Enc.one eSl).enc x)) fun (x9 : Sl) u10 V11 => GC PP F_side_Cut [.slice x9.a x9.len x9.cap, .int .i64 x2.1, .int .i64 x2.2] u10 V11 (fun x => gval errT ((Enc.one eSl).enc x)) fun (x12 : Sl) u13 V14 => K (x12, x6, x8, none) u13 V14))))))
-- pitfloor/side.Find
def vc_side_Find (side : Int) (l_1 : Sl) (id : Int) (u : World) (V : VP) (K : (Int × Int × (Option Int)) → World → VP → Prop) : Prop :=
  ∃ x1 : Option Int, ROc PP F_side_Check [.int .i64 side, .slice l_1.a l_1.len l_1.cap] u V (gval errT ((Enc.one Enc1.err).enc x1)) ∧ IfB x1.isSome (K (0, 0, x1) u V) (∃ x2 : Int × Int, ROc PP F_side_Where [.slice l_1.a l_1.len l_1.cap, .int .i64 id] u V (gval errT ((Enc.t2 eInt eInt).enc x2)) ∧ IfB (decide (x2.1 < 0)) (K (0, 0, (some 5)) u V) (K (x2.1, x2.2, none) u V))
-- pitfloor/plain.Told
def vc_plain_Told (err : Option Int) (u : World) (V : VP) (K : Int → World → VP → Prop) : Prop :=
  IfB err.isNone (K 0 u V) (NewC u V T_Errno [.int .i64 0] fun b1 u2 V3 => False)
-- pitfloor/pitref1.Ahead
def vc_pitref1_Ahead (side : Int) (a : Int) (b : Int) (u : World) (V : VP) (K : Bool → World → VP → Prop) : Prop :=
  IfB (side == 1) (IfB (decide (a < b)) (K true u V) (IfB (side == 2) (K (decide (a > b)) u V) (K false u V))) (IfB (side == 2) (K (decide (a > b)) u V) (K false u V))
-- pitfloor/tick.Price
def vc_tick_Price (p : Int) (u : World) (V : VP) (K : (Option Int) → World → VP → Prop) : Prop :=
  ∃ x1 : Bool, ROc PP F_tick_Valid [.int .i64 p] u V (gval errT ((Enc.one eBool).enc x1)) ∧ IfB (!x1) (K (some 1) u V) (K none u V)
-- pitfloor/pitref1.Side
def vc_pitref1_Side (s : Int) (u : World) (V : VP) (K : Bool → World → VP → Prop) : Prop :=
  IfB (s == 1) (K true u V) (K (s == 2) u V)
-- pitfloor/pitref1.Queue
def vc_pitref1_Queue (l_0 : Sl) (u : World) (V : VP) (K : Int → World → VP → Prop) : Prop :=
  IfB (decide ((l_0.len : Int) > 60)) (K 4 u V) (LoopN (σ := Int) 0 u V fun s1 u2 V3 next4 => IfB (decide (s1 < (l_0.len : Int))) (((0 ≤ s1 ∧ s1 < (l_0.len : Int)) ∧ NilK l_0.a fun ad5 => ∃ x6 : Rest, At u2 V3 (ad5.add (s1.toNat * 5)) (Rest.cells x6) ∧ ∃ x7 : Int, ROc PP F_pitref1_Rest [.agg (Rest.cells x6).toArray] u2 V3 (gval errT ((Enc.one eInt).enc x7)) ∧ IfB (x7 != 0) (K x7 u2 V3) (((0 ≤ s1 ∧ s1 ≤ (l_0.cap : Int)) ∧ ((0 ≤ s1 ∧ s1 < (l_0.len : Int)) ∧ NilK l_0.a fun ad8 => ∃ x9 : Int, At u2 V3 ((ad8.add (s1.toNat * 5)).add 0) [.int .i64 x9] ∧ ∃ x10 : Int, ROc PP F_pitref1_In [.slice l_0.a s1.toNat l_0.cap, .int .i64 x9] u2 V3 (gval errT ((Enc.one eInt).enc x10)) ∧ IfB (decide (x10 ≥ 0)) (K 7 u2 V3) ((Rng (s1 + 1) ∧ next4 (s1 + 1) u2 V3))))))) (K 0 u2 V3))
-- pitfloor/pitref1.Count
def vc_pitref1_Count (l_0 : Sl) (u : World) (V : VP) (K : Int → World → VP → Prop) : Prop :=
  LoopN (σ := Int × Int) (0, 0) u V fun s1 u2 V3 next4 => IfB (decide (s1.2 < (l_0.len : Int))) (((0 ≤ s1.2 ∧ s1.2 < (l_0.len : Int)) ∧ NilK l_0.a fun ad5 => ∃ x6 : Sl, At u2 V3 ((ad5.add (s1.2.toNat * 2)).add 1) [.slice x6.a x6.len x6.cap] ∧ (Rng (s1.1 + (x6.len : Int)) ∧ (Rng (s1.2 + 1) ∧ next4 ((s1.1 + (x6.len : Int)), (s1.2 + 1)) u2 V3)))) (K s1.1 u2 V3)
-- pitfloor/pitref1.Twice
def vc_pitref1_Twice (l_0 : Sl) (u : World) (V : VP) (K : Bool → World → VP → Prop) : Prop :=
  LoopN (σ := Int) 0 u V fun s1 u2 V3 next4 => IfB (decide (s1 < (l_0.len : Int))) (((0 ≤ s1 ∧ s1 ≤ (l_0.cap : Int)) ∧ ((0 ≤ s1 ∧ s1 < (l_0.len : Int)) ∧ NilK l_0.a fun ad5 => ∃ x6 : Int, At u2 V3 ((ad5.add (s1.toNat * 5)).add 0) [.int .i64 x6] ∧ ∃ x7 : Int, ROc PP F_pitref1_In [.slice l_0.a s1.toNat l_0.cap, .int .i64 x6] u2 V3 (gval errT ((Enc.one eInt).enc x7)) ∧ IfB (decide (x7 ≥ 0)) (K true u2 V3) ((Rng (s1 + 1) ∧ next4 (s1 + 1) u2 V3))))) (K false u2 V3)
-- pitfloor/pitref1.Flat
def vc_pitref1_Flat (l_0 : Sl) (u : World) (V : VP) (K : Sl → World → VP → Prop) : Prop :=
  LoopN (σ := Sl × Int) ((⟨none, 0, 0⟩ : Sl), 0) u V fun s1 u2 V3 next4 => IfB (decide (s1.2 < (l_0.len : Int))) (((0 ≤ s1.2 ∧ s1.2 < (l_0.len : Int)) ∧ NilK l_0.a fun ad5 => ∃ x6 : Sl, At u2 V3 ((ad5.add (s1.2.toNat * 2)).add 1) [.slice x6.a x6.len x6.cap] ∧ OpV PP errT (Builtin.append_ #[T_Sl_Rest, T_Sl_Rest] T_Sl_Rest #[.slice s1.1.a s1.1.len s1.1.cap, .slice x6.a x6.len x6.cap]) (Enc.one eSl) u2 V3 fun (x7 : Sl) u8 V9 => (Rng (s1.2 + 1) ∧ next4 (x7, (s1.2 + 1)) u8 V9))) (K s1.1 u2 V3)
-- pitfloor/tick.Side
def vc_tick_Side (s : Int) (u : World) (V : VP) (K : Bool → World → VP → Prop) : Prop :=
  IfB (s == 1) (K true u V) (K (s == 2) u V)
-- pitfloor/queue.Check
def vc_queue_Check (l_0 : Sl) (u : World) (V : VP) (K : (Option Int) → World → VP → Prop) : Prop :=
  IfB (decide ((l_0.len : Int) > 60)) (K (some 4) u V) (LoopN (σ := Int) 0 u V fun s1 u2 V3 next4 => IfB (decide (s1 < (l_0.len : Int))) (((0 ≤ s1 ∧ s1 < (l_0.len : Int)) ∧ NilK l_0.a fun ad5 => ∃ x6 : Rest, At u2 V3 (ad5.add (s1.toNat * 5)) (Rest.cells x6) ∧ ∃ x7 : Option Int, ROc PP F_queue_One [.agg (Rest.cells x6).toArray] u2 V3 (gval errT ((Enc.one Enc1.err).enc x7)) ∧ IfB x7.isSome (K x7 u2 V3) (((0 ≤ s1 ∧ s1 ≤ (l_0.cap : Int)) ∧ ∃ x8 : Int, ROc PP F_queue_Find [.slice l_0.a s1.toNat l_0.cap, .int .i64 x6.Id] u2 V3 (gval errT ((Enc.one eInt).enc x8)) ∧ IfB (decide (x8 ≥ 0)) (K (some 7) u2 V3) ((Rng (s1 + 1) ∧ next4 (s1 + 1) u2 V3)))))) (K none u2 V3))
-- pitfloor/side.ahead
def vc_side_ahead (side : Int) (a : Int) (b : Int) (u : World) (V : VP) (K : Bool → World → VP → Prop) : Prop :=
  ∃ x1 : Int, ROc PP F_tick_Other [.int .i64 side] u V (gval errT ((Enc.one eInt).enc x1)) ∧ ∃ x2 : Bool, ROc PP F_tick_Ahead [.int .i64 x1, .int .i64 a, .int .i64 b] u V (gval errT ((Enc.one eBool).enc x2)) ∧ K x2 u V
-- pitfloor/side.Count
def vc_side_Count (l_0 : Sl) (u : World) (V : VP) (K : Int → World → VP → Prop) : Prop :=
  LoopN (σ := Int × Int) (0, 0) u V fun s1 u2 V3 next4 => IfB (decide (s1.2 < (l_0.len : Int))) (((0 ≤ s1.2 ∧ s1.2 < (l_0.len : Int)) ∧ NilK l_0.a fun ad5 => ∃ x6 : Level, At u2 V3 (ad5.add (s1.2.toNat * 2)) (Level.cells x6) ∧ (Rng (s1.1 + (x6.Rests.len : Int)) ∧ (Rng (s1.2 + 1) ∧ next4 ((s1.1 + (x6.Rests.len : Int)), (s1.2 + 1)) u2 V3)))) (K s1.1 u2 V3)
-- pitfloor/side.Twice
def vc_side_Twice (l_0 : Sl) (u : World) (V : VP) (K : Bool → World → VP → Prop) : Prop :=
  OpV PP errT (Instr.makeMap T_M_i64_bool none) (Enc.one eMap) u V fun (x1 : Option Nat) u2 V3 => LoopN (σ := Int) 0 u2 V3 fun s4 u5 V6 next7 => IfB (decide (s4 < (l_0.len : Int))) (((0 ≤ s4 ∧ s4 < (l_0.len : Int)) ∧ NilK l_0.a fun ad8 => ∃ x9 : Level, At u5 V6 (ad8.add (s4.toNat * 2)) (Level.cells x9) ∧ LoopN (σ := Int) 0 u5 V6 fun s10 u11 V12 next13 => IfB (decide (s10 < (x9.Rests.len : Int))) (((0 ≤ s10 ∧ s10 < (x9.Rests.len : Int)) ∧ NilK x9.Rests.a fun ad14 => ∃ x15 : Rest, At u11 V12 (ad14.add (s10.toNat * 5)) (Rest.cells x15) ∧ OpV PP errT (Instr.lookup T_M_i64_bool (.map x1) (.int .i64 x15.Id) false) (Enc.one eBool) u11 V12 fun (x16 : Bool) u17 V18 => IfB x16 (K true u17 V18) (OpU PP (Instr.mapUpdate T_M_i64_bool (.map x1) (.int .i64 x15.Id) (.bool true)) u17 V18 fun u19 V20 => (Rng (s10 + 1) ∧ next13 (s10 + 1) u19 V20)))) ((Rng (s4 + 1) ∧ next7 (s4 + 1) u11 V12)))) (K false u5 V6)
-- pitfloor/pitref1.Rest
def vc_pitref1_Rest (r_0 : Rest) (u : World) (V : VP) (K : Int → World → VP → Prop) : Prop :=
  JoinN (fun (s1 : Bool) (u2 : World) (V3 : VP) => IfB s1 (K 1 u2 V3) (JoinN (fun (s5 : Bool) (u6 : World) (V7 : VP) => IfB s5 (K 1 u6 V7) (IfB (r_0.Show == 0) (IfB (r_0.Hidden != 0) (K 3 u6 V7) (IfB (r_0.Show != 0) (IfB (decide (r_0.Qty > r_0.Show)) (K 3 u6 V7) (K 0 u6 V7)) (K 0 u6 V7))) (IfB (r_0.Show != 0) (IfB (decide (r_0.Qty > r_0.Show)) (K 3 u6 V7) (K 0 u6 V7)) (K 0 u6 V7)))) fun Kj8 => IfB (decide (r_0.Hidden < 0)) (Kj8 true u2 V3) (IfB (decide (r_0.Hidden > 10000)) (Kj8 true u2 V3) (IfB (decide (r_0.Show < 0)) (Kj8 true u2 V3) (Kj8 (decide (r_0.Show > 10000)) u2 V3))))) fun Kj4 => IfB (decide (r_0.Id < 1)) (Kj4 true u V) (IfB (decide (r_0.Id > 9999)) (Kj4 true u V) (IfB (decide (r_0.Who < 1)) (Kj4 true u V) (IfB (decide (r_0.Who > 9)) (Kj4 true u V) (IfB (decide (r_0.Qty < 1)) (Kj4 true u V) (Kj4 (decide (r_0.Qty > 10000)) u V)))))
-- pitfloor/pitref1.Put
def vc_pitref1_Put (side : Int) (l_1 : Sl) (price : Int) (r_3 : Rest) (u : World) (V : VP) (K : Sl → World → VP → Prop) : Prop :=
  JoinN (fun (s1 : Int) (u2 : World) (V3 : VP) => ((0 ≤ s1 ∧ s1 ≤ (l_1.cap : Int)) ∧ OpV PP errT (Builtin.append_ #[T_Sl_Level, T_Sl_Level] T_Sl_Level #[.slice none 0 0, .slice l_1.a s1.toNat l_1.cap]) (Enc.one eSl) u2 V3 fun (x12 : Sl) u13 V14 => JoinN (fun (s15 : Bool) (u16 : World) (V17 : VP) => JoinN (fun (s21 : Int × Sl) (u22 : World) (V23 : VP) => NewC u22 V23 T_Rest ((Rest.cells r_3)) fun b30 u31 V32 => OpV PP errT (Builtin.append_ #[T_Sl_Rest, T_Sl_Rest] T_Sl_Rest #[.slice s21.2.a s21.2.len s21.2.cap, .slice (some (⟨b30, 0, none⟩ : Addr)) 1 1]) (Enc.one eSl) u31 V32 fun (x33 : Sl) u34 V35 => NewC u34 V35 T_Level ((Level.cells (⟨price, x33⟩ : Level))) fun b36 u37 V38 => OpV PP errT (Builtin.append_ #[T_Sl_Level, T_Sl_Level] T_Sl_Level #[.slice x12.a x12.len x12.cap, .slice (some (⟨b36, 0, none⟩ : Addr)) 1 1]) (Enc.one eSl) u37 V38 fun (x39 : Sl) u40 V41 => ((0 ≤ s21.1 ∧ s21.1 ≤ (l_1.len : Int)) ∧ OpV PP errT (Builtin.append_ #[T_Sl_Level, T_Sl_Level] T_Sl_Level #[.slice x39.a x39.len x39.cap, .slice (cutA l_1.a l_1.cap s21.1.toNat 2) (l_1.len - s21.1.toNat) (l_1.cap - s21.1.toNat)]) (Enc.one eSl) u40 V41 fun (x42 : Sl) u43 V44 => K x42 u43 V44)) fun Kj24 => IfB s15 (((0 ≤ s1 ∧ s1 < (l_1.len : Int)) ∧ NilK l_1.a fun ad25 => ∃ x26 : Sl, At u16 V17 ((ad25.add (s1.toNat * 2)).add 1) [.slice x26.a x26.len x26.cap] ∧ OpV PP errT (Builtin.append_ #[T_Sl_Rest, T_Sl_Rest] T_Sl_Rest #[.slice none 0 0, .slice x26.a x26.len x26.cap]) (Enc.one eSl) u16 V17 fun (x27 : Sl) u28 V29 => (Rng (s1 + 1) ∧ Kj24 ((s1 + 1), x27) u28 V29))) (Kj24 (s1, (⟨none, 0, 0⟩ : Sl)) u16 V17)) fun Kj18 => IfB (decide (s1 < (l_1.len : Int))) (((0 ≤ s1 ∧ s1 < (l_1.len : Int)) ∧ NilK l_1.a fun ad19 => ∃ x20 : Int, At u13 V14 ((ad19.add (s1.toNat * 2)).add 0) [.int .i64 x20] ∧ Kj18 (x20 == price) u13 V14)) (Kj18 false u13 V14))) fun Kj4 => LoopN (σ := Int) 0 u V fun s5 u6 V7 next8 => IfB (decide (s5 < (l_1.len : Int))) ((Rng (3 - side) ∧ ((0 ≤ s5 ∧ s5 < (l_1.len : Int)) ∧ NilK l_1.a fun ad9 => ∃ x10 : Int, At u6 V7 ((ad9.add (s5.toNat * 2)).add 0) [.int .i64 x10] ∧ ∃ x11 : Bool, ROc PP F_pitref1_Ahead [.int .i64 (3 - side), .int .i64 x10, .int .i64 price] u6 V7 (gval errT ((Enc.one eBool).enc x11)) ∧ IfB x11 ((Rng (s5 + 1) ∧ next8 (s5 + 1) u6 V7)) (Kj4 s5 u6 V7)))) (Kj4 s5 u6 V7)
-- pitfloor/queue.One
def vc_queue_One (r_0 : Rest) (u : World) (V : VP) (K : (Option Int) → World → VP → Prop) : Prop :=
  JoinN (fun (s1 : Bool) (u2 : World) (V3 : VP) => IfB s1 (K (some 1) u2 V3) (JoinN (fun (s8 : Bool) (u9 : World) (V10 : VP) => IfB s8 (K (some 1) u9 V10) (IfB (r_0.Show == 0) (IfB (r_0.Hidden != 0) (K (some 3) u9 V10) (IfB (r_0.Show != 0) (IfB (decide (r_0.Show < r_0.Qty)) (K (some 3) u9 V10) (K none u9 V10)) (K none u9 V10))) (IfB (r_0.Show != 0) (IfB (decide (r_0.Show < r_0.Qty)) (K (some 3) u9 V10) (K none u9 V10)) (K none u9 V10)))) fun Kj11 => IfB (decide (r_0.Hidden < 0)) (Kj11 true u2 V3) (IfB (decide (r_0.Hidden > 10000)) (Kj11 true u2 V3) (IfB (decide (r_0.Show < 0)) (Kj11 true u2 V3) (Kj11 (decide (r_0.Show > 10000)) u2 V3))))) fun Kj4 => ∃ x5 : Bool, ROc PP F_order_Id [.int .i64 r_0.Id] u V (gval errT ((Enc.one eBool).enc x5)) ∧ IfB (!x5) (Kj4 true u V) (∃ x6 : Bool, ROc PP F_order_Who [.int .i64 r_0.Who] u V (gval errT ((Enc.one eBool).enc x6)) ∧ IfB (!x6) (Kj4 true u V) (∃ x7 : Bool, ROc PP F_order_Qty [.int .i64 r_0.Qty] u V (gval errT ((Enc.one eBool).enc x7)) ∧ Kj4 (!x7) u V))
-- pitfloor/side.Where
def vc_side_Where (l_0 : Sl) (id : Int) (u : World) (V : VP) (K : (Int × Int) → World → VP → Prop) : Prop :=
  LoopN (σ := Int) 0 u V fun s1 u2 V3 next4 => IfB (decide (s1 < (l_0.len : Int))) (((0 ≤ s1 ∧ s1 < (l_0.len : Int)) ∧ NilK l_0.a fun ad5 => ∃ x6 : Level, At u2 V3 (ad5.add (s1.toNat * 2)) (Level.cells x6) ∧ ∃ x7 : Int, ROc PP F_queue_Find [.slice x6.Rests.a x6.Rests.len x6.Rests.cap, .int .i64 id] u2 V3 (gval errT ((Enc.one eInt).enc x7)) ∧ IfB (decide (x7 ≥ 0)) (K (s1, x7) u2 V3) ((Rng (s1 + 1) ∧ next4 (s1 + 1) u2 V3)))) (K ((-1), (-1)) u2 V3)
-- pitfloor/side.Put
def vc_side_Put (side : Int) (l_1 : Sl) (price : Int) (r_3 : Rest) (u : World) (V : VP) (K : Sl → World → VP → Prop) : Prop :=
  JoinN (fun (s1 : Int) (u2 : World) (V3 : VP) => JoinN (fun (s12 : Bool) (u13 : World) (V14 : VP) => JoinN (fun (s18 : Sl) (u19 : World) (V20 : VP) => ((0 ≤ s1 ∧ s1 < (s18.len : Int)) ∧ NilK s18.a fun ad28 => ∃ x29 : Sl, At u19 V20 ((ad28.add (s1.toNat * 2)).add 1) [.slice x29.a x29.len x29.cap] ∧ NewC u19 V20 T_Rest ((Rest.cells r_3)) fun b30 u31 V32 => OpV PP errT (Builtin.append_ #[T_Sl_Rest, T_Sl_Rest] T_Sl_Rest #[.slice x29.a x29.len x29.cap, .slice (some (⟨b30, 0, none⟩ : Addr)) 1 1]) (Enc.one eSl) u31 V32 fun (x33 : Sl) u34 V35 => ((0 ≤ s1 ∧ s1 < (s18.len : Int)) ∧ NilK s18.a fun ad36 => ∀ w37, Rel V35 u34 w37 → StOk w37 V35 ((ad36.add (s1.toNat * 2)).add 1) 1 ∧ K s18 (stW w37 ((ad36.add (s1.toNat * 2)).add 1) [.slice x33.a x33.len x33.cap] 0) V35))) fun Kj21 => IfB s12 (NewC u13 V14 T_Level ((Level.cells (⟨price, (⟨none, 0, 0⟩ : Sl)⟩ : Level))) fun b22 u23 V24 => GC PP F_slices_Insert_Level [.slice l_1.a l_1.len l_1.cap, .int .i64 s1, .slice (some (⟨b22, 0, none⟩ : Addr)) 1 1] u23 V24 (fun x => gval errT ((Enc.one eSl).enc x)) fun (x25 : Sl) u26 V27 => Kj21 x25 u26 V27) (Kj21 l_1 u13 V14)) fun Kj15 => IfB (s1 == (l_1.len : Int)) (Kj15 true u2 V3) (((0 ≤ s1 ∧ s1 < (l_1.len : Int)) ∧ NilK l_1.a fun ad16 => ∃ x17 : Int, At u2 V3 ((ad16.add (s1.toNat * 2)).add 0) [.int .i64 x17] ∧ Kj15 (x17 != price) u2 V3))) fun Kj4 => LoopN (σ := Int) 0 u V fun s5 u6 V7 next8 => IfB (decide (s5 < (l_1.len : Int))) (((0 ≤ s5 ∧ s5 < (l_1.len : Int)) ∧ NilK l_1.a fun ad9 => ∃ x10 : Int, At u6 V7 ((ad9.add (s5.toNat * 2)).add 0) [.int .i64 x10] ∧ ∃ x11 : Bool, ROc PP F_side_ahead [.int .i64 side, .int .i64 x10, .int .i64 price] u6 V7 (gval errT ((Enc.one eBool).enc x11)) ∧ IfB x11 ((Rng (s5 + 1) ∧ next8 (s5 + 1) u6 V7)) (Kj4 s5 u6 V7))) (Kj4 s5 u6 V7)
-- pitfloor/side.Own
def vc_side_Own (l_0 : Sl) (u : World) (V : VP) (K : Sl → World → VP → Prop) : Prop :=
  GC PP F_slices_Clone_Level [.slice l_0.a l_0.len l_0.cap] u V (fun x => gval errT ((Enc.one eSl).enc x)) fun (x1 : Sl) u2 V3 => LoopN (σ := Int) 0 u2 V3 fun s4 u5 V6 next7 => IfB (decide (s4 < (x1.len : Int))) (((0 ≤ s4 ∧ s4 < (x1.len : Int)) ∧ NilK x1.a fun ad8 => ∃ x9 : Level, At u5 V6 (ad8.add (s4.toNat * 2)) (Level.cells x9) ∧ GC PP F_slices_Clone_Rest [.slice x9.Rests.a x9.Rests.len x9.Rests.cap] u5 V6 (fun x => gval errT ((Enc.one eSl).enc x)) fun (x10 : Sl) u11 V12 => ((0 ≤ s4 ∧ s4 < (x1.len : Int)) ∧ NilK x1.a fun ad13 => ∀ w14, Rel V12 u11 w14 → StOk w14 V12 ((ad13.add (s4.toNat * 2)).add 1) 1 ∧ (Rng (s4 + 1) ∧ next7 (s4 + 1) (stW w14 ((ad13.add (s4.toNat * 2)).add 1) [.slice x10.a x10.len x10.cap] 0) V12)))) (K x1 u5 V6)
-- pitfloor/pitsame.Rests
def vc_pitsame_Rests (a : Sl) (b : Sl) (u : World) (V : VP) (K : Bool → World → VP → Prop) : Prop :=
  IfB ((a.len : Int) != (b.len : Int)) (K false u V) (LoopN (σ := Int) 0 u V fun s1 u2 V3 next4 => IfB (decide (s1 < (a.len : Int))) (((0 ≤ s1 ∧ s1 < (a.len : Int)) ∧ NilK a.a fun ad5 => ∃ x6 : Rest, At u2 V3 (ad5.add (s1.toNat * 5)) (Rest.cells x6) ∧ ((0 ≤ s1 ∧ s1 < (b.len : Int)) ∧ NilK b.a fun ad7 => ∃ x8 : Rest, At u2 V3 (ad7.add (s1.toNat * 5)) (Rest.cells x8) ∧ ∃ b9, (∀ w, (binOp .neq T_Rest (.agg (Rest.cells x6).toArray) (.agg (Rest.cells x8).toArray)).run PP w = .ok (.bool b9) w) ∧ (∀ w, (eqGuard .neq T_Rest (.tmp 20) (.tmp 24) (.agg (Rest.cells x6).toArray) (.agg (Rest.cells x8).toArray)).run PP w = .ok () w) ∧ IfB b9 (K false u2 V3) ((Rng (s1 + 1) ∧ next4 (s1 + 1) u2 V3))))) (K true u2 V3))
-- pitfloor/pitref1.In
def vc_pitref1_In (l_0 : Sl) (id : Int) (u : World) (V : VP) (K : Int → World → VP → Prop) : Prop :=
  LoopN (σ := Int) 0 u V fun s1 u2 V3 next4 => IfB (decide (s1 < (l_0.len : Int))) (((0 ≤ s1 ∧ s1 < (l_0.len : Int)) ∧ NilK l_0.a fun ad5 => ∃ x6 : Int, At u2 V3 ((ad5.add (s1.toNat * 5)).add 0) [.int .i64 x6] ∧ IfB (x6 == id) (K s1 u2 V3) ((Rng (s1 + 1) ∧ next4 (s1 + 1) u2 V3)))) (K (-1) u2 V3)
-- pitfloor/pitref1.Without
def vc_pitref1_Without (l_0 : Sl) (i : Int) (u : World) (V : VP) (K : Sl → World → VP → Prop) : Prop :=
  ((0 ≤ i ∧ i ≤ (l_0.cap : Int)) ∧ OpV PP errT (Builtin.append_ #[T_Sl_Rest, T_Sl_Rest] T_Sl_Rest #[.slice none 0 0, .slice l_0.a i.toNat l_0.cap]) (Enc.one eSl) u V fun (x1 : Sl) u2 V3 => (Rng (i + 1) ∧ ((0 ≤ (i + 1) ∧ (i + 1) ≤ (l_0.len : Int)) ∧ OpV PP errT (Builtin.append_ #[T_Sl_Rest, T_Sl_Rest] T_Sl_Rest #[.slice x1.a x1.len x1.cap, .slice (cutA l_0.a l_0.cap (i + 1).toNat 5) (l_0.len - (i + 1).toNat) (l_0.cap - (i + 1).toNat)]) (Enc.one eSl) u2 V3 fun (x4 : Sl) u5 V6 => K x4 u5 V6)))
-- pitfloor/side.Cut
def vc_side_Cut (l_0 : Sl) (i : Int) (k : Int) (u : World) (V : VP) (K : Sl → World → VP → Prop) : Prop :=
  ((0 ≤ i ∧ i < (l_0.len : Int)) ∧ NilK l_0.a fun ad1 => ∃ x2 : Sl, At u V ((ad1.add (i.toNat * 2)).add 1) [.slice x2.a x2.len x2.cap] ∧ (Rng (k + 1) ∧ GC PP F_slices_Delete_Rest [.slice x2.a x2.len x2.cap, .int .i64 k, .int .i64 (k + 1)] u V (fun x => gval errT ((Enc.one eSl).enc x)) fun (x3 : Sl) u4 V5 => ((0 ≤ i ∧ i < (l_0.len : Int)) ∧ NilK l_0.a fun ad6 => ∀ w7, Rel V5 u4 w7 → StOk w7 V5 ((ad6.add (i.toNat * 2)).add 1) 1 ∧ ((0 ≤ i ∧ i < (l_0.len : Int)) ∧ NilK l_0.a fun ad8 => ∃ x9 : Sl, At (stW w7 ((ad6.add (i.toNat * 2)).add 1) [.slice x3.a x3.len x3.cap] 0) V5 ((ad8.add (i.toNat * 2)).add 1) [.slice x9.a x9.len x9.cap] ∧ IfB ((x9.len : Int) == 0) ((Rng (i + 1) ∧ GC PP F_slices_Delete_Level [.slice l_0.a l_0.len l_0.cap, .int .i64 i, .int .i64 (i + 1)] (stW w7 ((ad6.add (i.toNat * 2)).add 1) [.slice x3.a x3.len x3.cap] 0) V5 (fun x => gval errT ((Enc.one eSl).enc x)) fun (x10 : Sl) u11 V12 => K x10 u11 V12)) (K l_0 (stW w7 ((ad6.add (i.toNat * 2)).add 1) [.slice x3.a x3.len x3.cap] 0) V5)))))
-- pitfloor/order.Id
def vc_order_Id (n : Int) (u : World) (V : VP) (K : Bool → World → VP → Prop) : Prop :=
  ∃ x1 : Bool, ROc PP F_order_within [.int .i64 n, .int .i64 1, .int .i64 9999] u V (gval errT ((Enc.one eBool).enc x1)) ∧ K x1 u V
-- pitfloor/order.Who
def vc_order_Who (n : Int) (u : World) (V : VP) (K : Bool → World → VP → Prop) : Prop :=
  ∃ x1 : Bool, ROc PP F_order_within [.int .i64 n, .int .i64 1, .int .i64 9] u V (gval errT ((Enc.one eBool).enc x1)) ∧ K x1 u V
-- pitfloor/order.within
def vc_order_within (n : Int) (low : Int) (high : Int) (u : World) (V : VP) (K : Bool → World → VP → Prop) : Prop :=
  IfB (decide (n ≥ low)) (K (decide (n ≤ high)) u V) (K false u V)
-- pitfloor/tick.Valid
def vc_tick_Valid (p : Int) (u : World) (V : VP) (K : Bool → World → VP → Prop) : Prop :=
  IfB (decide (p ≥ 1)) (K (decide (p ≤ 10000)) u V) (K false u V)
-- pitfloor/order.Qty
def vc_order_Qty (n : Int) (u : World) (V : VP) (K : Bool → World → VP → Prop) : Prop :=
  ∃ x1 : Bool, ROc PP F_order_within [.int .i64 n, .int .i64 1, .int .i64 10000] u V (gval errT ((Enc.one eBool).enc x1)) ∧ K x1 u V
-- pitfloor/tick.Ahead
def vc_tick_Ahead (side : Int) (a : Int) (b : Int) (u : World) (V : VP) (K : Bool → World → VP → Prop) : Prop :=
  IfB (side == 1) (K (decide (a < b)) u V) (K (decide (a > b)) u V)
-- pitfloor/queue.Find
def vc_queue_Find (l_0 : Sl) (id : Int) (u : World) (V : VP) (K : Int → World → VP → Prop) : Prop :=
  NewC u V T_i64 [.int .i64 id] fun b1 u2 V3 => ∃ x4 : Int, ROc PP F_slices_IndexFunc_Rest [.slice l_0.a l_0.len l_0.cap, .func (.func F_queue_Find_1) #[] #[.pointer (some ⟨b1, 0, none⟩)]] u2 V3 (gval errT ((Enc.one eInt).enc x4)) ∧ K x4 u2 V3
-- pitfloor/tick.Other
def vc_tick_Other (s : Int) (u : World) (V : VP) (K : Int → World → VP → Prop) : Prop :=
  (Rng (3 - s) ∧ K (3 - s) u V)
-- slices.Insert[[]pitfloor/api.Level,pitfloor/api.Level]
def vc_slices_Insert_Level (s : Sl) (i : Int) (v : Sl) (u : World) (V : VP) (K : Sl → World → VP → Prop) : Prop :=
  ((0 ≤ i ∧ i ≤ (s.len : Int)) ∧ IfB ((v.len : Int) == 0) (K s u V) (IfB (i == (s.len : Int)) (OpV PP errT (Builtin.append_ #[T_Sl_Level, T_Sl_Level] T_Sl_Level #[.slice s.a s.len s.cap, .slice v.a v.len v.cap]) (Enc.one eSl) u V fun (x1 : Sl) u2 V3 => K x1 u2 V3) ((Rng ((s.len : Int) + (v.len : Int)) ∧ IfB (decide (((s.len : Int) + (v.len : Int)) > (s.cap : Int))) (((0 ≤ i ∧ i ≤ (s.cap : Int)) ∧ (Rng ((s.len : Int) + (v.len : Int)) ∧ (Rng (((s.len : Int) + (v.len : Int)) - i) ∧ OpV PP errT (Builtin.append_ #[T_Sl_Level, T_i64] T_Sl_Level #[.slice s.a i.toNat s.cap, .int .i64 (((s.len : Int) + (v.len : Int)) - i)]) (Enc.one eSl) u V fun (x4 : Sl) u5 V6 => ((0 ≤ i ∧ i ≤ (x4.len : Int)) ∧ OpV PP errT (Builtin.copy_ #[T_Sl_Level, T_Sl_Level] T_i64 #[.slice (cutA x4.a x4.cap i.toNat 2) (x4.len - i.toNat) (x4.cap - i.toNat), .slice v.a v.len v.cap]) (Enc.one eInt) u5 V6 fun (x7 : Int) u8 V9 => (Rng (i + (v.len : Int)) ∧ ((0 ≤ (i + (v.len : Int)) ∧ (i + (v.len : Int)) ≤ (x4.len : Int)) ∧ ((0 ≤ i ∧ i ≤ (s.len : Int)) ∧ OpV PP errT (Builtin.copy_ #[T_Sl_Level, T_Sl_Level] T_i64 #[.slice (cutA x4.a x4.cap (i + (v.len : Int)).toNat 2) (x4.len - (i + (v.len : Int)).toNat) (x4.cap - (i + (v.len : Int)).toNat), .slice (cutA s.a s.cap i.toNat 2) (s.len - i.toNat) (s.cap - i.toNat)]) (Enc.one eInt) u8 V9 fun (x10 : Int) u11 V12 => K x4 u11 V12)))))))) ((Rng ((s.len : Int) + (v.len : Int)) ∧ ((0 ≤ ((s.len : Int) + (v.len : Int)) ∧ ((s.len : Int) + (v.len : Int)) ≤ (s.cap : Int)) ∧ (Rng (i + (v.len : Int)) ∧ ((0 ≤ (i + (v.len : Int)) ∧ (i + (v.len : Int)) ≤ (((s.len : Int) + (v.len : Int)).toNat : Int)) ∧ ∃ x13 : Bool, ROc PP F_slices_overlaps_Level [.slice v.a v.len v.cap, .slice (cutA s.a s.cap (i + (v.len : Int)).toNat 2) (((s.len : Int) + (v.len : Int)).toNat - (i + (v.len : Int)).toNat) (s.cap - (i + (v.len : Int)).toNat)] u V (gval errT ((Enc.one eBool).enc x13)) ∧ IfB (!x13) ((Rng (i + (v.len : Int)) ∧ ((0 ≤ (i + (v.len : Int)) ∧ (i + (v.len : Int)) ≤ (((s.len : Int) + (v.len : Int)).toNat : Int)) ∧ ((0 ≤ i ∧ i ≤ (((s.len : Int) + (v.len : Int)).toNat : Int)) ∧ OpV PP errT (Builtin.copy_ #[T_Sl_Level, T_Sl_Level] T_i64 #[.slice (cutA s.a s.cap (i + (v.len : Int)).toNat 2) (((s.len : Int) + (v.len : Int)).toNat - (i + (v.len : Int)).toNat) (s.cap - (i + (v.len : Int)).toNat), .slice (cutA s.a s.cap i.toNat 2) (((s.len : Int) + (v.len : Int)).toNat - i.toNat) (s.cap - i.toNat)]) (Enc.one eInt) u V fun (x14 : Int) u15 V16 => ((0 ≤ i ∧ i ≤ (((s.len : Int) + (v.len : Int)).toNat : Int)) ∧ OpV PP errT (Builtin.copy_ #[T_Sl_Level, T_Sl_Level] T_i64 #[.slice (cutA s.a s.cap i.toNat 2) (((s.len : Int) + (v.len : Int)).toNat - i.toNat) (s.cap - i.toNat), .slice v.a v.len v.cap]) (Enc.one eInt) u15 V16 fun (x17 : Int) u18 V19 => K (⟨s.a, ((s.len : Int) + (v.len : Int)).toNat, s.cap⟩ : Sl) u18 V19))))) (((0 ≤ (s.len : Int) ∧ (s.len : Int) ≤ (((s.len : Int) + (v.len : Int)).toNat : Int)) ∧ OpV PP errT (Builtin.copy_ #[T_Sl_Level, T_Sl_Level] T_i64 #[.slice (cutA s.a s.cap (s.len : Int).toNat 2) (((s.len : Int) + (v.len : Int)).toNat - (s.len : Int).toNat) (s.cap - (s.len : Int).toNat), .slice v.a v.len v.cap]) (Enc.one eInt) u V fun (x20 : Int) u21 V22 => ((0 ≤ i ∧ i ≤ (((s.len : Int) + (v.len : Int)).toNat : Int)) ∧ GC PP F_slices_rotateRight_Level [.slice (cutA s.a s.cap i.toNat 2) (((s.len : Int) + (v.len : Int)).toNat - i.toNat) (s.cap - i.toNat), .int .i64 (v.len : Int)] u21 V22 (fun x => gval errT (Enc.t0.enc x)) fun (x23 : Unit) u24 V25 => K (⟨s.a, ((s.len : Int) + (v.len : Int)).toNat, s.cap⟩ : Sl) u24 V25))))))))))))
-- slices.Clone[[]pitfloor/api.Level,pitfloor/api.Level]
def vc_slices_Clone_Level (s : Sl) (u : World) (V : VP) (K : Sl → World → VP → Prop) : Prop :=
  IfB s.a.isNone (K (⟨none, 0, 0⟩ : Sl) u V) (NewC u V T_Level ([]) fun b1 u2 V3 => OpV PP errT (Builtin.append_ #[T_Sl_Level, T_Sl_Level] T_Sl_Level #[.slice (some (⟨b1, 0, none⟩ : Addr)) 0 0, .slice s.a s.len s.cap]) (Enc.one eSl) u2 V3 fun (x4 : Sl) u5 V6 => K x4 u5 V6)
-- slices.Clone[[]pitfloor/api.Rest,pitfloor/api.Rest]
def vc_slices_Clone_Rest (s : Sl) (u : World) (V : VP) (K : Sl → World → VP → Prop) : Prop :=
  IfB s.a.isNone (K (⟨none, 0, 0⟩ : Sl) u V) (NewC u V T_Rest ([]) fun b1 u2 V3 => OpV PP errT (Builtin.append_ #[T_Sl_Rest, T_Sl_Rest] T_Sl_Rest #[.slice (some (⟨b1, 0, none⟩ : Addr)) 0 0, .slice s.a s.len s.cap]) (Enc.one eSl) u2 V3 fun (x4 : Sl) u5 V6 => K x4 u5 V6)
-- slices.Delete[[]pitfloor/api.Rest,pitfloor/api.Rest]
def vc_slices_Delete_Rest (s : Sl) (i : Int) (j : Int) (u : World) (V : VP) (K : Sl → World → VP → Prop) : Prop :=
  ((0 ≤ (s.len : Int) ∧ (s.len : Int) ≤ (s.cap : Int)) ∧ (0 ≤ j ∧ j ≤ (s.len : Int)) ∧ (0 ≤ i ∧ i ≤ j) ∧ IfB (i == j) (K s u V) (((0 ≤ i ∧ i ≤ (s.cap : Int)) ∧ ((0 ≤ j ∧ j ≤ (s.len : Int)) ∧ OpV PP errT (Builtin.append_ #[T_Sl_Rest, T_Sl_Rest] T_Sl_Rest #[.slice s.a i.toNat s.cap, .slice (cutA s.a s.cap j.toNat 5) (s.len - j.toNat) (s.cap - j.toNat)]) (Enc.one eSl) u V fun (x1 : Sl) u2 V3 => ((0 ≤ (s.len : Int) ∧ (s.len : Int) ≤ (x1.cap : Int)) ∧ (0 ≤ (x1.len : Int) ∧ (x1.len : Int) ≤ (s.len : Int)) ∧ OpV PP errT (Builtin.clear_ #[T_Sl_Rest] T_Tu_ #[.slice (cutA x1.a x1.cap (x1.len : Int).toNat 5) ((s.len : Int).toNat - (x1.len : Int).toNat) (x1.cap - (x1.len : Int).toNat)]) Enc.t0 u2 V3 fun (x4 : Unit) u5 V6 => K x1 u5 V6)))))
-- slices.Delete[[]pitfloor/api.Level,pitfloor/api.Level]
def vc_slices_Delete_Level (s : Sl) (i : Int) (j : Int) (u : World) (V : VP) (K : Sl → World → VP → Prop) : Prop :=
  ((0 ≤ (s.len : Int) ∧ (s.len : Int) ≤ (s.cap : Int)) ∧ (0 ≤ j ∧ j ≤ (s.len : Int)) ∧ (0 ≤ i ∧ i ≤ j) ∧ IfB (i == j) (K s u V) (((0 ≤ i ∧ i ≤ (s.cap : Int)) ∧ ((0 ≤ j ∧ j ≤ (s.len : Int)) ∧ OpV PP errT (Builtin.append_ #[T_Sl_Level, T_Sl_Level] T_Sl_Level #[.slice s.a i.toNat s.cap, .slice (cutA s.a s.cap j.toNat 2) (s.len - j.toNat) (s.cap - j.toNat)]) (Enc.one eSl) u V fun (x1 : Sl) u2 V3 => ((0 ≤ (s.len : Int) ∧ (s.len : Int) ≤ (x1.cap : Int)) ∧ (0 ≤ (x1.len : Int) ∧ (x1.len : Int) ≤ (s.len : Int)) ∧ OpV PP errT (Builtin.clear_ #[T_Sl_Level] T_Tu_ #[.slice (cutA x1.a x1.cap (x1.len : Int).toNat 2) ((s.len : Int).toNat - (x1.len : Int).toNat) (x1.cap - (x1.len : Int).toNat)]) Enc.t0 u2 V3 fun (x4 : Unit) u5 V6 => K x1 u5 V6)))))
-- slices.IndexFunc[[]pitfloor/api.Rest,pitfloor/api.Rest]
def vc_slices_IndexFunc_Rest (s : Sl) (f : Clo) (u : World) (V : VP) (K : Int → World → VP → Prop) : Prop :=
  LoopN (σ := Int) 0 u V fun s1 u2 V3 next4 => IfB (decide (s1 < (s.len : Int))) (((0 ≤ s1 ∧ s1 < (s.len : Int)) ∧ NilK s.a fun ad5 => ∃ x6 : Rest, At u2 V3 (ad5.add (s1.toNat * 5)) (Rest.cells x6) ∧ ∃ x7 : Bool, ROc PP f.f ([.agg (Rest.cells x6).toArray] ++ f.caps) u2 V3 (gval errT ((Enc.one eBool).enc x7)) ∧ IfB x7 (K s1 u2 V3) ((Rng (s1 + 1) ∧ next4 (s1 + 1) u2 V3)))) (K (-1) u2 V3)
-- pitfloor/queue.Find$1
def vc_queue_Find_1 (r_0 : Rest) (c0 : Addr) (u : World) (V : VP) (K : Bool → World → VP → Prop) : Prop :=
  ∃ x1 : Int, At u V c0 [.int .i64 x1] ∧ K (r_0.Id == x1) u V
-- slices.rotateRight[pitfloor/api.Level]
def vc_slices_rotateRight_Level (s : Sl) (r_1 : Int) (u : World) (V : VP) (K : Unit → World → VP → Prop) : Prop :=
  (Rng ((s.len : Int) - r_1) ∧ GC PP F_slices_rotateLeft_Level [.slice s.a s.len s.cap, .int .i64 ((s.len : Int) - r_1)] u V (fun x => gval errT (Enc.t0.enc x)) fun (x1 : Unit) u2 V3 => K () u2 V3)
-- slices.rotateLeft[pitfloor/api.Level]
def vc_slices_rotateLeft_Level (s : Sl) (r_1 : Int) (u : World) (V : VP) (K : Unit → World → VP → Prop) : Prop :=
  ((0 ≤ r_1 ∧ r_1 ≤ (s.cap : Int)) ∧ GC PP F_slices_Reverse_Level [.slice s.a r_1.toNat s.cap] u V (fun x => gval errT (Enc.t0.enc x)) fun (x1 : Unit) u2 V3 => ((0 ≤ r_1 ∧ r_1 ≤ (s.len : Int)) ∧ GC PP F_slices_Reverse_Level [.slice (cutA s.a s.cap r_1.toNat 2) (s.len - r_1.toNat) (s.cap - r_1.toNat)] u2 V3 (fun x => gval errT (Enc.t0.enc x)) fun (x4 : Unit) u5 V6 => GC PP F_slices_Reverse_Level [.slice s.a s.len s.cap] u5 V6 (fun x => gval errT (Enc.t0.enc x)) fun (x7 : Unit) u8 V9 => K () u8 V9))
-- slices.Reverse[[]pitfloor/api.Level,pitfloor/api.Level]
def vc_slices_Reverse_Level (s : Sl) (u : World) (V : VP) (K : Unit → World → VP → Prop) : Prop :=
  (Rng ((s.len : Int) - 1) ∧ LoopN (σ := Int × Int) (0, ((s.len : Int) - 1)) u V fun s1 u2 V3 next4 => IfB (decide (s1.1 < s1.2)) (((0 ≤ s1.2 ∧ s1.2 < (s.len : Int)) ∧ NilK s.a fun ad5 => ∃ x6 : Level, At u2 V3 (ad5.add (s1.2.toNat * 2)) (Level.cells x6) ∧ ((0 ≤ s1.1 ∧ s1.1 < (s.len : Int)) ∧ NilK s.a fun ad7 => ∃ x8 : Level, At u2 V3 (ad7.add (s1.1.toNat * 2)) (Level.cells x8) ∧ ((0 ≤ s1.1 ∧ s1.1 < (s.len : Int)) ∧ NilK s.a fun ad9 => ∀ w10, Rel V3 u2 w10 → StOk w10 V3 (ad9.add (s1.1.toNat * 2)) 2 ∧ ((0 ≤ s1.2 ∧ s1.2 < (s.len : Int)) ∧ NilK s.a fun ad11 => ∀ w12, Rel V3 (stW w10 (ad9.add (s1.1.toNat * 2)) (Level.cells x6) 0) w12 → StOk w12 V3 (ad11.add (s1.2.toNat * 2)) 2 ∧ (Rng (s1.1 + 1) ∧ (Rng (s1.2 - 1) ∧ next4 ((s1.1 + 1), (s1.2 - 1)) (stW w12 (ad11.add (s1.2.toNat * 2)) (Level.cells x8) 0) V3))))))) (K () u2 V3))
end Go.Sx

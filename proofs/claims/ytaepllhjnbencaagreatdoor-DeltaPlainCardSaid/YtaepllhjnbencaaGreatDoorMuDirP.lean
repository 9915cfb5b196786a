/- The functions in the direct style: printed by a program of this session (dirs.py). -/
import Derived.Test.YtaepllhjnbencaaGreatDoorMuWorks2
import Derived.Test.YtaepllhjnbencaaGreatDoorMuGo
import Derived.KernelRfl
set_option linter.unusedVariables false
set_option maxRecDepth 100000
namespace Go.Proofs.YtaepllhjnbencaaGreatDoor.Ir
open Mu
def D24 (W : Prg) (call : Nat → List V → M → R) (fuel : Nat) (x0 : V) (m : M) : X :=
 (evK W call m (.box 25 2) [x0]).to fun x1 m1 =>
 (evK W call m1 (.alloc 25 [.snil, .snil]) []).to fun x2 m2 =>
 (evK W call m2 (.load true 2) [x1]).to fun x5 m3 =>
 (evK W call m3 .call [(.fn 70 [] []), x5]).to fun x6 m4 =>
 (evK W call m4 (.store 2) [x1, x6]).to fun _ m5 =>
 (evK W call m5 (.fieldAddr 0) [x1]).to fun x7 m6 =>
 (evK W call m6 (.load false 1) [x7]).to fun x8 m7 =>
 (evK W call m7 .lenL [x8]).to fun x9 m8 =>
 blkF (
  loopF (fun vs m9 => take1 vs fun x1_2 vs => take1 vs fun x2_2 vs => take1 vs fun x9_2 vs => take1 vs fun x10 vs => 
   (evK W call m9 (.bin .lss) [x10, x9_2]).to fun x11 m10 =>
   cnd x11 (
   blkF (
    (evK W call m10 (.fieldAddr 0) [x1_2]).to fun x13 m11 =>
    (evK W call m11 (.load false 1) [x13]).to fun x14 m12 =>
    (evK W call m12 (.idxSlice 5) [x14, x10]).to fun x16 m13 =>
    (evK W call m13 (.fieldAddr 4) [x16]).to fun x17 m14 =>
    (evK W call m14 (.store 1) [x17, (.int .i64 (.negSucc 0))]).to fun _ m15 =>
    .norm [x1_2, x2_2, x9_2, x10] m15) 1 [p1, p2, p9, p10] (fun vs m16 => take1 vs fun x1_3 vs => take1 vs fun x2_3 vs => take1 vs fun x9_3 vs => take1 vs fun x10_2 vs => 
   (evK W call m16 (.bin .add) [x10_2, (.int .i64 (.ofNat 1))]).to fun x18 m17 =>
   .norm [x1_3, x2_3, x9_3, x18] m17)) (
    .exit 0 [p1, p2] [x1_2, x2_2] m10)) fuel [x1, x2, x9, (.int .i64 (.ofNat 0))] m8) 0 [p1, p2] (fun vs m18 => take1 vs fun x1_4 vs => take1 vs fun x2_4 vs => 
 (evK W call m18 (.fieldAddr 1) [x1_4]).to fun x19 m19 =>
 (evK W call m19 (.load false 1) [x19]).to fun x20 m20 =>
 (evK W call m20 .lenL [x20]).to fun x21 m21 =>
 blkF (
  loopF (fun vs m22 => take1 vs fun x1_5 vs => take1 vs fun x2_5 vs => take1 vs fun x21_2 vs => take1 vs fun x22 vs => 
   (evK W call m22 (.bin .lss) [x22, x21_2]).to fun x23 m23 =>
   cnd x23 (
   blkF (
    (evK W call m23 (.fieldAddr 1) [x1_5]).to fun x25 m24 =>
    (evK W call m24 (.load false 1) [x25]).to fun x26 m25 =>
    (evK W call m25 (.idxSlice 6) [x26, x22]).to fun x28 m26 =>
    (evK W call m26 (.fieldAddr 4) [x28]).to fun x29 m27 =>
    (evK W call m27 (.store 1) [x29, (.int .i64 (.ofNat 0))]).to fun _ m28 =>
    .norm [x1_5, x2_5, x21_2, x22] m28) 3 [p1, p2, p21, p22] (fun vs m29 => take1 vs fun x1_6 vs => take1 vs fun x2_6 vs => take1 vs fun x21_3 vs => take1 vs fun x22_2 vs => 
   (evK W call m29 (.bin .add) [x22_2, (.int .i64 (.ofNat 1))]).to fun x30 m30 =>
   .norm [x1_6, x2_6, x21_3, x30] m30)) (
    .exit 2 [p1, p2] [x1_5, x2_5] m23)) fuel [x1_4, x2_4, x21, (.int .i64 (.ofNat 0))] m21) 2 [p1, p2] (fun vs m31 => take1 vs fun x1_7 vs => take1 vs fun x2_7 vs => 
 (evK W call m31 (.load true 2) [x1_7]).to fun x31 m32 =>
 (evK W call m32 (.store 2) [x2_7, x31]).to fun _ m33 =>
 retX (resV [.cell x2_7 true 2] m33) m33))
theorem D24_eq (W : Prg) (call : Nat → List V → M → R) (fuel : Nat) (x0 : V) (m : M) : exec2 W call fuel F24.body (mkEnv [x0] 0 .nil) m (fun e m => retX (Mu.results e m F24.rs) m) = D24 W call fuel x0 m := by kernel_rfl
theorem get24 : W1.fns.get (key 24) = some F24 := by kernel_rfl
theorem prim24 : W1.prims 24 = none := by kernel_rfl
def D70 (W : Prg) (call : Nat → List V → M → R) (fuel : Nat) (x0 : V) (m : M) : X :=
 (evK W call m (.box 25 2) [x0]).to fun x1 m1 =>
 (evK W call m1 (.alloc 25 [.snil, .snil]) []).to fun x2 m2 =>
 allocD (some true) (.alloc 25 [.snil, .snil]) [] m2 2 [] fun x3 m3 q3 =>
 pureD (some true) (evK W call m3 (.fieldAddr 0) [x1]) fun x8 =>
 readD (some true) (evK W call m3 (.load false 1) [x8]) (fun v => chkHist W call (.load false 1) [x8] v 0 []) (fun v => .rd (.load false 1) [x8] v 0) q3 fun x9 q4 =>
 effD (chkPend W call m3 0 q4) (some true) (evK W call m3 .call [(.fn 101 [] []), x9]) m3 fun x10 m6 =>
 pureD (some true) (evK W call m6 (.fieldAddr 1) [x1]) fun x11 =>
 readD (some true) (evK W call m6 (.load false 1) [x11]) (fun v => chkHist W call (.load false 1) [x11] v 0 [m3]) (fun v => .rd (.load false 1) [x11] v 1) q4 fun x12 q6 =>
 effD (chkPend W call m6 1 q6) (some true) (evK W call m6 .call [(.fn 102 [] []), x12]) m6 fun x13 m8 =>
 pureD (some true) (evK W call m8 (.build [.snil, .snil] [(0, 1), (1, 1)]) [x10, x13]) fun x14 =>
 effD (chkPend W call m8 2 q6) (some true) (evK W call m8 (.store 2) [x3, x14]) m8 fun _ m9 =>
 ifX (chkPend W call m9 3 q6) (
 (evK W call m9 (.fieldAddr 0) [x3]).to fun x15 m10 =>
 (evK W call m10 (.load false 1) [x15]).to fun x16 m11 =>
 (evK W call m11 .lenL [x16]).to fun x17 m12 =>
 blkF (
  loopF (fun vs m13 => take1 vs fun x2_2 vs => take1 vs fun x3_2 vs => take1 vs fun x16_2 vs => take1 vs fun x17_2 vs => take1 vs fun x18 vs => 
   (evK W call m13 (.bin .lss) [x18, x17_2]).to fun x19 m14 =>
   cnd x19 (
   blkF (
    (evK W call m14 (.idxSlice 5) [x16_2, x18]).to fun x21 m15 =>
    (evK W call m15 (.load true 5) [x21]).to fun x22 m16 =>
    (evK W call m16 (.alloc 60 [(.int .i64 (.ofNat 0)), (.str []), .snil, (.int .i64 (.ofNat 0)), (.int .i64 (.ofNat 0))]) []).to fun x5 m17 =>
    (evK W call m17 (.store 5) [x5, x22]).to fun _ m18 =>
    pureD (some true) (evK W call m18 (.fieldAddr 0) [x3_2]) fun x23 =>
    readD (some true) (evK W call m18 (.load false 1) [x23]) (fun v => chkHist W call (.load false 1) [x23] v 0 []) (fun v => .rd (.load false 1) [x23] v 1) [] fun x24 q18 =>
    pureD (some true) (evK W call m18 (.fieldAddr 2) [x5]) fun x26 =>
    readD (some true) (evK W call m18 (.load false 1) [x26]) (fun v => chkHist W call (.load false 1) [x26] v 0 []) (fun v => .rd (.load false 1) [x26] v 0) q18 fun x27 q19 =>
    effD (chkPend W call m18 0 q19) (some true) (evK W call m18 .call [(.fn 103 [] []), x27]) m18 fun x28 m21 =>
    pureD (some true) (evK W call m21 (.idxSlice 5) [x24, x18]) fun x29 =>
    pureD (some true) (evK W call m21 (.fieldAddr 2) [x29]) fun x30 =>
    effD (chkPend W call m21 1 q19) (some true) (evK W call m21 (.store 1) [x30, x28]) m21 fun _ m22 =>
    ifX (chkPend W call m22 2 q19) (
    .norm [x2_2, x3_2, x16_2, x17_2, x18] m22)) 1 [p2, p3, p16, p17, p18] (fun vs m23 => take1 vs fun x2_3 vs => take1 vs fun x3_3 vs => take1 vs fun x16_3 vs => take1 vs fun x17_3 vs => take1 vs fun x18_2 vs => 
   (evK W call m23 (.bin .add) [x18_2, (.int .i64 (.ofNat 1))]).to fun x31 m24 =>
   .norm [x2_3, x3_3, x16_3, x17_3, x31] m24)) (
    .exit 0 [p2, p3] [x2_2, x3_2] m14)) fuel [x2, x3, x16, x17, (.int .i64 (.ofNat 0))] m12) 0 [p2, p3] (fun vs m25 => take1 vs fun x2_4 vs => take1 vs fun x3_4 vs => 
 (evK W call m25 (.fieldAddr 1) [x3_4]).to fun x32 m26 =>
 (evK W call m26 (.load false 1) [x32]).to fun x33 m27 =>
 (evK W call m27 .lenL [x33]).to fun x34 m28 =>
 blkF (
  loopF (fun vs m29 => take1 vs fun x2_5 vs => take1 vs fun x3_5 vs => take1 vs fun x33_2 vs => take1 vs fun x34_2 vs => take1 vs fun x35 vs => 
   (evK W call m29 (.bin .lss) [x35, x34_2]).to fun x36 m30 =>
   cnd x36 (
   blkF (
    (evK W call m30 (.idxSlice 6) [x33_2, x35]).to fun x38 m31 =>
    (evK W call m31 (.load true 6) [x38]).to fun x39 m32 =>
    (evK W call m32 (.alloc 66 [(.int .i64 (.ofNat 0)), (.str []), .snil, (.int .i64 (.ofNat 0)), (.int .i64 (.ofNat 0)), (.bool false)]) []).to fun x7 m33 =>
    (evK W call m33 (.store 6) [x7, x39]).to fun _ m34 =>
    pureD (some true) (evK W call m34 (.fieldAddr 1) [x3_5]) fun x40 =>
    readD (some true) (evK W call m34 (.load false 1) [x40]) (fun v => chkHist W call (.load false 1) [x40] v 0 []) (fun v => .rd (.load false 1) [x40] v 1) [] fun x41 q34 =>
    pureD (some true) (evK W call m34 (.fieldAddr 2) [x7]) fun x43 =>
    readD (some true) (evK W call m34 (.load false 1) [x43]) (fun v => chkHist W call (.load false 1) [x43] v 0 []) (fun v => .rd (.load false 1) [x43] v 0) q34 fun x44 q35 =>
    effD (chkPend W call m34 0 q35) (some true) (evK W call m34 .call [(.fn 104 [] []), x44]) m34 fun x45 m37 =>
    pureD (some true) (evK W call m37 (.idxSlice 6) [x41, x35]) fun x46 =>
    pureD (some true) (evK W call m37 (.fieldAddr 2) [x46]) fun x47 =>
    effD (chkPend W call m37 1 q35) (some true) (evK W call m37 (.store 1) [x47, x45]) m37 fun _ m38 =>
    ifX (chkPend W call m38 2 q35) (
    .norm [x2_5, x3_5, x33_2, x34_2, x35] m38)) 3 [p2, p3, p33, p34, p35] (fun vs m39 => take1 vs fun x2_6 vs => take1 vs fun x3_6 vs => take1 vs fun x33_3 vs => take1 vs fun x34_3 vs => take1 vs fun x35_2 vs => 
   (evK W call m39 (.bin .add) [x35_2, (.int .i64 (.ofNat 1))]).to fun x48 m40 =>
   .norm [x2_6, x3_6, x33_3, x34_3, x48] m40)) (
    .exit 2 [p2, p3] [x2_5, x3_5] m30)) fuel [x2_4, x3_4, x33, x34, (.int .i64 (.ofNat 0))] m28) 2 [p2, p3] (fun vs m41 => take1 vs fun x2_7 vs => take1 vs fun x3_7 vs => 
 (evK W call m41 (.load true 2) [x3_7]).to fun x49 m42 =>
 (evK W call m42 (.store 2) [x2_7, x49]).to fun _ m43 =>
 retX (resV [.cell x2_7 true 2] m43) m43)))
theorem D70_eq (W : Prg) (call : Nat → List V → M → R) (fuel : Nat) (x0 : V) (m : M) : exec2 W call fuel F70.body (mkEnv [x0] 0 .nil) m (fun e m => retX (Mu.results e m F70.rs) m) = D70 W call fuel x0 m := by kernel_rfl
theorem get70 : W1.fns.get (key 70) = some F70 := by kernel_rfl
theorem prim70 : W1.prims 70 = none := by kernel_rfl
def D25 (W : Prg) (call : Nat → List V → M → R) (fuel : Nat) (x0 : V) (m : M) : X :=
 (evK W call m (.box 25 2) [x0]).to fun x1 m1 =>
 (evK W call m1 (.alloc 25 [.snil, .snil]) []).to fun x2 m2 =>
 (evK W call m2 (.load true 2) [x1]).to fun x6 m3 =>
 (evK W call m3 .call [(.fn 32 [] []), x6]).to fun x7 m4 =>
 (evK W call m4 (.alloc 25 [.snil, .snil]) []).to fun x3 m5 =>
 (evK W call m5 (.store 2) [x3, x7]).to fun _ m6 =>
 blkF (
  loopF (fun vs m7 => take1 vs fun x2_2 vs => take1 vs fun x3_2 vs => take1 vs fun x4 vs => 
   (evK W call m7 (.fieldAddr 0) [x3_2]).to fun x9 m8 =>
   (evK W call m8 (.load false 1) [x9]).to fun x10 m9 =>
   (evK W call m9 .lenL [x10]).to fun x11 m10 =>
   (evK W call m10 (.bin .lss) [x4, x11]).to fun x12 m11 =>
   cnd x12 (
   blkF (
    (evK W call m11 (.fieldAddr 0) [x3_2]).to fun x15 m12 =>
    (evK W call m12 (.load false 1) [x15]).to fun x16 m13 =>
    (evK W call m13 (.idxSlice 5) [x16, x4]).to fun x18 m14 =>
    (evK W call m14 (.fieldAddr 4) [x18]).to fun x19 m15 =>
    (evK W call m15 (.store 1) [x19, (.int .i64 (.negSucc 0))]).to fun _ m16 =>
    .norm [x2_2, x3_2, x4] m16) 1 [p2, p3, p4] (fun vs m17 => take1 vs fun x2_3 vs => take1 vs fun x3_3 vs => take1 vs fun x4_2 vs => 
   (evK W call m17 (.bin .add) [x4_2, (.int .i64 (.ofNat 1))]).to fun x14 m18 =>
   .norm [x2_3, x3_3, x14] m18)) (
    .exit 0 [p2, p3] [x2_2, x3_2] m11)) fuel [x2, x3, (.int .i64 (.ofNat 0))] m6) 0 [p2, p3] (fun vs m19 => take1 vs fun x2_4 vs => take1 vs fun x3_4 vs => 
 blkF (
  loopF (fun vs m20 => take1 vs fun x2_5 vs => take1 vs fun x3_5 vs => take1 vs fun x5 vs => 
   (evK W call m20 (.fieldAddr 1) [x3_5]).to fun x21 m21 =>
   (evK W call m21 (.load false 1) [x21]).to fun x22 m22 =>
   (evK W call m22 .lenL [x22]).to fun x23 m23 =>
   (evK W call m23 (.bin .lss) [x5, x23]).to fun x24 m24 =>
   cnd x24 (
   blkF (
    (evK W call m24 (.fieldAddr 1) [x3_5]).to fun x27 m25 =>
    (evK W call m25 (.load false 1) [x27]).to fun x28 m26 =>
    (evK W call m26 (.idxSlice 6) [x28, x5]).to fun x30 m27 =>
    (evK W call m27 (.fieldAddr 4) [x30]).to fun x31 m28 =>
    (evK W call m28 (.store 1) [x31, (.int .i64 (.ofNat 0))]).to fun _ m29 =>
    .norm [x2_5, x3_5, x5] m29) 3 [p2, p3, p5] (fun vs m30 => take1 vs fun x2_6 vs => take1 vs fun x3_6 vs => take1 vs fun x5_2 vs => 
   (evK W call m30 (.bin .add) [x5_2, (.int .i64 (.ofNat 1))]).to fun x26 m31 =>
   .norm [x2_6, x3_6, x26] m31)) (
    .exit 2 [p2, p3] [x2_5, x3_5] m24)) fuel [x2_4, x3_4, (.int .i64 (.ofNat 0))] m19) 2 [p2, p3] (fun vs m32 => take1 vs fun x2_7 vs => take1 vs fun x3_7 vs => 
 (evK W call m32 (.load true 2) [x3_7]).to fun x32 m33 =>
 (evK W call m33 (.store 2) [x2_7, x32]).to fun _ m34 =>
 retX (resV [.cell x2_7 true 2] m34) m34))
theorem D25_eq (W : Prg) (call : Nat → List V → M → R) (fuel : Nat) (x0 : V) (m : M) : exec2 W call fuel F25.body (mkEnv [x0] 0 .nil) m (fun e m => retX (Mu.results e m F25.rs) m) = D25 W call fuel x0 m := by kernel_rfl
theorem get25 : W1.fns.get (key 25) = some F25 := by kernel_rfl
theorem prim25 : W1.prims 25 = none := by kernel_rfl
def D32 (W : Prg) (call : Nat → List V → M → R) (fuel : Nat) (x0 : V) (m : M) : X :=
 (evK W call m (.box 25 2) [x0]).to fun x1 m1 =>
 (evK W call m1 (.alloc 25 [.snil, .snil]) []).to fun x2 m2 =>
 (evK W call m2 (.alloc 25 [.snil, .snil]) []).to fun x3 m3 =>
 blkF (
  loopF (fun vs m4 => take1 vs fun x1_2 vs => take1 vs fun x2_2 vs => take1 vs fun x3_2 vs => take1 vs fun x4 vs => 
   (evK W call m4 (.fieldAddr 0) [x1_2]).to fun x9 m5 =>
   (evK W call m5 (.load false 1) [x9]).to fun x10 m6 =>
   (evK W call m6 .lenL [x10]).to fun x11 m7 =>
   (evK W call m7 (.bin .lss) [x4, x11]).to fun x12 m8 =>
   cnd x12 (
   blkF (
    (evK W call m8 (.fieldAddr 0) [x1_2]).to fun x15 m9 =>
    (evK W call m9 (.load false 1) [x15]).to fun x16 m10 =>
    (evK W call m10 (.idxSlice 5) [x16, x4]).to fun x18 m11 =>
    (evK W call m11 (.load true 5) [x18]).to fun x19 m12 =>
    (evK W call m12 (.alloc 60 [(.int .i64 (.ofNat 0)), (.str []), .snil, (.int .i64 (.ofNat 0)), (.int .i64 (.ofNat 0))]) []).to fun x5 m13 =>
    (evK W call m13 (.store 5) [x5, x19]).to fun _ m14 =>
    (evK W call m14 (.fieldAddr 2) [x5]).to fun x20 m15 =>
    (evK W call m15 (.load false 1) [x20]).to fun x21 m16 =>
    (evK W call m16 (.append 73 2 16) [.snil, x21]).to fun x22 m17 =>
    (evK W call m17 (.fieldAddr 2) [x5]).to fun x23 m18 =>
    (evK W call m18 (.store 1) [x23, x22]).to fun _ m19 =>
    (evK W call m19 (.fieldAddr 0) [x3_2]).to fun x24 m20 =>
    (evK W call m20 (.load false 1) [x24]).to fun x25 m21 =>
    (evK W call m21 (.load true 5) [x5]).to fun x26 m22 =>
    (evK W call m22 (.buildSlice 60 5 [(.int .i64 (.ofNat 0)), (.str []), .snil, (.int .i64 (.ofNat 0)), (.int .i64 (.ofNat 0))] 1 [(0, 5)]) [x26]).to fun x27 m23 =>
    (evK W call m23 (.append 60 5 64) [x25, x27]).to fun x28 m24 =>
    (evK W call m24 (.fieldAddr 0) [x3_2]).to fun x29 m25 =>
    (evK W call m25 (.store 1) [x29, x28]).to fun _ m26 =>
    .norm [x1_2, x2_2, x3_2, x4] m26) 1 [p1, p2, p3, p4] (fun vs m27 => take1 vs fun x1_3 vs => take1 vs fun x2_3 vs => take1 vs fun x3_3 vs => take1 vs fun x4_2 vs => 
   (evK W call m27 (.bin .add) [x4_2, (.int .i64 (.ofNat 1))]).to fun x14 m28 =>
   .norm [x1_3, x2_3, x3_3, x14] m28)) (
    .exit 0 [p1, p2, p3] [x1_2, x2_2, x3_2] m8)) fuel [x1, x2, x3, (.int .i64 (.ofNat 0))] m3) 0 [p1, p2, p3] (fun vs m29 => take1 vs fun x1_4 vs => take1 vs fun x2_4 vs => take1 vs fun x3_4 vs => 
 blkF (
  loopF (fun vs m30 => take1 vs fun x1_5 vs => take1 vs fun x2_5 vs => take1 vs fun x3_5 vs => take1 vs fun x6 vs => 
   (evK W call m30 (.fieldAddr 1) [x1_5]).to fun x31 m31 =>
   (evK W call m31 (.load false 1) [x31]).to fun x32 m32 =>
   (evK W call m32 .lenL [x32]).to fun x33 m33 =>
   (evK W call m33 (.bin .lss) [x6, x33]).to fun x34 m34 =>
   cnd x34 (
   blkF (
    (evK W call m34 (.fieldAddr 1) [x1_5]).to fun x37 m35 =>
    (evK W call m35 (.load false 1) [x37]).to fun x38 m36 =>
    (evK W call m36 (.idxSlice 6) [x38, x6]).to fun x40 m37 =>
    (evK W call m37 (.load true 6) [x40]).to fun x41 m38 =>
    (evK W call m38 (.alloc 66 [(.int .i64 (.ofNat 0)), (.str []), .snil, (.int .i64 (.ofNat 0)), (.int .i64 (.ofNat 0)), (.bool false)]) []).to fun x7 m39 =>
    (evK W call m39 (.store 6) [x7, x41]).to fun _ m40 =>
    (evK W call m40 (.fieldAddr 2) [x7]).to fun x42 m41 =>
    (evK W call m41 (.load false 1) [x42]).to fun x43 m42 =>
    (evK W call m42 (.append 82 7 56) [.snil, x43]).to fun x44 m43 =>
    (evK W call m43 (.fieldAddr 2) [x7]).to fun x45 m44 =>
    (evK W call m44 (.store 1) [x45, x44]).to fun _ m45 =>
    (evK W call m45 (.fieldAddr 1) [x3_5]).to fun x46 m46 =>
    (evK W call m46 (.load false 1) [x46]).to fun x47 m47 =>
    (evK W call m47 (.load true 6) [x7]).to fun x48 m48 =>
    (evK W call m48 (.buildSlice 66 6 [(.int .i64 (.ofNat 0)), (.str []), .snil, (.int .i64 (.ofNat 0)), (.int .i64 (.ofNat 0)), (.bool false)] 1 [(0, 6)]) [x48]).to fun x49 m49 =>
    (evK W call m49 (.append 66 6 72) [x47, x49]).to fun x50 m50 =>
    (evK W call m50 (.fieldAddr 1) [x3_5]).to fun x51 m51 =>
    (evK W call m51 (.store 1) [x51, x50]).to fun _ m52 =>
    .norm [x1_5, x2_5, x3_5, x6] m52) 3 [p1, p2, p3, p6] (fun vs m53 => take1 vs fun x1_6 vs => take1 vs fun x2_6 vs => take1 vs fun x3_6 vs => take1 vs fun x6_2 vs => 
   (evK W call m53 (.bin .add) [x6_2, (.int .i64 (.ofNat 1))]).to fun x36 m54 =>
   .norm [x1_6, x2_6, x3_6, x36] m54)) (
    .exit 2 [p2, p3] [x2_5, x3_5] m34)) fuel [x1_4, x2_4, x3_4, (.int .i64 (.ofNat 0))] m29) 2 [p2, p3] (fun vs m55 => take1 vs fun x2_7 vs => take1 vs fun x3_7 vs => 
 (evK W call m55 (.load true 2) [x3_7]).to fun x52 m56 =>
 (evK W call m56 (.store 2) [x2_7, x52]).to fun _ m57 =>
 retX (resV [.cell x2_7 true 2] m57) m57))
theorem D32_eq (W : Prg) (call : Nat → List V → M → R) (fuel : Nat) (x0 : V) (m : M) : exec2 W call fuel F32.body (mkEnv [x0] 0 .nil) m (fun e m => retX (Mu.results e m F32.rs) m) = D32 W call fuel x0 m := by kernel_rfl
theorem get32 : W1.fns.get (key 32) = some F32 := by kernel_rfl
theorem prim32 : W1.prims 32 = none := by kernel_rfl
def D18 (W : Prg) (call : Nat → List V → M → R) (fuel : Nat) (x0 x1 : V) (m : M) : X :=
 (evK W call m (.box 25 2) [x0]).to fun x2 m1 =>
 (evK W call m1 (.box 25 2) [x1]).to fun x3 m2 =>
 (evK W call m2 (.fieldAddr 0) [x2]).to fun x13 m3 =>
 (evK W call m3 (.load false 1) [x13]).to fun x14 m4 =>
 (evK W call m4 .lenL [x14]).to fun x15 m5 =>
 (evK W call m5 (.fieldAddr 0) [x3]).to fun x16 m6 =>
 (evK W call m6 (.load false 1) [x16]).to fun x17 m7 =>
 (evK W call m7 .lenL [x17]).to fun x18 m8 =>
 (evK W call m8 (.eql (.base .int) true) [x15, x18]).to fun x19 m9 =>
 guarded (want x19 false) (evK W call m9 (.fieldAddr 1) [x2]) m9 fun x21 m10 =>
 guarded (want x19 false) (evK W call m10 (.load false 1) [x21]) m10 fun x22 m11 =>
 guarded (want x19 false) (evK W call m11 .lenL [x22]) m11 fun x23 m12 =>
 guarded (want x19 false) (evK W call m12 (.fieldAddr 1) [x3]) m12 fun x24 m13 =>
 guarded (want x19 false) (evK W call m13 (.load false 1) [x24]) m13 fun x25 m14 =>
 guarded (want x19 false) (evK W call m14 .lenL [x25]) m14 fun x26 m15 =>
 guarded (want x19 false) (evK W call m15 (.eql (.base .int) true) [x23, x26]) m15 fun x27 m16 =>
 (evK W call m16 .pick [x19, (.bool true), x27]).to fun x28 m17 =>
 cnd x28 (
  .ret [(.bool false)] m17) (
 blkF (
  loopF (fun vs m18 => take1 vs fun x2_2 vs => take1 vs fun x3_2 vs => take1 vs fun x5 vs => 
   (evK W call m18 (.fieldAddr 0) [x2_2]).to fun x30 m19 =>
   (evK W call m19 (.load false 1) [x30]).to fun x31 m20 =>
   (evK W call m20 .lenL [x31]).to fun x32 m21 =>
   (evK W call m21 (.bin .lss) [x5, x32]).to fun x33 m22 =>
   cnd x33 (
   blkF (
    pureD (some true) (evK W call m22 (.fieldAddr 0) [x2_2]) fun x36 =>
    readD (some true) (evK W call m22 (.load false 1) [x36]) (fun v => chkHist W call (.load false 1) [x36] v 0 []) (fun v => .rd (.load false 1) [x36] v 0) [] fun x37 q22 =>
    pureD (some true) (evK W call m22 (.idxSlice 5) [x37, x5]) fun x39 =>
    readD (some true) (evK W call m22 (.load true 5) [x39]) (fun v => chkHist W call (.load true 5) [x39] v 0 []) (fun v => .rd (.load true 5) [x39] v 0) q22 fun x40 q23 =>
    pureD (some true) (evK W call m22 (.fieldAddr 0) [x3_2]) fun x41 =>
    readD (some true) (evK W call m22 (.load false 1) [x41]) (fun v => chkHist W call (.load false 1) [x41] v 0 []) (fun v => .rd (.load false 1) [x41] v 1) q23 fun x42 q24 =>
    pureD (some true) (evK W call m22 (.idxSlice 5) [x42, x5]) fun x44 =>
    readD (some true) (evK W call m22 (.load true 5) [x44]) (fun v => chkHist W call (.load true 5) [x44] v 0 []) (fun v => .rd (.load true 5) [x44] v 1) q24 fun x45 q25 =>
    allocD (some true) (.alloc 60 [(.int .i64 (.ofNat 0)), (.str []), .snil, (.int .i64 (.ofNat 0)), (.int .i64 (.ofNat 0))]) [] m22 0 q25 fun x6 m27 q27 =>
    allocD (some true) (.alloc 60 [(.int .i64 (.ofNat 0)), (.str []), .snil, (.int .i64 (.ofNat 0)), (.int .i64 (.ofNat 0))]) [] m27 0 q27 fun x7 m29 q29 =>
    effD (chkPend W call m29 0 q29) (some true) (evK W call m29 (.store 5) [x6, x40]) m29 fun _ m31 =>
    effD (chkPend W call m31 1 q29) (some true) (evK W call m31 (.store 5) [x7, x45]) m31 fun _ m32 =>
    ifX (chkPend W call m32 2 q29) (
    (evK W call m32 (.fieldAddr 0) [x6]).to fun x46 m33 =>
    (evK W call m33 (.load false 1) [x46]).to fun x47 m34 =>
    (evK W call m34 (.fieldAddr 0) [x7]).to fun x48 m35 =>
    (evK W call m35 (.load false 1) [x48]).to fun x49 m36 =>
    (evK W call m36 (.eql (.base .int) true) [x47, x49]).to fun x50 m37 =>
    guarded (want x50 false) (evK W call m37 (.fieldAddr 1) [x6]) m37 fun x52 m38 =>
    guarded (want x50 false) (evK W call m38 (.load false 1) [x52]) m38 fun x53 m39 =>
    guarded (want x50 false) (evK W call m39 (.fieldAddr 1) [x7]) m39 fun x54 m40 =>
    guarded (want x50 false) (evK W call m40 (.load false 1) [x54]) m40 fun x55 m41 =>
    guarded (want x50 false) (evK W call m41 (.eql (.base .str) true) [x53, x55]) m41 fun x56 m42 =>
    (evK W call m42 .pick [x50, (.bool true), x56]).to fun x57 m43 =>
    guarded (want x57 false) (evK W call m43 (.fieldAddr 3) [x6]) m43 fun x59 m44 =>
    guarded (want x57 false) (evK W call m44 (.load false 1) [x59]) m44 fun x60 m45 =>
    guarded (want x57 false) (evK W call m45 (.fieldAddr 3) [x7]) m45 fun x61 m46 =>
    guarded (want x57 false) (evK W call m46 (.load false 1) [x61]) m46 fun x62 m47 =>
    guarded (want x57 false) (evK W call m47 (.eql (.base .int) true) [x60, x62]) m47 fun x63 m48 =>
    (evK W call m48 .pick [x57, (.bool true), x63]).to fun x64 m49 =>
    guarded (want x64 false) (evK W call m49 (.fieldAddr 4) [x6]) m49 fun x66 m50 =>
    guarded (want x64 false) (evK W call m50 (.load false 1) [x66]) m50 fun x67 m51 =>
    guarded (want x64 false) (evK W call m51 (.fieldAddr 4) [x7]) m51 fun x68 m52 =>
    guarded (want x64 false) (evK W call m52 (.load false 1) [x68]) m52 fun x69 m53 =>
    guarded (want x64 false) (evK W call m53 (.eql (.base .int) true) [x67, x69]) m53 fun x70 m54 =>
    (evK W call m54 .pick [x64, (.bool true), x70]).to fun x71 m55 =>
    guarded (want x71 false) (evK W call m55 (.fieldAddr 2) [x6]) m55 fun x73 m56 =>
    guarded (want x71 false) (evK W call m56 (.load false 1) [x73]) m56 fun x74 m57 =>
    guarded (want x71 false) (evK W call m57 .lenL [x74]) m57 fun x75 m58 =>
    guarded (want x71 false) (evK W call m58 (.fieldAddr 2) [x7]) m58 fun x76 m59 =>
    guarded (want x71 false) (evK W call m59 (.load false 1) [x76]) m59 fun x77 m60 =>
    guarded (want x71 false) (evK W call m60 .lenL [x77]) m60 fun x78 m61 =>
    guarded (want x71 false) (evK W call m61 (.eql (.base .int) true) [x75, x78]) m61 fun x79 m62 =>
    (evK W call m62 .pick [x71, (.bool true), x79]).to fun x80 m63 =>
    cnd x80 (
     .ret [(.bool false)] m63) (
    blkF (
     loopF (fun vs m64 => take1 vs fun x2_3 vs => take1 vs fun x3_3 vs => take1 vs fun x5_2 vs => take1 vs fun x6_2 vs => take1 vs fun x7_2 vs => take1 vs fun x8 vs => 
      (evK W call m64 (.fieldAddr 2) [x6_2]).to fun x82 m65 =>
      (evK W call m65 (.load false 1) [x82]).to fun x83 m66 =>
      (evK W call m66 .lenL [x83]).to fun x84 m67 =>
      (evK W call m67 (.bin .lss) [x8, x84]).to fun x85 m68 =>
      cnd x85 (
      blkF (
       pureD (some true) (evK W call m68 (.fieldAddr 2) [x6_2]) fun x88 =>
       readD (some true) (evK W call m68 (.load false 1) [x88]) (fun v => chkHist W call (.load false 1) [x88] v 0 []) (fun v => .rd (.load false 1) [x88] v 0) [] fun x89 q68 =>
       pureD (some true) (evK W call m68 (.idxSlice 2) [x89, x8]) fun x91 =>
       readD (some true) (evK W call m68 (.load true 2) [x91]) (fun v => chkHist W call (.load true 2) [x91] v 0 []) (fun v => .rd (.load true 2) [x91] v 0) q68 fun x92 q69 =>
       pureD (some true) (evK W call m68 (.fieldAddr 2) [x7_2]) fun x93 =>
       readD (some true) (evK W call m68 (.load false 1) [x93]) (fun v => chkHist W call (.load false 1) [x93] v 0 []) (fun v => .rd (.load false 1) [x93] v 0) q69 fun x94 q70 =>
       pureD (some true) (evK W call m68 (.idxSlice 2) [x94, x8]) fun x96 =>
       readD (some true) (evK W call m68 (.load true 2) [x96]) (fun v => chkHist W call (.load true 2) [x96] v 0 []) (fun v => .rd (.load true 2) [x96] v 0) q70 fun x97 q71 =>
       readD (some true) (evK W call m68 (.eql (.struct [(0, .int), (1, .int)]) true) [x92, x97]) (fun v => chkHist W call (.eql (.struct [(0, .int), (1, .int)]) true) [x92, x97] v 0 []) (fun v => .rd (.eql (.struct [(0, .int), (1, .int)]) true) [x92, x97] v 0) q71 fun x98 q72 =>
       ifX (chkPend W call m68 0 q72) (
       cnd x98 (
        .ret [(.bool false)] m68) (
       .norm [x2_3, x3_3, x5_2, x6_2, x7_2, x8] m68))) 3 [p2, p3, p5, p6, p7, p8] (fun vs m74 => take1 vs fun x2_4 vs => take1 vs fun x3_4 vs => take1 vs fun x5_3 vs => take1 vs fun x6_3 vs => take1 vs fun x7_3 vs => take1 vs fun x8_2 vs => 
      (evK W call m74 (.bin .add) [x8_2, (.int .i64 (.ofNat 1))]).to fun x87 m75 =>
      .norm [x2_4, x3_4, x5_3, x6_3, x7_3, x87] m75)) (
       .exit 2 [p2, p3, p5] [x2_3, x3_3, x5_2] m68)) fuel [x2_2, x3_2, x5, x6, x7, (.int .i64 (.ofNat 0))] m63) 2 [p2, p3, p5] (fun vs m76 => take1 vs fun x2_5 vs => take1 vs fun x3_5 vs => take1 vs fun x5_4 vs => 
    .norm [x2_5, x3_5, x5_4] m76)))) 1 [p2, p3, p5] (fun vs m77 => take1 vs fun x2_6 vs => take1 vs fun x3_6 vs => take1 vs fun x5_5 vs => 
   (evK W call m77 (.bin .add) [x5_5, (.int .i64 (.ofNat 1))]).to fun x35 m78 =>
   .norm [x2_6, x3_6, x35] m78)) (
    .exit 0 [p2, p3] [x2_2, x3_2] m22)) fuel [x2, x3, (.int .i64 (.ofNat 0))] m17) 0 [p2, p3] (fun vs m79 => take1 vs fun x2_7 vs => take1 vs fun x3_7 vs => 
 blkF (
  loopF (fun vs m80 => take1 vs fun x2_8 vs => take1 vs fun x3_8 vs => take1 vs fun x9 vs => 
   (evK W call m80 (.fieldAddr 1) [x2_8]).to fun x100 m81 =>
   (evK W call m81 (.load false 1) [x100]).to fun x101 m82 =>
   (evK W call m82 .lenL [x101]).to fun x102 m83 =>
   (evK W call m83 (.bin .lss) [x9, x102]).to fun x103 m84 =>
   cnd x103 (
   blkF (
    pureD (some true) (evK W call m84 (.fieldAddr 1) [x2_8]) fun x106 =>
    readD (some true) (evK W call m84 (.load false 1) [x106]) (fun v => chkHist W call (.load false 1) [x106] v 0 []) (fun v => .rd (.load false 1) [x106] v 0) [] fun x107 q84 =>
    pureD (some true) (evK W call m84 (.idxSlice 6) [x107, x9]) fun x109 =>
    readD (some true) (evK W call m84 (.load true 6) [x109]) (fun v => chkHist W call (.load true 6) [x109] v 0 []) (fun v => .rd (.load true 6) [x109] v 0) q84 fun x110 q85 =>
    pureD (some true) (evK W call m84 (.fieldAddr 1) [x3_8]) fun x111 =>
    readD (some true) (evK W call m84 (.load false 1) [x111]) (fun v => chkHist W call (.load false 1) [x111] v 0 []) (fun v => .rd (.load false 1) [x111] v 1) q85 fun x112 q86 =>
    pureD (some true) (evK W call m84 (.idxSlice 6) [x112, x9]) fun x114 =>
    readD (some true) (evK W call m84 (.load true 6) [x114]) (fun v => chkHist W call (.load true 6) [x114] v 0 []) (fun v => .rd (.load true 6) [x114] v 1) q86 fun x115 q87 =>
    allocD (some true) (.alloc 66 [(.int .i64 (.ofNat 0)), (.str []), .snil, (.int .i64 (.ofNat 0)), (.int .i64 (.ofNat 0)), (.bool false)]) [] m84 0 q87 fun x10 m89 q89 =>
    allocD (some true) (.alloc 66 [(.int .i64 (.ofNat 0)), (.str []), .snil, (.int .i64 (.ofNat 0)), (.int .i64 (.ofNat 0)), (.bool false)]) [] m89 0 q89 fun x11 m91 q91 =>
    effD (chkPend W call m91 0 q91) (some true) (evK W call m91 (.store 6) [x10, x110]) m91 fun _ m93 =>
    effD (chkPend W call m93 1 q91) (some true) (evK W call m93 (.store 6) [x11, x115]) m93 fun _ m94 =>
    ifX (chkPend W call m94 2 q91) (
    (evK W call m94 (.fieldAddr 0) [x10]).to fun x116 m95 =>
    (evK W call m95 (.load false 1) [x116]).to fun x117 m96 =>
    (evK W call m96 (.fieldAddr 0) [x11]).to fun x118 m97 =>
    (evK W call m97 (.load false 1) [x118]).to fun x119 m98 =>
    (evK W call m98 (.eql (.base .int) true) [x117, x119]).to fun x120 m99 =>
    guarded (want x120 false) (evK W call m99 (.fieldAddr 1) [x10]) m99 fun x122 m100 =>
    guarded (want x120 false) (evK W call m100 (.load false 1) [x122]) m100 fun x123 m101 =>
    guarded (want x120 false) (evK W call m101 (.fieldAddr 1) [x11]) m101 fun x124 m102 =>
    guarded (want x120 false) (evK W call m102 (.load false 1) [x124]) m102 fun x125 m103 =>
    guarded (want x120 false) (evK W call m103 (.eql (.base .str) true) [x123, x125]) m103 fun x126 m104 =>
    (evK W call m104 .pick [x120, (.bool true), x126]).to fun x127 m105 =>
    guarded (want x127 false) (evK W call m105 (.fieldAddr 3) [x10]) m105 fun x129 m106 =>
    guarded (want x127 false) (evK W call m106 (.load false 1) [x129]) m106 fun x130 m107 =>
    guarded (want x127 false) (evK W call m107 (.fieldAddr 3) [x11]) m107 fun x131 m108 =>
    guarded (want x127 false) (evK W call m108 (.load false 1) [x131]) m108 fun x132 m109 =>
    guarded (want x127 false) (evK W call m109 (.eql (.base .int) true) [x130, x132]) m109 fun x133 m110 =>
    (evK W call m110 .pick [x127, (.bool true), x133]).to fun x134 m111 =>
    guarded (want x134 false) (evK W call m111 (.fieldAddr 4) [x10]) m111 fun x136 m112 =>
    guarded (want x134 false) (evK W call m112 (.load false 1) [x136]) m112 fun x137 m113 =>
    guarded (want x134 false) (evK W call m113 (.fieldAddr 4) [x11]) m113 fun x138 m114 =>
    guarded (want x134 false) (evK W call m114 (.load false 1) [x138]) m114 fun x139 m115 =>
    guarded (want x134 false) (evK W call m115 (.eql (.base .int) true) [x137, x139]) m115 fun x140 m116 =>
    (evK W call m116 .pick [x134, (.bool true), x140]).to fun x141 m117 =>
    guarded (want x141 false) (evK W call m117 (.fieldAddr 5) [x10]) m117 fun x143 m118 =>
    guarded (want x141 false) (evK W call m118 (.load false 1) [x143]) m118 fun x144 m119 =>
    guarded (want x141 false) (evK W call m119 (.fieldAddr 5) [x11]) m119 fun x145 m120 =>
    guarded (want x141 false) (evK W call m120 (.load false 1) [x145]) m120 fun x146 m121 =>
    guarded (want x141 false) (evK W call m121 (.eql (.base .bool) true) [x144, x146]) m121 fun x147 m122 =>
    (evK W call m122 .pick [x141, (.bool true), x147]).to fun x148 m123 =>
    guarded (want x148 false) (evK W call m123 (.fieldAddr 2) [x10]) m123 fun x150 m124 =>
    guarded (want x148 false) (evK W call m124 (.load false 1) [x150]) m124 fun x151 m125 =>
    guarded (want x148 false) (evK W call m125 .lenL [x151]) m125 fun x152 m126 =>
    guarded (want x148 false) (evK W call m126 (.fieldAddr 2) [x11]) m126 fun x153 m127 =>
    guarded (want x148 false) (evK W call m127 (.load false 1) [x153]) m127 fun x154 m128 =>
    guarded (want x148 false) (evK W call m128 .lenL [x154]) m128 fun x155 m129 =>
    guarded (want x148 false) (evK W call m129 (.eql (.base .int) true) [x152, x155]) m129 fun x156 m130 =>
    (evK W call m130 .pick [x148, (.bool true), x156]).to fun x157 m131 =>
    cnd x157 (
     .ret [(.bool false)] m131) (
    blkF (
     loopF (fun vs m132 => take1 vs fun x2_9 vs => take1 vs fun x3_9 vs => take1 vs fun x9_2 vs => take1 vs fun x10_2 vs => take1 vs fun x11_2 vs => take1 vs fun x12 vs => 
      (evK W call m132 (.fieldAddr 2) [x10_2]).to fun x159 m133 =>
      (evK W call m133 (.load false 1) [x159]).to fun x160 m134 =>
      (evK W call m134 .lenL [x160]).to fun x161 m135 =>
      (evK W call m135 (.bin .lss) [x12, x161]).to fun x162 m136 =>
      cnd x162 (
      blkF (
       pureD (some true) (evK W call m136 (.fieldAddr 2) [x10_2]) fun x165 =>
       readD (some true) (evK W call m136 (.load false 1) [x165]) (fun v => chkHist W call (.load false 1) [x165] v 0 []) (fun v => .rd (.load false 1) [x165] v 0) [] fun x166 q136 =>
       pureD (some true) (evK W call m136 (.idxSlice 7) [x166, x12]) fun x168 =>
       readD (some true) (evK W call m136 (.load true 7) [x168]) (fun v => chkHist W call (.load true 7) [x168] v 0 []) (fun v => .rd (.load true 7) [x168] v 0) q136 fun x169 q137 =>
       pureD (some true) (evK W call m136 (.fieldAddr 2) [x11_2]) fun x170 =>
       readD (some true) (evK W call m136 (.load false 1) [x170]) (fun v => chkHist W call (.load false 1) [x170] v 0 []) (fun v => .rd (.load false 1) [x170] v 0) q137 fun x171 q138 =>
       pureD (some true) (evK W call m136 (.idxSlice 7) [x171, x12]) fun x173 =>
       readD (some true) (evK W call m136 (.load true 7) [x173]) (fun v => chkHist W call (.load true 7) [x173] v 0 []) (fun v => .rd (.load true 7) [x173] v 0) q138 fun x174 q139 =>
       readD (some true) (evK W call m136 (.eql (.struct [(0, .int), (1, .int), (2, .int), (3, .int), (4, .int), (5, .int), (6, .int)]) true) [x169, x174]) (fun v => chkHist W call (.eql (.struct [(0, .int), (1, .int), (2, .int), (3, .int), (4, .int), (5, .int), (6, .int)]) true) [x169, x174] v 0 []) (fun v => .rd (.eql (.struct [(0, .int), (1, .int), (2, .int), (3, .int), (4, .int), (5, .int), (6, .int)]) true) [x169, x174] v 0) q139 fun x175 q140 =>
       ifX (chkPend W call m136 0 q140) (
       cnd x175 (
        .ret [(.bool false)] m136) (
       .norm [x2_9, x3_9, x9_2, x10_2, x11_2, x12] m136))) 7 [p2, p3, p9, p10, p11, p12] (fun vs m142 => take1 vs fun x2_10 vs => take1 vs fun x3_10 vs => take1 vs fun x9_3 vs => take1 vs fun x10_3 vs => take1 vs fun x11_3 vs => take1 vs fun x12_2 vs => 
      (evK W call m142 (.bin .add) [x12_2, (.int .i64 (.ofNat 1))]).to fun x164 m143 =>
      .norm [x2_10, x3_10, x9_3, x10_3, x11_3, x164] m143)) (
       .exit 6 [p2, p3, p9] [x2_9, x3_9, x9_2] m136)) fuel [x2_8, x3_8, x9, x10, x11, (.int .i64 (.ofNat 0))] m131) 6 [p2, p3, p9] (fun vs m144 => take1 vs fun x2_11 vs => take1 vs fun x3_11 vs => take1 vs fun x9_4 vs => 
    .norm [x2_11, x3_11, x9_4] m144)))) 5 [p2, p3, p9] (fun vs m145 => take1 vs fun x2_12 vs => take1 vs fun x3_12 vs => take1 vs fun x9_5 vs => 
   (evK W call m145 (.bin .add) [x9_5, (.int .i64 (.ofNat 1))]).to fun x105 m146 =>
   .norm [x2_12, x3_12, x105] m146)) (
    .exit 4 [] [] m84)) fuel [x2_7, x3_7, (.int .i64 (.ofNat 0))] m79) 4 [] (fun vs m147 => 
 .ret [(.bool true)] m147)))
theorem D18_eq (W : Prg) (call : Nat → List V → M → R) (fuel : Nat) (x0 x1 : V) (m : M) : exec2 W call fuel F18.body (mkEnv [x0, x1] 0 .nil) m (fun e m => retX (Mu.results e m F18.rs) m) = D18 W call fuel x0 x1 m := by kernel_rfl
theorem get18 : W1.fns.get (key 18) = some F18 := by kernel_rfl
theorem prim18 : W1.prims 18 = none := by kernel_rfl
def D14 (W : Prg) (call : Nat → List V → M → R) (fuel : Nat) (x0 : V) (m : M) : X :=
 (evK W call m (.box 25 2) [x0]).to fun x1 m1 =>
 (evK W call m1 (.alloc 25 [.snil, .snil]) []).to fun x2 m2 =>
 (evK W call m2 (.load true 2) [x1]).to fun x3 m3 =>
 (evK W call m3 .call [(.fn 32 [] []), x3]).to fun x4 m4 =>
 (evK W call m4 (.store 2) [x2, x4]).to fun _ m5 =>
 retX (resV [.cell x2 true 2] m5) m5
theorem D14_eq (W : Prg) (call : Nat → List V → M → R) (fuel : Nat) (x0 : V) (m : M) : exec2 W call fuel F14.body (mkEnv [x0] 0 .nil) m (fun e m => retX (Mu.results e m F14.rs) m) = D14 W call fuel x0 m := by kernel_rfl
theorem get14 : W1.fns.get (key 14) = some F14 := by kernel_rfl
theorem prim14 : W1.prims 14 = none := by kernel_rfl
def D7 (W : Prg) (call : Nat → List V → M → R) (fuel : Nat) (x0 : V) (m : M) : X :=
 (evK W call m (.box 25 2) [x0]).to fun x1 m1 =>
 (evK W call m1 (.load true 2) [x1]).to fun x4 m2 =>
 (evK W call m2 .call [(.fn 14 [] []), x4]).to fun x5 m3 =>
 (evK W call m3 (.alloc 25 [.snil, .snil]) []).to fun x3 m4 =>
 (evK W call m4 (.store 2) [x3, x5]).to fun _ m5 =>
 effD (chkPend W call m5 0 []) (some true) (evK W call m5 .call [(.fn 15 [] [])]) m5 fun x6 m6 =>
 readD (want x6 true) (evK W call m6 (.load true 2) [x3]) (fun v => chkHist W call (.load true 2) [x3] v 1 [m5]) (fun v => .rd (.load true 2) [x3] v 1) [] fun x8 q6 =>
 effD (chkPend W call m6 1 q6) (want x6 true) (evK W call m6 .call [(.fn 24 [] []), x8]) m6 fun x9 m8 =>
 readD (want x6 true) (evK W call m8 (.load true 2) [x1]) (fun v => chkHist W call (.load true 2) [x1] v 1 [m6, m5]) (fun v => .rd (.load true 2) [x1] v 2) q6 fun x10 q8 =>
 effD (chkPend W call m8 2 q8) (want x6 true) (evK W call m8 .call [(.fn 25 [] []), x10]) m8 fun x11 m10 =>
 effD (chkPend W call m10 3 q8) (want x6 true) (evK W call m10 .call [(.fn 18 [] []), x9, x11]) m10 fun x12 m11 =>
 pureD (some true) (evK W call m11 .pick [x6, x12, (.bool false)]) fun x13 =>
 readD (want x13 true) (evK W call m11 (.load true 2) [x3]) (fun v => chkHist W call (.load true 2) [x3] v 4 [m10, m8, m6, m5]) (fun v => .rd (.load true 2) [x3] v 4) q8 fun x15 q11 =>
 readD (want x13 true) (evK W call m11 (.load true 2) [x1]) (fun v => chkHist W call (.load true 2) [x1] v 4 [m10, m8, m6, m5]) (fun v => .rd (.load true 2) [x1] v 4) q11 fun x16 q12 =>
 effD (chkPend W call m11 4 q12) (want x13 true) (evK W call m11 .call [(.fn 18 [] []), x15, x16]) m11 fun x17 m14 =>
 pureD (some true) (evK W call m14 .pick [x13, x17, (.bool false)]) fun x18 =>
 ifX (chkPend W call m14 5 q12) (
 .ret [x18] m14)
theorem D7_eq (W : Prg) (call : Nat → List V → M → R) (fuel : Nat) (x0 : V) (m : M) : exec2 W call fuel F7.body (mkEnv [x0] 0 .nil) m (fun e m => retX (Mu.results e m F7.rs) m) = D7 W call fuel x0 m := by kernel_rfl
theorem get7 : W1.fns.get (key 7) = some F7 := by kernel_rfl
theorem prim7 : W1.prims 7 = none := by kernel_rfl
def D101 (W : Prg) (call : Nat → List V → M → R) (fuel : Nat) (x0 : V) (m : M) : X :=
 (evK W call m (.eql .slc false) [x0, .snil]).to fun x4 m1 =>
 cnd x4 (
  .ret [.snil] m1) (
 (evK W call m1 (.buildSlice 60 5 [(.int .i64 (.ofNat 0)), (.str []), .snil, (.int .i64 (.ofNat 0)), (.int .i64 (.ofNat 0))] 0 []) []).to fun x5 m2 =>
 (evK W call m2 (.append 60 5 64) [x5, x0]).to fun x7 m3 =>
 .ret [x7] m3)
theorem D101_eq (W : Prg) (call : Nat → List V → M → R) (fuel : Nat) (x0 : V) (m : M) : exec2 W call fuel F101.body (mkEnv [x0] 0 .nil) m (fun e m => retX (Mu.results e m F101.rs) m) = D101 W call fuel x0 m := by kernel_rfl
theorem get101 : W1.fns.get (key 101) = some F101 := by kernel_rfl
theorem prim101 : W1.prims 101 = none := by kernel_rfl
def D102 (W : Prg) (call : Nat → List V → M → R) (fuel : Nat) (x0 : V) (m : M) : X :=
 (evK W call m (.eql .slc false) [x0, .snil]).to fun x4 m1 =>
 cnd x4 (
  .ret [.snil] m1) (
 (evK W call m1 (.buildSlice 66 6 [(.int .i64 (.ofNat 0)), (.str []), .snil, (.int .i64 (.ofNat 0)), (.int .i64 (.ofNat 0)), (.bool false)] 0 []) []).to fun x5 m2 =>
 (evK W call m2 (.append 66 6 72) [x5, x0]).to fun x7 m3 =>
 .ret [x7] m3)
theorem D102_eq (W : Prg) (call : Nat → List V → M → R) (fuel : Nat) (x0 : V) (m : M) : exec2 W call fuel F102.body (mkEnv [x0] 0 .nil) m (fun e m => retX (Mu.results e m F102.rs) m) = D102 W call fuel x0 m := by kernel_rfl
theorem get102 : W1.fns.get (key 102) = some F102 := by kernel_rfl
theorem prim102 : W1.prims 102 = none := by kernel_rfl
def D103 (W : Prg) (call : Nat → List V → M → R) (fuel : Nat) (x0 : V) (m : M) : X :=
 (evK W call m (.eql .slc false) [x0, .snil]).to fun x4 m1 =>
 cnd x4 (
  .ret [.snil] m1) (
 (evK W call m1 (.buildSlice 73 2 [(.int .i64 (.ofNat 0)), (.int .i64 (.ofNat 0))] 0 []) []).to fun x5 m2 =>
 (evK W call m2 (.append 73 2 16) [x5, x0]).to fun x7 m3 =>
 .ret [x7] m3)
theorem D103_eq (W : Prg) (call : Nat → List V → M → R) (fuel : Nat) (x0 : V) (m : M) : exec2 W call fuel F103.body (mkEnv [x0] 0 .nil) m (fun e m => retX (Mu.results e m F103.rs) m) = D103 W call fuel x0 m := by kernel_rfl
theorem get103 : W1.fns.get (key 103) = some F103 := by kernel_rfl
theorem prim103 : W1.prims 103 = none := by kernel_rfl
def D104 (W : Prg) (call : Nat → List V → M → R) (fuel : Nat) (x0 : V) (m : M) : X :=
 (evK W call m (.eql .slc false) [x0, .snil]).to fun x4 m1 =>
 cnd x4 (
  .ret [.snil] m1) (
 (evK W call m1 (.buildSlice 82 7 [(.int .i64 (.ofNat 0)), (.int .i64 (.ofNat 0)), (.int .i64 (.ofNat 0)), (.int .i64 (.ofNat 0)), (.int .i64 (.ofNat 0)), (.int .i64 (.ofNat 0)), (.int .i64 (.ofNat 0))] 0 []) []).to fun x5 m2 =>
 (evK W call m2 (.append 82 7 56) [x5, x0]).to fun x7 m3 =>
 .ret [x7] m3)
theorem D104_eq (W : Prg) (call : Nat → List V → M → R) (fuel : Nat) (x0 : V) (m : M) : exec2 W call fuel F104.body (mkEnv [x0] 0 .nil) m (fun e m => retX (Mu.results e m F104.rs) m) = D104 W call fuel x0 m := by kernel_rfl
theorem get104 : W1.fns.get (key 104) = some F104 := by kernel_rfl
theorem prim104 : W1.prims 104 = none := by kernel_rfl
end Go.Proofs.YtaepllhjnbencaaGreatDoor.Ir

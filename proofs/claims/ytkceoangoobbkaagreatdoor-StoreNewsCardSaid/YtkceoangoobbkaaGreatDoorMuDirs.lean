/- The functions in the direct style: printed by a program of this session (dir.py). -/
import Derived.Test.YtkceoangoobbkaaGreatDoorMuOkf
import Derived.Test.YtkceoangoobbkaaGreatDoorMuGo
import Derived.KernelRfl
set_option linter.unusedVariables false
set_option maxRecDepth 100000
namespace Go.Proofs.YtkceoangoobbkaaGreatDoor.Ir
open Mu
def D3 (W : Prg) (call : Nat → List V → M → R) (fuel : Nat) (x0 : V) (m : M) : X :=
 (evK W call m (.box 23 3) [x0]).to fun x1 m1 =>
 (evK W call m1 (.load true 3) [x1]).to fun x6 m2 =>
 (evK W call m2 .call [(.fn 4 [] []), x6]).to fun x7 m3 =>
 (evK W call m3 (.extract 0) [x7]).to fun x8 m4 =>
 (evK W call m4 (.extract 1) [x7]).to fun x9 m5 =>
 pureD (want x9 true) (evK W call m5 .move [x8]) fun x12 =>
 readD (want x9 true) (evK W call m5 (.eql .ptr false) [x12, .pnil]) (fun v => chkHist W call (.eql .ptr false) [x12, .pnil] v 0 []) (fun v => .rd (.eql .ptr false) [x12, .pnil] v 0) [] fun x13 q5 =>
 pureD (want x9 true) (evK W call m5 .move [x13]) fun x14 =>
 pureD (want x14 false) (evK W call m5 .move [x8]) fun x15 =>
 pureD (want x14 false) (evK W call m5 .nilCheck [x15]) fun x16 =>
 pureD (want x14 false) (evK W call m5 (.fieldAddr 0) [x16]) fun x17 =>
 pureD (want x14 false) (evK W call m5 (.idxArr 1 2) [x17, (.int .i64 (.ofNat 0))]) fun x18 =>
 readD (want x14 false) (evK W call m5 (.load false 1) [x18]) (fun v => chkHist W call (.load false 1) [x18] v 0 []) (fun v => .rd (.load false 1) [x18] v 0) q5 fun x19 q6 =>
 effD (chkPend W call m5 0 q6) (want x14 false) (evK W call m5 .call [(.fn 5 [] []), x19]) m5 fun x20 m8 =>
 readD (want x14 false) (evK W call m8 (.load true 3) [x1]) (fun v => chkHist W call (.load true 3) [x1] v 0 [m5]) (fun v => .rd (.load true 3) [x1] v 1) q6 fun x21 q8 =>
 readD (want x14 false) (evK W call m8 (.eql (.struct [(0, .int), (1, .int), (2, .int)]) false) [x20, x21]) (fun v => chkHist W call (.eql (.struct [(0, .int), (1, .int), (2, .int)]) false) [x20, x21] v 1 [m5]) (fun v => .rd (.eql (.struct [(0, .int), (1, .int), (2, .int)]) false) [x20, x21] v 1) q8 fun x22 q9 =>
 pureD (want x14 false) (evK W call m8 .move [x22]) fun x23 =>
 pureD (want x23 true) (evK W call m8 .move [x8]) fun x24 =>
 pureD (want x23 true) (evK W call m8 .nilCheck [x24]) fun x25 =>
 pureD (want x23 true) (evK W call m8 (.fieldAddr 0) [x25]) fun x26 =>
 pureD (want x23 true) (evK W call m8 (.idxArr 1 2) [x26, (.int .i64 (.ofNat 0))]) fun x27 =>
 readD (want x23 true) (evK W call m8 (.load false 1) [x27]) (fun v => chkHist W call (.load false 1) [x27] v 1 [m5]) (fun v => .rd (.load false 1) [x27] v 1) q9 fun x28 q10 =>
 effD (chkPend W call m8 1 q10) (want x23 true) (evK W call m8 .call [(.fn 7 [] []), x28]) m8 fun x29 m12 =>
 pureD (want x23 true) (evK W call m12 (.build [.snil, .snil] []) []) fun x30 =>
 effD (chkPend W call m12 2 q10) (want x23 true) (evK W call m12 .call [(.fn 6 [] []), x29, x30]) m12 fun x31 m13 =>
 pureD (want x14 false) (evK W call m13 .pick [x23, x31, (.bool false)]) fun x32 =>
 pureD (want x9 true) (evK W call m13 .pick [x14, (.bool true), x32]) fun x33 =>
 pureD (some true) (evK W call m13 .pick [x9, x33, (.bool false)]) fun x34 =>
 effD (chkPend W call m13 3 q10) (want x34 true) (evK W call m13 .call [(.fn 8 [] [])]) m13 fun x36 m14 =>
 pureD (some true) (evK W call m14 .pick [x34, x36, (.bool false)]) fun x37 =>
 ifX (chkPend W call m14 4 q10) (
 .ret [x37] m14)
theorem D3_eq (W : Prg) (call : Nat → List V → M → R) (fuel : Nat) (x0 : V) (m : M) : exec2 W call fuel F3.body (mkEnv [x0] 0 .nil) m (fun e m => retX (Mu.results e m F3.rs) m) = D3 W call fuel x0 m := by kernel_rfl
def D4 (W : Prg) (call : Nat → List V → M → R) (fuel : Nat) (x0 : V) (m : M) : X :=
 (evK W call m (.box 23 3) [x0]).to fun x1 m1 =>
 (evK W call m1 (.build [.pnil, .pnil, (.int .i64 (.ofNat 0)), (.int .i64 (.ofNat 0)), (.int .i64 (.ofNat 0)), .snil, .snil, .snil, (.int .i64 (.ofNat 0)), (.int .i64 (.ofNat 0)), (.int .i64 (.ofNat 0)), (.int .i64 (.ofNat 0)), (.int .i64 (.ofNat 0)), (.int .i64 (.ofNat 0)), .snil, .snil, .snil, (.int .i64 (.ofNat 0)), (.int .i64 (.ofNat 0)), (.int .i64 (.ofNat 0))] []) []).to fun x10 m2 =>
 (evK W call m2 (.box 36 20) [x10]).to fun x11 m3 =>
 blkF (
  loopF (fun vs m4 => take1 vs fun x1_2 vs => take1 vs fun x4 vs => take1 vs fun x5 vs => 
   (evK W call m4 (.bin .lss) [x5, (.int .i64 (.ofNat 2))]).to fun x13 m5 =>
   cnd x13 (
   blkF (
    (evK W call m5 (.load true 3) [x1_2]).to fun x17 m6 =>
    (evK W call m6 .call [(.fn 9 [] []), x17]).to fun x18 m7 =>
    (evK W call m7 (.extract 0) [x18]).to fun x19 m8 =>
    (evK W call m8 (.extract 1) [x18]).to fun x20 m9 =>
    (evK W call m9 (.load true 3) [x1_2]).to fun x22 m10 =>
    (evK W call m10 .call [(.fn 10 [] []), x22]).to fun x23 m11 =>
    (evK W call m11 (.extract 0) [x23]).to fun x24 m12 =>
    (evK W call m12 (.extract 1) [x23]).to fun x25 m13 =>
    (evK W call m13 (.alloc 33 [(.int .i64 (.ofNat 0)), (.int .i64 (.ofNat 0)), (.int .i64 (.ofNat 0)), .snil, .snil, .snil, (.int .i64 (.ofNat 0)), (.int .i64 (.ofNat 0)), (.int .i64 (.ofNat 0))]) []).to fun x8 m14 =>
    (evK W call m14 (.store 9) [x8, x24]).to fun _ m15 =>
    (evK W call m15 .call [(.fn 11 [] []), x20]).to fun x27 m16 =>
    (evK W call m16 (.eql (.base .int) true) [x27, x25]).to fun x29 m17 =>
    guarded (want x29 false) (evK W call m17 .move [x19]) m17 fun x31 m18 =>
    guarded (want x29 false) (evK W call m18 (.eql .ptr false) [x31, .pnil]) m18 fun x32 m19 =>
    guarded (want x29 false) (evK W call m19 .move [x25]) m19 fun x33 m20 =>
    guarded (want x29 false) (evK W call m20 (.eql (.base .int) true) [x33, (.int .i64 (.ofNat 0))]) m20 fun x34 m21 =>
    guarded (want x29 false) (evK W call m21 (.eql (.base .bool) true) [x32, x34]) m21 fun x35 m22 =>
    (evK W call m22 .pick [x29, (.bool true), x35]).to fun x36 m23 =>
    cnd x36 (
     .ret [.pnil, (.bool false)] m23) (
    (evK W call m23 (.eql .ptr false) [x19, .pnil]).to fun x38 m24 =>
    cnd x38 (
     .ret [.pnil, (.bool true)] m24) (
    (evK W call m24 .nilCheck [x4]).to fun x42 m25 =>
    (evK W call m25 (.fieldAddr 0) [x42]).to fun x43 m26 =>
    (evK W call m26 (.idxArr 1 2) [x43, x5]).to fun x44 m27 =>
    (evK W call m27 (.store 1) [x44, x19]).to fun _ m28 =>
    readD (some true) (evK W call m28 (.load true 9) [x8]) (fun v => chkHist W call (.load true 9) [x8] v 0 []) (fun v => .rd (.load true 9) [x8] v 0) [] fun x47 q28 =>
    pureD (some true) (evK W call m28 .nilCheck [x4]) fun x48 =>
    pureD (some true) (evK W call m28 (.fieldAddr 2) [x48]) fun x49 =>
    pureD (some true) (evK W call m28 (.idxArr 9 2) [x49, x5]) fun x50 =>
    effD (chkPend W call m28 0 q28) (some true) (evK W call m28 (.store 9) [x50, x47]) m28 fun _ m30 =>
    ifX (chkPend W call m30 1 q28) (
    .norm [x1_2, x4, x5] m30)))) 1 [p1, p4, p5] (fun vs m31 => take1 vs fun x1_3 vs => take1 vs fun x4_2 vs => take1 vs fun x5_2 vs => 
   (evK W call m31 (.bin .add) [x5_2, (.int .i64 (.ofNat 1))]).to fun x15 m32 =>
   .norm [x1_3, x4_2, x15] m32)) (
    .exit 0 [p4] [x4] m5)) fuel [x1, x11, (.int .i64 (.ofNat 0))] m3) 0 [p4] (fun vs m33 => take1 vs fun x4_3 vs => 
 .ret [x4_3, (.bool true)] m33)
theorem D4_eq (W : Prg) (call : Nat → List V → M → R) (fuel : Nat) (x0 : V) (m : M) : exec2 W call fuel F4.body (mkEnv [x0] 0 .nil) m (fun e m => retX (Mu.results e m F4.rs) m) = D4 W call fuel x0 m := by kernel_rfl
def D5 (W : Prg) (call : Nat → List V → M → R) (fuel : Nat) (x0 : V) (m : M) : X :=
 (evK W call m (.alloc 23 [(.int .i64 (.ofNat 0)), (.int .i64 (.ofNat 0)), (.int .i64 (.ofNat 0))]) []).to fun x2 m1 =>
 (evK W call m1 .nilCheck [x0]).to fun x4 m2 =>
 (evK W call m2 (.fieldAddr 0) [x4]).to fun x5 m3 =>
 (evK W call m3 (.load true 3) [x5]).to fun x6 m4 =>
 (evK W call m4 (.store 3) [x2, x6]).to fun _ m5 =>
 retX (resV [.cell x2 true 3] m5) m5
theorem D5_eq (W : Prg) (call : Nat → List V → M → R) (fuel : Nat) (x0 : V) (m : M) : exec2 W call fuel F5.body (mkEnv [x0] 0 .nil) m (fun e m => retX (Mu.results e m F5.rs) m) = D5 W call fuel x0 m := by kernel_rfl
def D6 (W : Prg) (call : Nat → List V → M → R) (fuel : Nat) (x0 x1 : V) (m : M) : X :=
 (evK W call m (.box 40 2) [x0]).to fun x2 m1 =>
 (evK W call m1 (.box 40 2) [x1]).to fun x3 m2 =>
 (evK W call m2 (.fieldAddr 0) [x2]).to fun x12 m3 =>
 (evK W call m3 (.load false 1) [x12]).to fun x13 m4 =>
 (evK W call m4 .lenL [x13]).to fun x14 m5 =>
 (evK W call m5 (.fieldAddr 0) [x3]).to fun x15 m6 =>
 (evK W call m6 (.load false 1) [x15]).to fun x16 m7 =>
 (evK W call m7 .lenL [x16]).to fun x17 m8 =>
 (evK W call m8 (.eql (.base .int) true) [x14, x17]).to fun x18 m9 =>
 guarded (want x18 false) (evK W call m9 (.fieldAddr 1) [x2]) m9 fun x20 m10 =>
 guarded (want x18 false) (evK W call m10 (.load false 1) [x20]) m10 fun x21 m11 =>
 guarded (want x18 false) (evK W call m11 .lenL [x21]) m11 fun x22 m12 =>
 guarded (want x18 false) (evK W call m12 (.fieldAddr 1) [x3]) m12 fun x23 m13 =>
 guarded (want x18 false) (evK W call m13 (.load false 1) [x23]) m13 fun x24 m14 =>
 guarded (want x18 false) (evK W call m14 .lenL [x24]) m14 fun x25 m15 =>
 guarded (want x18 false) (evK W call m15 (.eql (.base .int) true) [x22, x25]) m15 fun x26 m16 =>
 (evK W call m16 .pick [x18, (.bool true), x26]).to fun x27 m17 =>
 cnd x27 (
  .ret [(.bool false)] m17) (
 blkF (
  loopF (fun vs m18 => take1 vs fun x2_2 vs => take1 vs fun x3_2 vs => take1 vs fun x5 vs => 
   (evK W call m18 (.fieldAddr 0) [x2_2]).to fun x29 m19 =>
   (evK W call m19 (.load false 1) [x29]).to fun x30 m20 =>
   (evK W call m20 .lenL [x30]).to fun x31 m21 =>
   (evK W call m21 (.bin .lss) [x5, x31]).to fun x32 m22 =>
   cnd x32 (
   blkF (
    pureD (some true) (evK W call m22 (.fieldAddr 0) [x2_2]) fun x35 =>
    readD (some true) (evK W call m22 (.load false 1) [x35]) (fun v => chkHist W call (.load false 1) [x35] v 0 []) (fun v => .rd (.load false 1) [x35] v 0) [] fun x36 q22 =>
    pureD (some true) (evK W call m22 (.idxSlice 5) [x36, x5]) fun x38 =>
    readD (some true) (evK W call m22 (.load true 5) [x38]) (fun v => chkHist W call (.load true 5) [x38] v 0 []) (fun v => .rd (.load true 5) [x38] v 0) q22 fun x39 q23 =>
    pureD (some true) (evK W call m22 (.fieldAddr 0) [x3_2]) fun x40 =>
    readD (some true) (evK W call m22 (.load false 1) [x40]) (fun v => chkHist W call (.load false 1) [x40] v 0 []) (fun v => .rd (.load false 1) [x40] v 1) q23 fun x41 q24 =>
    pureD (some true) (evK W call m22 (.idxSlice 5) [x41, x5]) fun x43 =>
    readD (some true) (evK W call m22 (.load true 5) [x43]) (fun v => chkHist W call (.load true 5) [x43] v 0 []) (fun v => .rd (.load true 5) [x43] v 1) q24 fun x44 q25 =>
    allocD (some true) (.alloc 57 [(.int .i64 (.ofNat 0)), (.str []), .snil, (.int .i64 (.ofNat 0)), (.int .i64 (.ofNat 0))]) [] m22 0 q25 fun x6 m27 q27 =>
    allocD (some true) (.alloc 57 [(.int .i64 (.ofNat 0)), (.str []), .snil, (.int .i64 (.ofNat 0)), (.int .i64 (.ofNat 0))]) [] m27 0 q27 fun x7 m29 q29 =>
    effD (chkPend W call m29 0 q29) (some true) (evK W call m29 (.store 5) [x6, x39]) m29 fun _ m31 =>
    effD (chkPend W call m31 1 q29) (some true) (evK W call m31 (.store 5) [x7, x44]) m31 fun _ m32 =>
    ifX (chkPend W call m32 2 q29) (
    (evK W call m32 (.fieldAddr 0) [x6]).to fun x45 m33 =>
    (evK W call m33 (.load false 1) [x45]).to fun x46 m34 =>
    (evK W call m34 (.fieldAddr 0) [x7]).to fun x47 m35 =>
    (evK W call m35 (.load false 1) [x47]).to fun x48 m36 =>
    (evK W call m36 (.eql (.base .int) true) [x46, x48]).to fun x49 m37 =>
    guarded (want x49 false) (evK W call m37 (.fieldAddr 1) [x6]) m37 fun x51 m38 =>
    guarded (want x49 false) (evK W call m38 (.load false 1) [x51]) m38 fun x52 m39 =>
    guarded (want x49 false) (evK W call m39 (.fieldAddr 1) [x7]) m39 fun x53 m40 =>
    guarded (want x49 false) (evK W call m40 (.load false 1) [x53]) m40 fun x54 m41 =>
    guarded (want x49 false) (evK W call m41 (.eql (.base .str) true) [x52, x54]) m41 fun x55 m42 =>
    (evK W call m42 .pick [x49, (.bool true), x55]).to fun x56 m43 =>
    guarded (want x56 false) (evK W call m43 (.fieldAddr 3) [x6]) m43 fun x58 m44 =>
    guarded (want x56 false) (evK W call m44 (.load false 1) [x58]) m44 fun x59 m45 =>
    guarded (want x56 false) (evK W call m45 (.fieldAddr 3) [x7]) m45 fun x60 m46 =>
    guarded (want x56 false) (evK W call m46 (.load false 1) [x60]) m46 fun x61 m47 =>
    guarded (want x56 false) (evK W call m47 (.eql (.base .int) true) [x59, x61]) m47 fun x62 m48 =>
    (evK W call m48 .pick [x56, (.bool true), x62]).to fun x63 m49 =>
    guarded (want x63 false) (evK W call m49 (.fieldAddr 4) [x6]) m49 fun x65 m50 =>
    guarded (want x63 false) (evK W call m50 (.load false 1) [x65]) m50 fun x66 m51 =>
    guarded (want x63 false) (evK W call m51 (.fieldAddr 4) [x7]) m51 fun x67 m52 =>
    guarded (want x63 false) (evK W call m52 (.load false 1) [x67]) m52 fun x68 m53 =>
    guarded (want x63 false) (evK W call m53 (.eql (.base .int) true) [x66, x68]) m53 fun x69 m54 =>
    (evK W call m54 .pick [x63, (.bool true), x69]).to fun x70 m55 =>
    guarded (want x70 false) (evK W call m55 (.fieldAddr 2) [x6]) m55 fun x72 m56 =>
    guarded (want x70 false) (evK W call m56 (.load false 1) [x72]) m56 fun x73 m57 =>
    guarded (want x70 false) (evK W call m57 .lenL [x73]) m57 fun x74 m58 =>
    guarded (want x70 false) (evK W call m58 (.fieldAddr 2) [x7]) m58 fun x75 m59 =>
    guarded (want x70 false) (evK W call m59 (.load false 1) [x75]) m59 fun x76 m60 =>
    guarded (want x70 false) (evK W call m60 .lenL [x76]) m60 fun x77 m61 =>
    guarded (want x70 false) (evK W call m61 (.eql (.base .int) true) [x74, x77]) m61 fun x78 m62 =>
    (evK W call m62 .pick [x70, (.bool true), x78]).to fun x79 m63 =>
    cnd x79 (
     .ret [(.bool false)] m63) (
    blkF (
     loopF (fun vs m64 => take1 vs fun x2_3 vs => take1 vs fun x3_3 vs => take1 vs fun x5_2 vs => take1 vs fun x6_2 vs => take1 vs fun x7_2 vs => take1 vs fun x8 vs => 
      (evK W call m64 (.fieldAddr 2) [x6_2]).to fun x81 m65 =>
      (evK W call m65 (.load false 1) [x81]).to fun x82 m66 =>
      (evK W call m66 .lenL [x82]).to fun x83 m67 =>
      (evK W call m67 (.bin .lss) [x8, x83]).to fun x84 m68 =>
      cnd x84 (
      blkF (
       pureD (some true) (evK W call m68 (.fieldAddr 2) [x6_2]) fun x87 =>
       readD (some true) (evK W call m68 (.load false 1) [x87]) (fun v => chkHist W call (.load false 1) [x87] v 0 []) (fun v => .rd (.load false 1) [x87] v 0) [] fun x88 q68 =>
       pureD (some true) (evK W call m68 (.idxSlice 2) [x88, x8]) fun x90 =>
       readD (some true) (evK W call m68 (.load true 2) [x90]) (fun v => chkHist W call (.load true 2) [x90] v 0 []) (fun v => .rd (.load true 2) [x90] v 0) q68 fun x91 q69 =>
       pureD (some true) (evK W call m68 (.fieldAddr 2) [x7_2]) fun x92 =>
       readD (some true) (evK W call m68 (.load false 1) [x92]) (fun v => chkHist W call (.load false 1) [x92] v 0 []) (fun v => .rd (.load false 1) [x92] v 0) q69 fun x93 q70 =>
       pureD (some true) (evK W call m68 (.idxSlice 2) [x93, x8]) fun x95 =>
       readD (some true) (evK W call m68 (.load true 2) [x95]) (fun v => chkHist W call (.load true 2) [x95] v 0 []) (fun v => .rd (.load true 2) [x95] v 0) q70 fun x96 q71 =>
       readD (some true) (evK W call m68 (.eql (.struct [(0, .int), (1, .int)]) true) [x91, x96]) (fun v => chkHist W call (.eql (.struct [(0, .int), (1, .int)]) true) [x91, x96] v 0 []) (fun v => .rd (.eql (.struct [(0, .int), (1, .int)]) true) [x91, x96] v 0) q71 fun x97 q72 =>
       ifX (chkPend W call m68 0 q72) (
       cnd x97 (
        .ret [(.bool false)] m68) (
       .norm [x2_3, x3_3, x5_2, x6_2, x7_2, x8] m68))) 3 [p2, p3, p5, p6, p7, p8] (fun vs m74 => take1 vs fun x2_4 vs => take1 vs fun x3_4 vs => take1 vs fun x5_3 vs => take1 vs fun x6_3 vs => take1 vs fun x7_3 vs => take1 vs fun x8_2 vs => 
      (evK W call m74 (.bin .add) [x8_2, (.int .i64 (.ofNat 1))]).to fun x86 m75 =>
      .norm [x2_4, x3_4, x5_3, x6_3, x7_3, x86] m75)) (
       .exit 2 [p2, p3, p5] [x2_3, x3_3, x5_2] m68)) fuel [x2_2, x3_2, x5, x6, x7, (.int .i64 (.ofNat 0))] m63) 2 [p2, p3, p5] (fun vs m76 => take1 vs fun x2_5 vs => take1 vs fun x3_5 vs => take1 vs fun x5_4 vs => 
    .norm [x2_5, x3_5, x5_4] m76)))) 1 [p2, p3, p5] (fun vs m77 => take1 vs fun x2_6 vs => take1 vs fun x3_6 vs => take1 vs fun x5_5 vs => 
   (evK W call m77 (.bin .add) [x5_5, (.int .i64 (.ofNat 1))]).to fun x34 m78 =>
   .norm [x2_6, x3_6, x34] m78)) (
    .exit 0 [p2, p3] [x2_2, x3_2] m22)) fuel [x2, x3, (.int .i64 (.ofNat 0))] m17) 0 [p2, p3] (fun vs m79 => take1 vs fun x2_7 vs => take1 vs fun x3_7 vs => 
 blkF (
  loopF (fun vs m80 => take1 vs fun x2_8 vs => take1 vs fun x3_8 vs => take1 vs fun x9 vs => 
   (evK W call m80 (.fieldAddr 1) [x2_8]).to fun x99 m81 =>
   (evK W call m81 (.load false 1) [x99]).to fun x100 m82 =>
   (evK W call m82 .lenL [x100]).to fun x101 m83 =>
   (evK W call m83 (.bin .lss) [x9, x101]).to fun x102 m84 =>
   cnd x102 (
   blkF (
    pureD (some true) (evK W call m84 (.fieldAddr 1) [x2_8]) fun x105 =>
    readD (some true) (evK W call m84 (.load false 1) [x105]) (fun v => chkHist W call (.load false 1) [x105] v 0 []) (fun v => .rd (.load false 1) [x105] v 0) [] fun x106 q84 =>
    pureD (some true) (evK W call m84 (.idxSlice 6) [x106, x9]) fun x108 =>
    readD (some true) (evK W call m84 (.load true 6) [x108]) (fun v => chkHist W call (.load true 6) [x108] v 0 []) (fun v => .rd (.load true 6) [x108] v 0) q84 fun x109 q85 =>
    pureD (some true) (evK W call m84 (.fieldAddr 1) [x3_8]) fun x110 =>
    readD (some true) (evK W call m84 (.load false 1) [x110]) (fun v => chkHist W call (.load false 1) [x110] v 0 []) (fun v => .rd (.load false 1) [x110] v 1) q85 fun x111 q86 =>
    pureD (some true) (evK W call m84 (.idxSlice 6) [x111, x9]) fun x113 =>
    readD (some true) (evK W call m84 (.load true 6) [x113]) (fun v => chkHist W call (.load true 6) [x113] v 0 []) (fun v => .rd (.load true 6) [x113] v 1) q86 fun x114 q87 =>
    allocD (some true) (.alloc 62 [(.int .i64 (.ofNat 0)), (.str []), .snil, (.int .i64 (.ofNat 0)), (.int .i64 (.ofNat 0)), (.bool false)]) [] m84 0 q87 fun x10 m89 q89 =>
    allocD (some true) (.alloc 62 [(.int .i64 (.ofNat 0)), (.str []), .snil, (.int .i64 (.ofNat 0)), (.int .i64 (.ofNat 0)), (.bool false)]) [] m89 0 q89 fun x11 m91 q91 =>
    effD (chkPend W call m91 0 q91) (some true) (evK W call m91 (.store 6) [x10, x109]) m91 fun _ m93 =>
    effD (chkPend W call m93 1 q91) (some true) (evK W call m93 (.store 6) [x11, x114]) m93 fun _ m94 =>
    ifX (chkPend W call m94 2 q91) (
    (evK W call m94 (.fieldAddr 0) [x10]).to fun x115 m95 =>
    (evK W call m95 (.load false 1) [x115]).to fun x116 m96 =>
    (evK W call m96 (.fieldAddr 0) [x11]).to fun x117 m97 =>
    (evK W call m97 (.load false 1) [x117]).to fun x118 m98 =>
    (evK W call m98 (.eql (.base .int) true) [x116, x118]).to fun x119 m99 =>
    guarded (want x119 false) (evK W call m99 (.fieldAddr 1) [x10]) m99 fun x121 m100 =>
    guarded (want x119 false) (evK W call m100 (.load false 1) [x121]) m100 fun x122 m101 =>
    guarded (want x119 false) (evK W call m101 (.fieldAddr 1) [x11]) m101 fun x123 m102 =>
    guarded (want x119 false) (evK W call m102 (.load false 1) [x123]) m102 fun x124 m103 =>
    guarded (want x119 false) (evK W call m103 (.eql (.base .str) true) [x122, x124]) m103 fun x125 m104 =>
    (evK W call m104 .pick [x119, (.bool true), x125]).to fun x126 m105 =>
    guarded (want x126 false) (evK W call m105 (.fieldAddr 3) [x10]) m105 fun x128 m106 =>
    guarded (want x126 false) (evK W call m106 (.load false 1) [x128]) m106 fun x129 m107 =>
    guarded (want x126 false) (evK W call m107 (.fieldAddr 3) [x11]) m107 fun x130 m108 =>
    guarded (want x126 false) (evK W call m108 (.load false 1) [x130]) m108 fun x131 m109 =>
    guarded (want x126 false) (evK W call m109 (.eql (.base .int) true) [x129, x131]) m109 fun x132 m110 =>
    (evK W call m110 .pick [x126, (.bool true), x132]).to fun x133 m111 =>
    guarded (want x133 false) (evK W call m111 (.fieldAddr 4) [x10]) m111 fun x135 m112 =>
    guarded (want x133 false) (evK W call m112 (.load false 1) [x135]) m112 fun x136 m113 =>
    guarded (want x133 false) (evK W call m113 (.fieldAddr 4) [x11]) m113 fun x137 m114 =>
    guarded (want x133 false) (evK W call m114 (.load false 1) [x137]) m114 fun x138 m115 =>
    guarded (want x133 false) (evK W call m115 (.eql (.base .int) true) [x136, x138]) m115 fun x139 m116 =>
    (evK W call m116 .pick [x133, (.bool true), x139]).to fun x140 m117 =>
    guarded (want x140 false) (evK W call m117 (.fieldAddr 5) [x10]) m117 fun x142 m118 =>
    guarded (want x140 false) (evK W call m118 (.load false 1) [x142]) m118 fun x143 m119 =>
    guarded (want x140 false) (evK W call m119 (.fieldAddr 5) [x11]) m119 fun x144 m120 =>
    guarded (want x140 false) (evK W call m120 (.load false 1) [x144]) m120 fun x145 m121 =>
    guarded (want x140 false) (evK W call m121 (.eql (.base .bool) true) [x143, x145]) m121 fun x146 m122 =>
    (evK W call m122 .pick [x140, (.bool true), x146]).to fun x147 m123 =>
    guarded (want x147 false) (evK W call m123 (.fieldAddr 2) [x10]) m123 fun x149 m124 =>
    guarded (want x147 false) (evK W call m124 (.load false 1) [x149]) m124 fun x150 m125 =>
    guarded (want x147 false) (evK W call m125 (.fieldAddr 2) [x11]) m125 fun x151 m126 =>
    guarded (want x147 false) (evK W call m126 (.load false 1) [x151]) m126 fun x152 m127 =>
    guarded (want x147 false) (evK W call m127 .call [(.fn 12 [] []), x150, x152]) m127 fun x153 m128 =>
    guarded (want x147 false) (evK W call m128 .not [x153]) m128 fun x154 m129 =>
    (evK W call m129 .pick [x147, (.bool true), x154]).to fun x155 m130 =>
    cnd x155 (
     .ret [(.bool false)] m130) (
    .norm [x2_8, x3_8, x9] m130))) 5 [p2, p3, p9] (fun vs m131 => take1 vs fun x2_9 vs => take1 vs fun x3_9 vs => take1 vs fun x9_2 vs => 
   (evK W call m131 (.bin .add) [x9_2, (.int .i64 (.ofNat 1))]).to fun x104 m132 =>
   .norm [x2_9, x3_9, x104] m132)) (
    .exit 4 [] [] m84)) fuel [x2_7, x3_7, (.int .i64 (.ofNat 0))] m79) 4 [] (fun vs m133 => 
 .ret [(.bool true)] m133)))
theorem D6_eq (W : Prg) (call : Nat → List V → M → R) (fuel : Nat) (x0 x1 : V) (m : M) : exec2 W call fuel F6.body (mkEnv [x0, x1] 0 .nil) m (fun e m => retX (Mu.results e m F6.rs) m) = D6 W call fuel x0 x1 m := by kernel_rfl
def D7 (W : Prg) (call : Nat → List V → M → R) (fuel : Nat) (x0 : V) (m : M) : X :=
 (evK W call m (.alloc 40 [.snil, .snil]) []).to fun x2 m1 =>
 (evK W call m1 (.alloc 40 [.snil, .snil]) []).to fun x3 m2 =>
 (evK W call m2 .nilCheck [x0]).to fun x11 m3 =>
 (evK W call m3 (.fieldAddr 3) [x11]).to fun x12 m4 =>
 (evK W call m4 (.load false 1) [x12]).to fun x13 m5 =>
 (evK W call m5 .call [(.fn 13 [] []), x13]).to fun x14 m6 =>
 (evK W call m6 .lenL [x14]).to fun x15 m7 =>
 blkF (
  loopF (fun vs m8 => take1 vs fun x0 vs => take1 vs fun x2_2 vs => take1 vs fun x3_2 vs => take1 vs fun x14_2 vs => take1 vs fun x15_2 vs => take1 vs fun x16 vs => 
   (evK W call m8 (.bin .lss) [x16, x15_2]).to fun x17 m9 =>
   cnd x17 (
   blkF (
    (evK W call m9 (.idxSlice 1) [x14_2, x16]).to fun x18 m10 =>
    (evK W call m10 (.load false 1) [x18]).to fun x19 m11 =>
    (evK W call m11 .nilCheck [x0]).to fun x21 m12 =>
    (evK W call m12 (.fieldAddr 3) [x21]).to fun x22 m13 =>
    (evK W call m13 (.load false 1) [x22]).to fun x23 m14 =>
    (evK W call m14 .call [(.fn 14 [] []), x23, x19]).to fun x25 m15 =>
    pureD (some true) (evK W call m15 (.fieldAddr 0) [x3_2]) fun x26 =>
    readD (some true) (evK W call m15 (.load false 1) [x26]) (fun v => chkHist W call (.load false 1) [x26] v 0 []) (fun v => .rd (.load false 1) [x26] v 2) [] fun x27 q15 =>
    pureD (some true) (evK W call m15 .nilCheck [x25]) fun x29 =>
    pureD (some true) (evK W call m15 (.fieldAddr 0) [x29]) fun x30 =>
    readD (some true) (evK W call m15 (.load false 1) [x30]) (fun v => chkHist W call (.load false 1) [x30] v 0 []) (fun v => .rd (.load false 1) [x30] v 1) q15 fun x31 q16 =>
    pureD (some true) (evK W call m15 .nilCheck [x25]) fun x33 =>
    pureD (some true) (evK W call m15 (.fieldAddr 1) [x33]) fun x34 =>
    readD (some true) (evK W call m15 (.load false 1) [x34]) (fun v => chkHist W call (.load false 1) [x34] v 0 []) (fun v => .rd (.load false 1) [x34] v 1) q16 fun x35 q17 =>
    pureD (some true) (evK W call m15 .nilCheck [x25]) fun x37 =>
    pureD (some true) (evK W call m15 (.fieldAddr 2) [x37]) fun x38 =>
    readD (some true) (evK W call m15 (.load false 1) [x38]) (fun v => chkHist W call (.load false 1) [x38] v 0 []) (fun v => .rd (.load false 1) [x38] v 0) q17 fun x39 q18 =>
    effD (chkPend W call m15 0 q18) (some true) (evK W call m15 (.append 59 2) [.snil, x39]) m15 fun x40 m20 =>
    pureD (some true) (evK W call m20 .nilCheck [x25]) fun x42 =>
    pureD (some true) (evK W call m20 (.fieldAddr 3) [x42]) fun x43 =>
    readD (some true) (evK W call m20 (.load false 1) [x43]) (fun v => chkHist W call (.load false 1) [x43] v 0 [m15]) (fun v => .rd (.load false 1) [x43] v 1) q18 fun x44 q20 =>
    pureD (some true) (evK W call m20 .nilCheck [x25]) fun x46 =>
    pureD (some true) (evK W call m20 (.fieldAddr 4) [x46]) fun x47 =>
    readD (some true) (evK W call m20 (.load false 1) [x47]) (fun v => chkHist W call (.load false 1) [x47] v 0 [m15]) (fun v => .rd (.load false 1) [x47] v 1) q20 fun x48 q21 =>
    pureD (some true) (evK W call m20 (.build [(.int .i64 (.ofNat 0)), (.str []), .snil, (.int .i64 (.ofNat 0)), (.int .i64 (.ofNat 0))] [(0, 1), (1, 1), (2, 1), (3, 1), (4, 1)]) [x31, x35, x40, x44, x48]) fun x49 =>
    effD (chkPend W call m20 1 q21) (some true) (evK W call m20 (.buildSlice 57 5 [(.int .i64 (.ofNat 0)), (.str []), .snil, (.int .i64 (.ofNat 0)), (.int .i64 (.ofNat 0))] 1 [(0, 5)]) [x49]) m20 fun x50 m23 =>
    effD (chkPend W call m23 2 q21) (some true) (evK W call m23 (.append 57 5) [x27, x50]) m23 fun x51 m24 =>
    pureD (some true) (evK W call m24 (.fieldAddr 0) [x3_2]) fun x52 =>
    effD (chkPend W call m24 3 q21) (some true) (evK W call m24 (.store 1) [x52, x51]) m24 fun _ m25 =>
    ifX (chkPend W call m25 4 q21) (
    .norm [x0, x2_2, x3_2, x14_2, x15_2, x16] m25)) 1 [p0, p2, p3, p14, p15, p16] (fun vs m26 => take1 vs fun x0_2 vs => take1 vs fun x2_3 vs => take1 vs fun x3_3 vs => take1 vs fun x14_3 vs => take1 vs fun x15_3 vs => take1 vs fun x16_2 vs => 
   (evK W call m26 (.bin .add) [x16_2, (.int .i64 (.ofNat 1))]).to fun x53 m27 =>
   .norm [x0_2, x2_3, x3_3, x14_3, x15_3, x53] m27)) (
    .exit 0 [p0, p2, p3] [x0, x2_2, x3_2] m9)) fuel [x0, x2, x3, x14, x15, (.int .i64 (.ofNat 0))] m7) 0 [p0, p2, p3] (fun vs m28 => take1 vs fun x0_3 vs => take1 vs fun x2_4 vs => take1 vs fun x3_4 vs => 
 (evK W call m28 .nilCheck [x0_3]).to fun x55 m29 =>
 (evK W call m29 (.fieldAddr 4) [x55]).to fun x56 m30 =>
 (evK W call m30 (.load false 1) [x56]).to fun x57 m31 =>
 (evK W call m31 .call [(.fn 15 [] []), x57]).to fun x58 m32 =>
 (evK W call m32 .lenL [x58]).to fun x59 m33 =>
 blkF (
  loopF (fun vs m34 => take1 vs fun x0_4 vs => take1 vs fun x2_5 vs => take1 vs fun x3_5 vs => take1 vs fun x58_2 vs => take1 vs fun x59_2 vs => take1 vs fun x60 vs => 
   (evK W call m34 (.bin .lss) [x60, x59_2]).to fun x61 m35 =>
   cnd x61 (
   blkF (
    (evK W call m35 (.idxSlice 1) [x58_2, x60]).to fun x62 m36 =>
    (evK W call m36 (.load false 1) [x62]).to fun x63 m37 =>
    (evK W call m37 .nilCheck [x0_4]).to fun x65 m38 =>
    (evK W call m38 (.fieldAddr 4) [x65]).to fun x66 m39 =>
    (evK W call m39 (.load false 1) [x66]).to fun x67 m40 =>
    (evK W call m40 .call [(.fn 16 [] []), x67, x63]).to fun x69 m41 =>
    pureD (some true) (evK W call m41 (.fieldAddr 1) [x3_5]) fun x70 =>
    readD (some true) (evK W call m41 (.load false 1) [x70]) (fun v => chkHist W call (.load false 1) [x70] v 0 []) (fun v => .rd (.load false 1) [x70] v 2) [] fun x71 q41 =>
    pureD (some true) (evK W call m41 .nilCheck [x69]) fun x73 =>
    pureD (some true) (evK W call m41 (.fieldAddr 0) [x73]) fun x74 =>
    readD (some true) (evK W call m41 (.load false 1) [x74]) (fun v => chkHist W call (.load false 1) [x74] v 0 []) (fun v => .rd (.load false 1) [x74] v 1) q41 fun x75 q42 =>
    pureD (some true) (evK W call m41 .nilCheck [x69]) fun x77 =>
    pureD (some true) (evK W call m41 (.fieldAddr 1) [x77]) fun x78 =>
    readD (some true) (evK W call m41 (.load false 1) [x78]) (fun v => chkHist W call (.load false 1) [x78] v 0 []) (fun v => .rd (.load false 1) [x78] v 1) q42 fun x79 q43 =>
    pureD (some true) (evK W call m41 .nilCheck [x69]) fun x81 =>
    pureD (some true) (evK W call m41 (.fieldAddr 2) [x81]) fun x82 =>
    readD (some true) (evK W call m41 (.load false 1) [x82]) (fun v => chkHist W call (.load false 1) [x82] v 0 []) (fun v => .rd (.load false 1) [x82] v 0) q43 fun x83 q44 =>
    effD (chkPend W call m41 0 q44) (some true) (evK W call m41 (.append 91 7) [.snil, x83]) m41 fun x84 m46 =>
    pureD (some true) (evK W call m46 .nilCheck [x69]) fun x86 =>
    pureD (some true) (evK W call m46 (.fieldAddr 3) [x86]) fun x87 =>
    readD (some true) (evK W call m46 (.load false 1) [x87]) (fun v => chkHist W call (.load false 1) [x87] v 0 [m41]) (fun v => .rd (.load false 1) [x87] v 1) q44 fun x88 q46 =>
    pureD (some true) (evK W call m46 .nilCheck [x69]) fun x90 =>
    pureD (some true) (evK W call m46 (.fieldAddr 4) [x90]) fun x91 =>
    readD (some true) (evK W call m46 (.load false 1) [x91]) (fun v => chkHist W call (.load false 1) [x91] v 0 [m41]) (fun v => .rd (.load false 1) [x91] v 1) q46 fun x92 q47 =>
    pureD (some true) (evK W call m46 .nilCheck [x69]) fun x94 =>
    pureD (some true) (evK W call m46 (.fieldAddr 5) [x94]) fun x95 =>
    readD (some true) (evK W call m46 (.load false 1) [x95]) (fun v => chkHist W call (.load false 1) [x95] v 0 [m41]) (fun v => .rd (.load false 1) [x95] v 1) q47 fun x96 q48 =>
    pureD (some true) (evK W call m46 (.build [(.int .i64 (.ofNat 0)), (.str []), .snil, (.int .i64 (.ofNat 0)), (.int .i64 (.ofNat 0)), (.bool false)] [(0, 1), (1, 1), (2, 1), (3, 1), (4, 1), (5, 1)]) [x75, x79, x84, x88, x92, x96]) fun x97 =>
    effD (chkPend W call m46 1 q48) (some true) (evK W call m46 (.buildSlice 62 6 [(.int .i64 (.ofNat 0)), (.str []), .snil, (.int .i64 (.ofNat 0)), (.int .i64 (.ofNat 0)), (.bool false)] 1 [(0, 6)]) [x97]) m46 fun x98 m50 =>
    effD (chkPend W call m50 2 q48) (some true) (evK W call m50 (.append 62 6) [x71, x98]) m50 fun x99 m51 =>
    pureD (some true) (evK W call m51 (.fieldAddr 1) [x3_5]) fun x100 =>
    effD (chkPend W call m51 3 q48) (some true) (evK W call m51 (.store 1) [x100, x99]) m51 fun _ m52 =>
    ifX (chkPend W call m52 4 q48) (
    .norm [x0_4, x2_5, x3_5, x58_2, x59_2, x60] m52)) 3 [p0, p2, p3, p58, p59, p60] (fun vs m53 => take1 vs fun x0_5 vs => take1 vs fun x2_6 vs => take1 vs fun x3_6 vs => take1 vs fun x58_3 vs => take1 vs fun x59_3 vs => take1 vs fun x60_2 vs => 
   (evK W call m53 (.bin .add) [x60_2, (.int .i64 (.ofNat 1))]).to fun x101 m54 =>
   .norm [x0_5, x2_6, x3_6, x58_3, x59_3, x101] m54)) (
    .exit 2 [p2, p3] [x2_5, x3_5] m35)) fuel [x0_3, x2_4, x3_4, x58, x59, (.int .i64 (.ofNat 0))] m33) 2 [p2, p3] (fun vs m55 => take1 vs fun x2_7 vs => take1 vs fun x3_7 vs => 
 (evK W call m55 (.load true 2) [x3_7]).to fun x102 m56 =>
 (evK W call m56 (.store 2) [x2_7, x102]).to fun _ m57 =>
 retX (resV [.cell x2_7 true 2] m57) m57))
theorem D7_eq (W : Prg) (call : Nat → List V → M → R) (fuel : Nat) (x0 : V) (m : M) : exec2 W call fuel F7.body (mkEnv [x0] 0 .nil) m (fun e m => retX (Mu.results e m F7.rs) m) = D7 W call fuel x0 m := by kernel_rfl
def D9 (W : Prg) (call : Nat → List V → M → R) (fuel : Nat) (x0 : V) (m : M) : X :=
 (evK W call m (.box 23 3) [x0]).to fun x1 m1 =>
 (evK W call m1 (.fieldAddr 0) [x1]).to fun x4 m2 =>
 (evK W call m2 (.load false 1) [x4]).to fun x5 m3 =>
 (evK W call m3 .call [(.fn 21 [] []), x5]).to fun x6 m4 =>
 (evK W call m4 .not [x6]).to fun x7 m5 =>
 guarded (want x7 false) (evK W call m5 (.fieldAddr 1) [x1]) m5 fun x9 m6 =>
 guarded (want x7 false) (evK W call m6 (.load false 1) [x9]) m6 fun x10 m7 =>
 guarded (want x7 false) (evK W call m7 .call [(.fn 21 [] []), x10]) m7 fun x11 m8 =>
 guarded (want x7 false) (evK W call m8 .not [x11]) m8 fun x12 m9 =>
 (evK W call m9 .pick [x7, (.bool true), x12]).to fun x13 m10 =>
 guarded (want x13 false) (evK W call m10 (.fieldAddr 2) [x1]) m10 fun x15 m11 =>
 guarded (want x13 false) (evK W call m11 (.load false 1) [x15]) m11 fun x16 m12 =>
 guarded (want x13 false) (evK W call m12 (.bin .lss) [x16, (.int .i64 (.ofNat 1))]) m12 fun x17 m13 =>
 (evK W call m13 .pick [x13, (.bool true), x17]).to fun x18 m14 =>
 guarded (want x18 false) (evK W call m14 (.fieldAddr 2) [x1]) m14 fun x20 m15 =>
 guarded (want x18 false) (evK W call m15 (.load false 1) [x20]) m15 fun x21 m16 =>
 guarded (want x18 false) (evK W call m16 (.bin .gtr) [x21, (.int .i64 (.ofNat 65536))]) m16 fun x22 m17 =>
 (evK W call m17 .pick [x18, (.bool true), x22]).to fun x23 m18 =>
 cnd x23 (
  .ret [.pnil, (.int .i64 (.ofNat 1))] m18) (
 readD (some true) (evK W call m18 (.load true 3) [x1]) (fun v => chkHist W call (.load true 3) [x1] v 0 []) (fun v => .rd (.load true 3) [x1] v 3) [] fun x24 q18 =>
 effD (chkPend W call m18 0 q18) (some true) (evK W call m18 .call [(.fn 22 [] [])]) m18 fun x25 m20 =>
 effD (chkPend W call m20 1 q18) (some true) (evK W call m20 .call [(.fn 23 [] [])]) m20 fun x26 m21 =>
 effD (chkPend W call m21 2 q18) (some true) (evK W call m21 .call [(.fn 24 [] [])]) m21 fun x27 m22 =>
 pureD (some true) (evK W call m22 (.build [(.int .i64 (.ofNat 0)), (.int .i64 (.ofNat 0)), (.int .i64 (.ofNat 0)), .pnil, .pnil, .pnil] [(0, 3), (3, 1), (4, 1), (5, 1)]) [x24, x25, x26, x27]) fun x28 =>
 effD (chkPend W call m22 3 q18) (some true) (evK W call m22 (.box 54 6) [x28]) m22 fun x29 m23 =>
 ifX (chkPend W call m23 4 q18) (
 .ret [x29, (.int .i64 (.ofNat 0))] m23))
theorem D9_eq (W : Prg) (call : Nat → List V → M → R) (fuel : Nat) (x0 : V) (m : M) : exec2 W call fuel F9.body (mkEnv [x0] 0 .nil) m (fun e m => retX (Mu.results e m F9.rs) m) = D9 W call fuel x0 m := by kernel_rfl
def D10 (W : Prg) (call : Nat → List V → M → R) (fuel : Nat) (x0 : V) (m : M) : X :=
 (evK W call m (.box 23 3) [x0]).to fun x1 m1 =>
 (evK W call m1 (.alloc 33 [(.int .i64 (.ofNat 0)), (.int .i64 (.ofNat 0)), (.int .i64 (.ofNat 0)), .snil, .snil, .snil, (.int .i64 (.ofNat 0)), (.int .i64 (.ofNat 0)), (.int .i64 (.ofNat 0))]) []).to fun x2 m2 =>
 (evK W call m2 (.fieldAddr 0) [x1]).to fun x4 m3 =>
 (evK W call m3 (.load false 1) [x4]).to fun x5 m4 =>
 (evK W call m4 (.bin .lss) [x5, (.int .i64 (.ofNat 1))]).to fun x6 m5 =>
 guarded (want x6 false) (evK W call m5 (.fieldAddr 0) [x1]) m5 fun x8 m6 =>
 guarded (want x6 false) (evK W call m6 (.load false 1) [x8]) m6 fun x9 m7 =>
 guarded (want x6 false) (evK W call m7 (.bin .gtr) [x9, (.int .i64 (.ofNat 1000))]) m7 fun x10 m8 =>
 (evK W call m8 .pick [x6, (.bool true), x10]).to fun x11 m9 =>
 guarded (want x11 false) (evK W call m9 (.fieldAddr 1) [x1]) m9 fun x13 m10 =>
 guarded (want x11 false) (evK W call m10 (.load false 1) [x13]) m10 fun x14 m11 =>
 guarded (want x11 false) (evK W call m11 (.bin .lss) [x14, (.int .i64 (.ofNat 1))]) m11 fun x15 m12 =>
 (evK W call m12 .pick [x11, (.bool true), x15]).to fun x16 m13 =>
 guarded (want x16 false) (evK W call m13 (.fieldAddr 1) [x1]) m13 fun x18 m14 =>
 guarded (want x16 false) (evK W call m14 (.load false 1) [x18]) m14 fun x19 m15 =>
 guarded (want x16 false) (evK W call m15 (.bin .gtr) [x19, (.int .i64 (.ofNat 1000))]) m15 fun x20 m16 =>
 (evK W call m16 .pick [x16, (.bool true), x20]).to fun x21 m17 =>
 guarded (want x21 false) (evK W call m17 (.fieldAddr 2) [x1]) m17 fun x23 m18 =>
 guarded (want x21 false) (evK W call m18 (.load false 1) [x23]) m18 fun x24 m19 =>
 guarded (want x21 false) (evK W call m19 (.bin .lss) [x24, (.int .i64 (.ofNat 1))]) m19 fun x25 m20 =>
 (evK W call m20 .pick [x21, (.bool true), x25]).to fun x26 m21 =>
 guarded (want x26 false) (evK W call m21 (.fieldAddr 2) [x1]) m21 fun x28 m22 =>
 guarded (want x26 false) (evK W call m22 (.load false 1) [x28]) m22 fun x29 m23 =>
 guarded (want x26 false) (evK W call m23 (.bin .gtr) [x29, (.int .i64 (.ofNat 65536))]) m23 fun x30 m24 =>
 (evK W call m24 .pick [x26, (.bool true), x30]).to fun x31 m25 =>
 cnd x31 (
  (evK W call m25 (.build [(.int .i64 (.ofNat 0)), (.int .i64 (.ofNat 0)), (.int .i64 (.ofNat 0)), .snil, .snil, .snil, (.int .i64 (.ofNat 0)), (.int .i64 (.ofNat 0)), (.int .i64 (.ofNat 0))] []) []).to fun x32 m26 =>
  (evK W call m26 (.store 9) [x2, x32]).to fun _ m27 =>
  retX (resV [.cell x2 true 9, .tmp (.int .i64 (.ofNat 1))] m27) m27) (
 (evK W call m25 (.load true 3) [x1]).to fun x33 m28 =>
 (evK W call m28 (.build [(.int .i64 (.ofNat 0)), (.int .i64 (.ofNat 0)), (.int .i64 (.ofNat 0)), .snil, .snil, .snil, (.int .i64 (.ofNat 0)), (.int .i64 (.ofNat 0)), (.int .i64 (.ofNat 0))] [(0, 3)]) [x33]).to fun x34 m29 =>
 (evK W call m29 (.store 9) [x2, x34]).to fun _ m30 =>
 retX (resV [.cell x2 true 9, .tmp (.int .i64 (.ofNat 0))] m30) m30)
theorem D10_eq (W : Prg) (call : Nat → List V → M → R) (fuel : Nat) (x0 : V) (m : M) : exec2 W call fuel F10.body (mkEnv [x0] 0 .nil) m (fun e m => retX (Mu.results e m F10.rs) m) = D10 W call fuel x0 m := by kernel_rfl
def D11 (W : Prg) (call : Nat → List V → M → R) (fuel : Nat) (x0 : V) (m : M) : X :=
 .ret [x0] m
theorem D11_eq (W : Prg) (call : Nat → List V → M → R) (fuel : Nat) (x0 : V) (m : M) : exec2 W call fuel F11.body (mkEnv [x0] 0 .nil) m (fun e m => retX (Mu.results e m F11.rs) m) = D11 W call fuel x0 m := by kernel_rfl
def D21 (W : Prg) (call : Nat → List V → M → R) (fuel : Nat) (x0 : V) (m : M) : X :=
 (evK W call m (.bin .geq) [x0, (.int .i64 (.ofNat 1))]).to fun x4 m1 =>
 guarded (want x4 true) (evK W call m1 .move [x0]) m1 fun x6 m2 =>
 guarded (want x4 true) (evK W call m2 (.bin .leq) [x6, (.int .i64 (.ofNat 1000))]) m2 fun x7 m3 =>
 (evK W call m3 .pick [x4, x7, (.bool false)]).to fun x8 m4 =>
 .ret [x8] m4
theorem D21_eq (W : Prg) (call : Nat → List V → M → R) (fuel : Nat) (x0 : V) (m : M) : exec2 W call fuel F21.body (mkEnv [x0] 0 .nil) m (fun e m => retX (Mu.results e m F21.rs) m) = D21 W call fuel x0 m := by kernel_rfl
def D22 (W : Prg) (call : Nat → List V → M → R) (fuel : Nat) (m : M) : X :=
 (evK W call m .mkMap []).to fun x1 m1 =>
 (evK W call m1 (.build [.mnil, (.int .i64 (.ofNat 0))] [(0, 1)]) [x1]).to fun x2 m2 =>
 (evK W call m2 (.box 94 2) [x2]).to fun x3 m3 =>
 .ret [x3] m3
theorem D22_eq (W : Prg) (call : Nat → List V → M → R) (fuel : Nat) (m : M) : exec2 W call fuel F22.body (mkEnv [] 0 .nil) m (fun e m => retX (Mu.results e m F22.rs) m) = D22 W call fuel  m := by kernel_rfl
def D23 (W : Prg) (call : Nat → List V → M → R) (fuel : Nat) (m : M) : X :=
 (evK W call m .mkMap []).to fun x1 m1 =>
 (evK W call m1 (.build [.mnil, (.int .i64 (.ofNat 0))] [(0, 1)]) [x1]).to fun x2 m2 =>
 (evK W call m2 (.box 98 2) [x2]).to fun x3 m3 =>
 .ret [x3] m3
theorem D23_eq (W : Prg) (call : Nat → List V → M → R) (fuel : Nat) (m : M) : exec2 W call fuel F23.body (mkEnv [] 0 .nil) m (fun e m => retX (Mu.results e m F23.rs) m) = D23 W call fuel  m := by kernel_rfl
def D24 (W : Prg) (call : Nat → List V → M → R) (fuel : Nat) (m : M) : X :=
 (evK W call m .mkMap []).to fun x1 m1 =>
 (evK W call m1 (.build [.mnil, (.int .i64 (.ofNat 0))] [(0, 1)]) [x1]).to fun x2 m2 =>
 (evK W call m2 (.box 116 2) [x2]).to fun x3 m3 =>
 .ret [x3] m3
theorem D24_eq (W : Prg) (call : Nat → List V → M → R) (fuel : Nat) (m : M) : exec2 W call fuel F24.body (mkEnv [] 0 .nil) m (fun e m => retX (Mu.results e m F24.rs) m) = D24 W call fuel  m := by kernel_rfl
end Go.Proofs.YtkceoangoobbkaaGreatDoor.Ir

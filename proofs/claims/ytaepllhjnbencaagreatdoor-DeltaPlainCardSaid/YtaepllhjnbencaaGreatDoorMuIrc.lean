/- The functions of the program in the small code, part 3: printed by a program of this session (mkseat.py). -/
import Derived.Test.YtaepllhjnbencaaGreatDoorMuIrb
set_option linter.unusedVariables false
namespace Go.Proofs.YtaepllhjnbencaaGreatDoor.Ir
open Mu
def F252 : IFn := ⟨3,
(.seq (.reg [
  ⟨some p6, .move, [(.const (.int .u64 (.ofNat 0)))], none⟩,
  ⟨some p7, .move, [(.const .inil)], none⟩])
 (.seq (.seq (.reg [
  ⟨some p18, .move, [(.tmp p0)], none⟩,
  ⟨some p19, (.eql (.base .str) false), [(.tmp p18), (.const (.str []))], none⟩])
 (.cond (.tmp p19)
 (.seq (.reg [
  ⟨some p20, (.mkIface 296), [(.const (.int .i64 (.ofNat 2)))], none⟩,
  ⟨some p6, .move, [(.const (.int .u64 (.ofNat 0)))], none⟩,
  ⟨some p7, .move, [(.tmp p20)], none⟩])
 (.ret [.tmp p6, .tmp p7]))
 .skip))
 (.seq (.reg [
  ⟨some p21, .move, [(.tmp p1)], none⟩,
  ⟨some p22, (.eql (.base .int) false), [(.tmp p21), (.const (.int .i64 (.ofNat 0)))], none⟩,
  ⟨some p8, .move, [(.tmp p22)], none⟩])
 (.seq (.reg [
  ⟨some p23, .move, [(.tmp p0)], none⟩,
  ⟨some p9, .move, [(.tmp p23)], none⟩])
 (.seq (.block 0 [p0, p1, p2, p8, p9] (.seq (.reg [
  ⟨some p26, .move, [(.tmp p1)], none⟩,
  ⟨some p27, (.bin .leq), [(.const (.int .i64 (.ofNat 2))), (.tmp p26)], none⟩,
  ⟨some p28, .move, [(.tmp p27)], none⟩,
  ⟨some p29, .move, [(.tmp p1)], some (p28, true)⟩,
  ⟨some p30, (.bin .leq), [(.tmp p29), (.const (.int .i64 (.ofNat 36)))], some (p28, true)⟩,
  ⟨some p31, .pick, [(.tmp p28), (.tmp p30), (.const (.bool false))], none⟩,
  ⟨some p25, .move, [(.tmp p31)], none⟩])
 (.cond (.tmp p25)
 .skip
 (.seq (.reg [
  ⟨some p33, .move, [(.tmp p1)], none⟩,
  ⟨some p34, (.eql (.base .int) false), [(.tmp p33), (.const (.int .i64 (.ofNat 0)))], none⟩,
  ⟨some p32, .move, [(.tmp p34)], none⟩])
 (.cond (.tmp p32)
 (.seq (.reg [
  ⟨some p1, .move, [(.const (.int .i64 (.ofNat 10)))], none⟩])
 (.seq (.reg [
  ⟨some p35, .move, [(.tmp p0)], none⟩,
  ⟨some p36, .idxStr, [(.tmp p35), (.const (.int .i64 (.ofNat 0)))], none⟩,
  ⟨some p37, (.eql (.base .int) false), [(.tmp p36), (.const (.int .u8 (.ofNat 48)))], none⟩])
 (.cond (.tmp p37)
 (.block 1 [p0, p1, p2, p8, p9] (.seq (.reg [
  ⟨some p41, .move, [(.tmp p0)], none⟩,
  ⟨some p42, .lenS, [(.tmp p41)], none⟩,
  ⟨some p43, (.bin .geq), [(.tmp p42), (.const (.int .i64 (.ofNat 3)))], none⟩,
  ⟨some p44, .move, [(.tmp p43)], none⟩,
  ⟨some p45, .move, [(.tmp p0)], some (p44, true)⟩,
  ⟨some p46, .idxStr, [(.tmp p45), (.const (.int .i64 (.ofNat 1)))], some (p44, true)⟩,
  ⟨some p47, .call, [(.const (.fn 255 [] [])), (.tmp p46)], some (p44, true)⟩,
  ⟨some p48, (.eql (.base .int) false), [(.tmp p47), (.const (.int .u8 (.ofNat 98)))], some (p44, true)⟩,
  ⟨some p49, .pick, [(.tmp p44), (.tmp p48), (.const (.bool false))], none⟩,
  ⟨some p40, .move, [(.tmp p49)], none⟩])
 (.cond (.tmp p40)
 (.seq (.reg [
  ⟨some p1, .move, [(.const (.int .i64 (.ofNat 2)))], none⟩])
 (.reg [
  ⟨some p50, .move, [(.tmp p0)], none⟩,
  ⟨some p51, (.slStr true false), [(.tmp p50), (.const (.int .i64 (.ofNat 2)))], none⟩,
  ⟨some p0, .move, [(.tmp p51)], none⟩]))
 (.seq (.reg [
  ⟨some p53, .move, [(.tmp p0)], none⟩,
  ⟨some p54, .lenS, [(.tmp p53)], none⟩,
  ⟨some p55, (.bin .geq), [(.tmp p54), (.const (.int .i64 (.ofNat 3)))], none⟩,
  ⟨some p56, .move, [(.tmp p55)], none⟩,
  ⟨some p57, .move, [(.tmp p0)], some (p56, true)⟩,
  ⟨some p58, .idxStr, [(.tmp p57), (.const (.int .i64 (.ofNat 1)))], some (p56, true)⟩,
  ⟨some p59, .call, [(.const (.fn 255 [] [])), (.tmp p58)], some (p56, true)⟩,
  ⟨some p60, (.eql (.base .int) false), [(.tmp p59), (.const (.int .u8 (.ofNat 111)))], some (p56, true)⟩,
  ⟨some p61, .pick, [(.tmp p56), (.tmp p60), (.const (.bool false))], none⟩,
  ⟨some p52, .move, [(.tmp p61)], none⟩])
 (.cond (.tmp p52)
 (.seq (.reg [
  ⟨some p1, .move, [(.const (.int .i64 (.ofNat 8)))], none⟩])
 (.reg [
  ⟨some p62, .move, [(.tmp p0)], none⟩,
  ⟨some p63, (.slStr true false), [(.tmp p62), (.const (.int .i64 (.ofNat 2)))], none⟩,
  ⟨some p0, .move, [(.tmp p63)], none⟩]))
 (.seq (.reg [
  ⟨some p65, .move, [(.tmp p0)], none⟩,
  ⟨some p66, .lenS, [(.tmp p65)], none⟩,
  ⟨some p67, (.bin .geq), [(.tmp p66), (.const (.int .i64 (.ofNat 3)))], none⟩,
  ⟨some p68, .move, [(.tmp p67)], none⟩,
  ⟨some p69, .move, [(.tmp p0)], some (p68, true)⟩,
  ⟨some p70, .idxStr, [(.tmp p69), (.const (.int .i64 (.ofNat 1)))], some (p68, true)⟩,
  ⟨some p71, .call, [(.const (.fn 255 [] [])), (.tmp p70)], some (p68, true)⟩,
  ⟨some p72, (.eql (.base .int) false), [(.tmp p71), (.const (.int .u8 (.ofNat 120)))], some (p68, true)⟩,
  ⟨some p73, .pick, [(.tmp p68), (.tmp p72), (.const (.bool false))], none⟩,
  ⟨some p64, .move, [(.tmp p73)], none⟩])
 (.cond (.tmp p64)
 (.seq (.reg [
  ⟨some p1, .move, [(.const (.int .i64 (.ofNat 16)))], none⟩])
 (.reg [
  ⟨some p74, .move, [(.tmp p0)], none⟩,
  ⟨some p75, (.slStr true false), [(.tmp p74), (.const (.int .i64 (.ofNat 2)))], none⟩,
  ⟨some p0, .move, [(.tmp p75)], none⟩]))
 (.seq (.reg [
  ⟨some p1, .move, [(.const (.int .i64 (.ofNat 8)))], none⟩])
 (.reg [
  ⟨some p38, .move, [(.tmp p0)], none⟩,
  ⟨some p39, (.slStr true false), [(.tmp p38), (.const (.int .i64 (.ofNat 1)))], none⟩,
  ⟨some p0, .move, [(.tmp p39)], none⟩])))))))))
 .skip)))
 (.seq (.reg [
  ⟨some p24, (.mkIface 296), [(.const (.int .i64 (.ofNat 3)))], none⟩,
  ⟨some p6, .move, [(.const (.int .u64 (.ofNat 0)))], none⟩,
  ⟨some p7, .move, [(.tmp p24)], none⟩])
 (.ret [.tmp p6, .tmp p7])))))))
 (.seq (.seq (.reg [
  ⟨some p76, .move, [(.tmp p2)], none⟩,
  ⟨some p77, (.eql (.base .int) false), [(.tmp p76), (.const (.int .i64 (.ofNat 0)))], none⟩])
 (.cond (.tmp p77)
 (.reg [
  ⟨some p2, .move, [(.const (.int .i64 (.ofNat 64)))], none⟩])
 (.seq (.reg [
  ⟨some p78, .move, [(.tmp p2)], none⟩,
  ⟨some p79, (.bin .lss), [(.tmp p78), (.const (.int .i64 (.ofNat 0)))], none⟩,
  ⟨some p80, .move, [(.tmp p79)], none⟩,
  ⟨some p81, .move, [(.tmp p2)], some (p80, false)⟩,
  ⟨some p82, (.bin .gtr), [(.tmp p81), (.const (.int .i64 (.ofNat 64)))], some (p80, false)⟩,
  ⟨some p83, .pick, [(.tmp p80), (.const (.bool true)), (.tmp p82)], none⟩])
 (.cond (.tmp p83)
 (.seq (.reg [
  ⟨some p84, (.mkIface 296), [(.const (.int .i64 (.ofNat 4)))], none⟩,
  ⟨some p6, .move, [(.const (.int .u64 (.ofNat 0)))], none⟩,
  ⟨some p7, .move, [(.tmp p84)], none⟩])
 (.ret [.tmp p6, .tmp p7]))
 .skip))))
 (.seq (.reg [
  ⟨some p10, .move, [(.const (.int .u64 (.ofNat 0)))], none⟩])
 (.seq (.seq (.reg [
  ⟨some p85, .move, [(.tmp p1)], none⟩])
 (.block 2 [p0, p1, p2, p8, p9, p10] (.seq (.reg [
  ⟨some p91, (.eql (.base .int) false), [(.tmp p85), (.const (.int .i64 (.ofNat 10)))], none⟩,
  ⟨some p90, .move, [(.tmp p91)], none⟩])
 (.cond (.tmp p90)
 (.reg [
  ⟨some p10, .move, [(.const (.int .u64 (.ofNat 1844674407370955162)))], none⟩])
 (.seq (.reg [
  ⟨some p93, (.eql (.base .int) false), [(.tmp p85), (.const (.int .i64 (.ofNat 16)))], none⟩,
  ⟨some p92, .move, [(.tmp p93)], none⟩])
 (.cond (.tmp p92)
 (.reg [
  ⟨some p10, .move, [(.const (.int .u64 (.ofNat 1152921504606846976)))], none⟩])
 (.reg [
  ⟨some p86, .move, [(.tmp p1)], none⟩,
  ⟨some p87, (.convInt .u64), [(.tmp p86)], none⟩,
  ⟨some p88, (.bin .quo), [(.const (.int .u64 (.ofNat 18446744073709551615))), (.tmp p87)], none⟩,
  ⟨some p89, (.bin .add), [(.tmp p88), (.const (.int .u64 (.ofNat 1)))], none⟩,
  ⟨some p10, .move, [(.tmp p89)], none⟩])))))))
 (.seq (.reg [
  ⟨some p94, .move, [(.tmp p2)], none⟩,
  ⟨some p95, (.convInt .u64), [(.tmp p94)], none⟩,
  ⟨some p96, (.bin .shl), [(.const (.int .u64 (.ofNat 1))), (.tmp p95)], none⟩,
  ⟨some p97, (.bin .sub), [(.tmp p96), (.const (.int .u64 (.ofNat 1)))], none⟩,
  ⟨some p11, .move, [(.tmp p97)], none⟩])
 (.seq (.reg [
  ⟨some p12, .move, [(.const (.bool false))], none⟩])
 (.seq (.reg [
  ⟨some p13, .move, [(.const (.int .u64 (.ofNat 0)))], none⟩])
 (.seq (.seq (.reg [
  ⟨some p98, .move, [(.tmp p0)], none⟩,
  ⟨some p99, (.convStrBytes 5), [(.tmp p98)], none⟩,
  ⟨some p100, .lenL, [(.tmp p99)], none⟩,
  ⟨some p101, .move, [(.const (.int .i64 (.ofNat 0)))], none⟩])
 (.block 3 [p9, p12, p13] (.loop [p1, p8, p9, p10, p11, p12, p13, p99, p100, p101] (.seq (.reg [
  ⟨some p102, (.bin .lss), [(.tmp p101), (.tmp p100)], none⟩])
 (.seq (.cond (.tmp p102)
 .skip
 (.exit 3 [p9, p12, p13]))
 (.seq (.block 4 [p1, p8, p9, p10, p11, p12, p13, p99, p100, p101] (.seq (.reg [
  ⟨some p103, (.idxSlice 1), [(.tmp p99), (.tmp p101)], none⟩,
  ⟨some p104, (.load false 1), [(.tmp p103)], none⟩,
  ⟨some p15, .move, [(.tmp p104)], none⟩])
 (.seq (.reg [
  ⟨some p16, .move, [(.const (.int .u8 (.ofNat 0)))], none⟩])
 (.seq (.block 5 [p1, p8, p9, p10, p11, p12, p13, p16, p99, p100, p101] (.seq (.reg [
  ⟨some p107, .move, [(.tmp p15)], none⟩,
  ⟨some p108, (.eql (.base .int) false), [(.tmp p107), (.const (.int .u8 (.ofNat 95)))], none⟩,
  ⟨some p109, .move, [(.tmp p108)], none⟩,
  ⟨some p110, .move, [(.tmp p8)], some (p109, true)⟩,
  ⟨some p111, .pick, [(.tmp p109), (.tmp p110), (.const (.bool false))], none⟩,
  ⟨some p106, .move, [(.tmp p111)], none⟩])
 (.cond (.tmp p106)
 (.seq (.reg [
  ⟨some p12, .move, [(.const (.bool true))], none⟩])
 (.exit 4 [p1, p8, p9, p10, p11, p12, p13, p99, p100, p101]))
 (.seq (.reg [
  ⟨some p113, .move, [(.tmp p15)], none⟩,
  ⟨some p114, (.bin .leq), [(.const (.int .u8 (.ofNat 48))), (.tmp p113)], none⟩,
  ⟨some p115, .move, [(.tmp p114)], none⟩,
  ⟨some p116, .move, [(.tmp p15)], some (p115, true)⟩,
  ⟨some p117, (.bin .leq), [(.tmp p116), (.const (.int .u8 (.ofNat 57)))], some (p115, true)⟩,
  ⟨some p118, .pick, [(.tmp p115), (.tmp p117), (.const (.bool false))], none⟩,
  ⟨some p112, .move, [(.tmp p118)], none⟩])
 (.cond (.tmp p112)
 (.reg [
  ⟨some p119, .move, [(.tmp p15)], none⟩,
  ⟨some p120, (.bin .sub), [(.tmp p119), (.const (.int .u8 (.ofNat 48)))], none⟩,
  ⟨some p16, .move, [(.tmp p120)], none⟩])
 (.seq (.reg [
  ⟨some p122, .move, [(.tmp p15)], none⟩,
  ⟨some p123, .call, [(.const (.fn 255 [] [])), (.tmp p122)], none⟩,
  ⟨some p124, (.bin .leq), [(.const (.int .u8 (.ofNat 97))), (.tmp p123)], none⟩,
  ⟨some p125, .move, [(.tmp p124)], none⟩,
  ⟨some p126, .move, [(.tmp p15)], some (p125, true)⟩,
  ⟨some p127, .call, [(.const (.fn 255 [] [])), (.tmp p126)], some (p125, true)⟩,
  ⟨some p128, (.bin .leq), [(.tmp p127), (.const (.int .u8 (.ofNat 122)))], some (p125, true)⟩,
  ⟨some p129, .pick, [(.tmp p125), (.tmp p128), (.const (.bool false))], none⟩,
  ⟨some p121, .move, [(.tmp p129)], none⟩])
 (.cond (.tmp p121)
 (.reg [
  ⟨some p130, .move, [(.tmp p15)], none⟩,
  ⟨some p131, .call, [(.const (.fn 255 [] [])), (.tmp p130)], none⟩,
  ⟨some p132, (.bin .sub), [(.tmp p131), (.const (.int .u8 (.ofNat 97)))], none⟩,
  ⟨some p133, (.bin .add), [(.tmp p132), (.const (.int .u8 (.ofNat 10)))], none⟩,
  ⟨some p16, .move, [(.tmp p133)], none⟩])
 (.seq (.reg [
  ⟨some p105, (.mkIface 296), [(.const (.int .i64 (.ofNat 2)))], none⟩,
  ⟨some p6, .move, [(.const (.int .u64 (.ofNat 0)))], none⟩,
  ⟨some p7, .move, [(.tmp p105)], none⟩])
 (.ret [.tmp p6, .tmp p7])))))))))
 (.seq (.seq (.reg [
  ⟨some p134, .move, [(.tmp p16)], none⟩,
  ⟨some p135, .move, [(.tmp p1)], none⟩,
  ⟨some p136, (.convInt .u8), [(.tmp p135)], none⟩,
  ⟨some p137, (.bin .geq), [(.tmp p134), (.tmp p136)], none⟩])
 (.cond (.tmp p137)
 (.seq (.reg [
  ⟨some p138, (.mkIface 296), [(.const (.int .i64 (.ofNat 2)))], none⟩,
  ⟨some p6, .move, [(.const (.int .u64 (.ofNat 0)))], none⟩,
  ⟨some p7, .move, [(.tmp p138)], none⟩])
 (.ret [.tmp p6, .tmp p7]))
 .skip))
 (.seq (.seq (.reg [
  ⟨some p139, .move, [(.tmp p13)], none⟩,
  ⟨some p140, .move, [(.tmp p10)], none⟩,
  ⟨some p141, (.bin .geq), [(.tmp p139), (.tmp p140)], none⟩])
 (.cond (.tmp p141)
 (.seq (.reg [
  ⟨some p142, .move, [(.tmp p11)], none⟩,
  ⟨some p143, (.mkIface 296), [(.const (.int .i64 (.ofNat 1)))], none⟩,
  ⟨some p6, .move, [(.tmp p142)], none⟩,
  ⟨some p7, .move, [(.tmp p143)], none⟩])
 (.ret [.tmp p6, .tmp p7]))
 .skip))
 (.seq (.reg [
  ⟨some p144, .move, [(.tmp p13)], none⟩,
  ⟨some p145, .move, [(.tmp p1)], none⟩,
  ⟨some p146, (.convInt .u64), [(.tmp p145)], none⟩,
  ⟨some p147, (.bin .mul), [(.tmp p144), (.tmp p146)], none⟩,
  ⟨some p13, .move, [(.tmp p147)], none⟩])
 (.seq (.reg [
  ⟨some p148, .move, [(.tmp p13)], none⟩,
  ⟨some p149, .move, [(.tmp p16)], none⟩,
  ⟨some p150, (.convInt .u64), [(.tmp p149)], none⟩,
  ⟨some p151, (.bin .add), [(.tmp p148), (.tmp p150)], none⟩,
  ⟨some p17, .move, [(.tmp p151)], none⟩])
 (.seq (.seq (.reg [
  ⟨some p152, .move, [(.tmp p17)], none⟩,
  ⟨some p153, .move, [(.tmp p13)], none⟩,
  ⟨some p154, (.bin .lss), [(.tmp p152), (.tmp p153)], none⟩,
  ⟨some p155, .move, [(.tmp p154)], none⟩,
  ⟨some p156, .move, [(.tmp p17)], some (p155, false)⟩,
  ⟨some p157, .move, [(.tmp p11)], some (p155, false)⟩,
  ⟨some p158, (.bin .gtr), [(.tmp p156), (.tmp p157)], some (p155, false)⟩,
  ⟨some p159, .pick, [(.tmp p155), (.const (.bool true)), (.tmp p158)], none⟩])
 (.cond (.tmp p159)
 (.seq (.reg [
  ⟨some p160, .move, [(.tmp p11)], none⟩,
  ⟨some p161, (.mkIface 296), [(.const (.int .i64 (.ofNat 1)))], none⟩,
  ⟨some p6, .move, [(.tmp p160)], none⟩,
  ⟨some p7, .move, [(.tmp p161)], none⟩])
 (.ret [.tmp p6, .tmp p7]))
 .skip))
 (.reg [
  ⟨some p162, .move, [(.tmp p17)], none⟩,
  ⟨some p13, .move, [(.tmp p162)], none⟩]))))))))))
 (.reg [
  ⟨some p163, (.bin .add), [(.tmp p101), (.const (.int .i64 (.ofNat 1)))], none⟩,
  ⟨some p101, .move, [(.tmp p163)], none⟩])))))))
 (.seq (.seq (.reg [
  ⟨some p164, .move, [(.tmp p12)], none⟩,
  ⟨some p165, .move, [(.tmp p164)], none⟩,
  ⟨some p166, .move, [(.tmp p9)], some (p165, true)⟩,
  ⟨some p167, .call, [(.const (.fn 256 [] [])), (.tmp p166)], some (p165, true)⟩,
  ⟨some p168, .not, [(.tmp p167)], some (p165, true)⟩,
  ⟨some p169, .pick, [(.tmp p165), (.tmp p168), (.const (.bool false))], none⟩])
 (.cond (.tmp p169)
 (.seq (.reg [
  ⟨some p170, (.mkIface 296), [(.const (.int .i64 (.ofNat 2)))], none⟩,
  ⟨some p6, .move, [(.const (.int .u64 (.ofNat 0)))], none⟩,
  ⟨some p7, .move, [(.tmp p170)], none⟩])
 (.ret [.tmp p6, .tmp p7]))
 .skip))
 (.seq (.reg [
  ⟨some p171, .move, [(.tmp p13)], none⟩,
  ⟨some p6, .move, [(.tmp p171)], none⟩,
  ⟨some p7, .move, [(.const .inil)], none⟩])
 (.ret [.tmp p6, .tmp p7]))))))))))))))),
 [.tmp p6, .tmp p7]⟩
def F253 : IFn := ⟨1,
(.seq (.reg [
  ⟨some p2, .move, [(.const (.str []))], none⟩])
 (.seq (.seq (.reg [
  ⟨some p4, .move, [(.tmp p0)], none⟩,
  ⟨some p5, .lenS, [(.tmp p4)], none⟩,
  ⟨some p6, (.eql (.base .int) false), [(.tmp p5), (.const (.int .i64 (.ofNat 0)))], none⟩])
 (.cond (.tmp p6)
 (.seq (.reg [
  ⟨some p2, .move, [(.const (.str []))], none⟩])
 (.ret [.tmp p2]))
 .skip))
 (.seq (.reg [
  ⟨some p7, .move, [(.tmp p0)], none⟩,
  ⟨some p8, .lenS, [(.tmp p7)], none⟩,
  ⟨some p9, (.mkSlice 5 1 [(.int .u8 (.ofNat 0))]), [(.tmp p8), (.tmp p8)], none⟩,
  ⟨some p3, .move, [(.tmp p9)], none⟩])
 (.seq (.reg [
  ⟨some p10, .move, [(.tmp p3)], none⟩,
  ⟨some p11, .move, [(.tmp p0)], none⟩,
  ⟨some p12, (.copy 1), [(.tmp p10), (.tmp p11)], none⟩])
 (.seq (.reg [
  ⟨some p13, .move, [(.tmp p3)], none⟩,
  ⟨some p14, (.idxSlice 1), [(.tmp p13), (.const (.int .i64 (.ofNat 0)))], none⟩,
  ⟨some p15, .move, [(.tmp p3)], none⟩,
  ⟨some p16, .lenL, [(.tmp p15)], none⟩,
  ⟨some p17, (.unsStr 5), [(.tmp p14), (.tmp p16)], none⟩,
  ⟨some p2, .move, [(.tmp p17)], none⟩])
 (.ret [.tmp p2])))))),
 [.tmp p2]⟩
def F254 : IFn := ⟨1,
(.seq (.reg [
  ⟨some p2, .move, [(.const .inil)], none⟩])
 (.seq (.reg [
  ⟨some p3, .move, [(.tmp p0)], none⟩,
  ⟨some p4, (.build [(.str [])] [(0, 1)]), [(.tmp p3)], none⟩,
  ⟨some p5, (.box 312 1), [(.tmp p4)], none⟩,
  ⟨some p6, (.mkIface 310), [(.tmp p5)], none⟩,
  ⟨some p2, .move, [(.tmp p6)], none⟩])
 (.ret [.tmp p2]))),
 [.tmp p2]⟩
def F255 : IFn := ⟨1,
(.seq (.reg [
  ⟨some p2, .move, [(.const (.int .u8 (.ofNat 0)))], none⟩])
 (.seq (.reg [
  ⟨some p3, .move, [(.tmp p0)], none⟩,
  ⟨some p4, (.bin .or), [(.tmp p3), (.const (.int .u8 (.ofNat 32)))], none⟩,
  ⟨some p2, .move, [(.tmp p4)], none⟩])
 (.ret [.tmp p2]))),
 [.tmp p2]⟩
def F256 : IFn := ⟨1,
(.seq (.reg [
  ⟨some p2, .move, [(.const (.bool false))], none⟩])
 (.seq (.reg [
  ⟨some p3, .move, [(.const (.int .i32 (.ofNat 94)))], none⟩])
 (.seq (.reg [
  ⟨some p4, .move, [(.const (.int .i64 (.ofNat 0)))], none⟩])
 (.seq (.seq (.reg [
  ⟨some p6, .move, [(.tmp p0)], none⟩,
  ⟨some p7, .lenS, [(.tmp p6)], none⟩,
  ⟨some p8, (.bin .geq), [(.tmp p7), (.const (.int .i64 (.ofNat 1)))], none⟩,
  ⟨some p9, .move, [(.tmp p8)], none⟩,
  ⟨some p10, .move, [(.tmp p0)], some (p9, true)⟩,
  ⟨some p11, .idxStr, [(.tmp p10), (.const (.int .i64 (.ofNat 0)))], some (p9, true)⟩,
  ⟨some p12, (.eql (.base .int) false), [(.tmp p11), (.const (.int .u8 (.ofNat 45)))], some (p9, true)⟩,
  ⟨some p13, .move, [(.tmp p12)], some (p9, true)⟩,
  ⟨some p14, .move, [(.tmp p0)], some (p13, false)⟩,
  ⟨some p15, .idxStr, [(.tmp p14), (.const (.int .i64 (.ofNat 0)))], some (p13, false)⟩,
  ⟨some p16, (.eql (.base .int) false), [(.tmp p15), (.const (.int .u8 (.ofNat 43)))], some (p13, false)⟩,
  ⟨some p17, .pick, [(.tmp p13), (.const (.bool true)), (.tmp p16)], some (p9, true)⟩,
  ⟨some p18, .pick, [(.tmp p9), (.tmp p17), (.const (.bool false))], none⟩])
 (.cond (.tmp p18)
 (.reg [
  ⟨some p19, .move, [(.tmp p0)], none⟩,
  ⟨some p20, (.slStr true false), [(.tmp p19), (.const (.int .i64 (.ofNat 1)))], none⟩,
  ⟨some p0, .move, [(.tmp p20)], none⟩])
 .skip))
 (.seq (.reg [
  ⟨some p5, .move, [(.const (.bool false))], none⟩])
 (.seq (.seq (.reg [
  ⟨some p21, .move, [(.tmp p0)], none⟩,
  ⟨some p22, .lenS, [(.tmp p21)], none⟩,
  ⟨some p23, (.bin .geq), [(.tmp p22), (.const (.int .i64 (.ofNat 2)))], none⟩,
  ⟨some p24, .move, [(.tmp p23)], none⟩,
  ⟨some p25, .move, [(.tmp p0)], some (p24, true)⟩,
  ⟨some p26, .idxStr, [(.tmp p25), (.const (.int .i64 (.ofNat 0)))], some (p24, true)⟩,
  ⟨some p27, (.eql (.base .int) false), [(.tmp p26), (.const (.int .u8 (.ofNat 48)))], some (p24, true)⟩,
  ⟨some p28, .pick, [(.tmp p24), (.tmp p27), (.const (.bool false))], none⟩,
  ⟨some p29, .move, [(.tmp p28)], none⟩,
  ⟨some p30, .move, [(.tmp p0)], some (p29, true)⟩,
  ⟨some p31, .idxStr, [(.tmp p30), (.const (.int .i64 (.ofNat 1)))], some (p29, true)⟩,
  ⟨some p32, .call, [(.const (.fn 255 [] [])), (.tmp p31)], some (p29, true)⟩,
  ⟨some p33, (.eql (.base .int) false), [(.tmp p32), (.const (.int .u8 (.ofNat 98)))], some (p29, true)⟩,
  ⟨some p34, .move, [(.tmp p33)], some (p29, true)⟩,
  ⟨some p35, .move, [(.tmp p0)], some (p34, false)⟩,
  ⟨some p36, .idxStr, [(.tmp p35), (.const (.int .i64 (.ofNat 1)))], some (p34, false)⟩,
  ⟨some p37, .call, [(.const (.fn 255 [] [])), (.tmp p36)], some (p34, false)⟩,
  ⟨some p38, (.eql (.base .int) false), [(.tmp p37), (.const (.int .u8 (.ofNat 111)))], some (p34, false)⟩,
  ⟨some p39, .pick, [(.tmp p34), (.const (.bool true)), (.tmp p38)], some (p29, true)⟩,
  ⟨some p40, .move, [(.tmp p39)], some (p29, true)⟩,
  ⟨some p41, .move, [(.tmp p0)], some (p40, false)⟩,
  ⟨some p42, .idxStr, [(.tmp p41), (.const (.int .i64 (.ofNat 1)))], some (p40, false)⟩,
  ⟨some p43, .call, [(.const (.fn 255 [] [])), (.tmp p42)], some (p40, false)⟩,
  ⟨some p44, (.eql (.base .int) false), [(.tmp p43), (.const (.int .u8 (.ofNat 120)))], some (p40, false)⟩,
  ⟨some p45, .pick, [(.tmp p40), (.const (.bool true)), (.tmp p44)], some (p29, true)⟩,
  ⟨some p46, .pick, [(.tmp p29), (.tmp p45), (.const (.bool false))], none⟩])
 (.cond (.tmp p46)
 (.seq (.reg [
  ⟨some p4, .move, [(.const (.int .i64 (.ofNat 2)))], none⟩])
 (.seq (.reg [
  ⟨some p3, .move, [(.const (.int .i32 (.ofNat 48)))], none⟩])
 (.reg [
  ⟨some p47, .move, [(.tmp p0)], none⟩,
  ⟨some p48, .idxStr, [(.tmp p47), (.const (.int .i64 (.ofNat 1)))], none⟩,
  ⟨some p49, .call, [(.const (.fn 255 [] [])), (.tmp p48)], none⟩,
  ⟨some p50, (.eql (.base .int) false), [(.tmp p49), (.const (.int .u8 (.ofNat 120)))], none⟩,
  ⟨some p5, .move, [(.tmp p50)], none⟩])))
 .skip))
 (.seq (.block 0 [p3] (.loop [p0, p3, p4, p5] (.seq (.seq (.reg [
  ⟨some p51, .move, [(.tmp p4)], none⟩,
  ⟨some p52, .move, [(.tmp p0)], none⟩,
  ⟨some p53, .lenS, [(.tmp p52)], none⟩,
  ⟨some p54, (.bin .lss), [(.tmp p51), (.tmp p53)], none⟩])
 (.cond (.tmp p54)
 .skip
 (.exit 0 [p3])))
 (.seq (.block 1 [p0, p3, p4, p5] (.seq (.seq (.reg [
  ⟨some p57, .move, [(.tmp p0)], none⟩,
  ⟨some p58, .move, [(.tmp p4)], none⟩,
  ⟨some p59, .idxStr, [(.tmp p57), (.tmp p58)], none⟩,
  ⟨some p60, (.bin .leq), [(.const (.int .u8 (.ofNat 48))), (.tmp p59)], none⟩,
  ⟨some p61, .move, [(.tmp p60)], none⟩,
  ⟨some p62, .move, [(.tmp p0)], some (p61, true)⟩,
  ⟨some p63, .move, [(.tmp p4)], some (p61, true)⟩,
  ⟨some p64, .idxStr, [(.tmp p62), (.tmp p63)], some (p61, true)⟩,
  ⟨some p65, (.bin .leq), [(.tmp p64), (.const (.int .u8 (.ofNat 57)))], some (p61, true)⟩,
  ⟨some p66, .pick, [(.tmp p61), (.tmp p65), (.const (.bool false))], none⟩,
  ⟨some p67, .move, [(.tmp p66)], none⟩,
  ⟨some p68, .move, [(.tmp p5)], some (p67, false)⟩,
  ⟨some p69, .move, [(.tmp p68)], some (p67, false)⟩,
  ⟨some p70, .move, [(.tmp p0)], some (p69, true)⟩,
  ⟨some p71, .move, [(.tmp p4)], some (p69, true)⟩,
  ⟨some p72, .idxStr, [(.tmp p70), (.tmp p71)], some (p69, true)⟩,
  ⟨some p73, .call, [(.const (.fn 255 [] [])), (.tmp p72)], some (p69, true)⟩,
  ⟨some p74, (.bin .leq), [(.const (.int .u8 (.ofNat 97))), (.tmp p73)], some (p69, true)⟩,
  ⟨some p75, .pick, [(.tmp p69), (.tmp p74), (.const (.bool false))], some (p67, false)⟩,
  ⟨some p76, .move, [(.tmp p75)], some (p67, false)⟩,
  ⟨some p77, .move, [(.tmp p0)], some (p76, true)⟩,
  ⟨some p78, .move, [(.tmp p4)], some (p76, true)⟩,
  ⟨some p79, .idxStr, [(.tmp p77), (.tmp p78)], some (p76, true)⟩,
  ⟨some p80, .call, [(.const (.fn 255 [] [])), (.tmp p79)], some (p76, true)⟩,
  ⟨some p81, (.bin .leq), [(.tmp p80), (.const (.int .u8 (.ofNat 102)))], some (p76, true)⟩,
  ⟨some p82, .pick, [(.tmp p76), (.tmp p81), (.const (.bool false))], some (p67, false)⟩,
  ⟨some p83, .pick, [(.tmp p67), (.const (.bool true)), (.tmp p82)], none⟩])
 (.cond (.tmp p83)
 (.seq (.reg [
  ⟨some p3, .move, [(.const (.int .i32 (.ofNat 48)))], none⟩])
 (.exit 1 [p0, p3, p4, p5]))
 .skip))
 (.seq (.seq (.reg [
  ⟨some p84, .move, [(.tmp p0)], none⟩,
  ⟨some p85, .move, [(.tmp p4)], none⟩,
  ⟨some p86, .idxStr, [(.tmp p84), (.tmp p85)], none⟩,
  ⟨some p87, (.eql (.base .int) false), [(.tmp p86), (.const (.int .u8 (.ofNat 95)))], none⟩])
 (.cond (.tmp p87)
 (.seq (.seq (.reg [
  ⟨some p88, .move, [(.tmp p3)], none⟩,
  ⟨some p89, (.eql (.base .int) true), [(.tmp p88), (.const (.int .i32 (.ofNat 48)))], none⟩])
 (.cond (.tmp p89)
 (.seq (.reg [
  ⟨some p2, .move, [(.const (.bool false))], none⟩])
 (.ret [.tmp p2]))
 .skip))
 (.seq (.reg [
  ⟨some p3, .move, [(.const (.int .i32 (.ofNat 95)))], none⟩])
 (.exit 1 [p0, p3, p4, p5])))
 .skip))
 (.seq (.seq (.reg [
  ⟨some p90, .move, [(.tmp p3)], none⟩,
  ⟨some p91, (.eql (.base .int) false), [(.tmp p90), (.const (.int .i32 (.ofNat 95)))], none⟩])
 (.cond (.tmp p91)
 (.seq (.reg [
  ⟨some p2, .move, [(.const (.bool false))], none⟩])
 (.ret [.tmp p2]))
 .skip))
 (.reg [
  ⟨some p3, .move, [(.const (.int .i32 (.ofNat 33)))], none⟩])))))
 (.reg [
  ⟨some p55, .move, [(.tmp p4)], none⟩,
  ⟨some p56, (.bin .add), [(.tmp p55), (.const (.int .i64 (.ofNat 1)))], none⟩,
  ⟨some p4, .move, [(.tmp p56)], none⟩])))))
 (.seq (.reg [
  ⟨some p92, .move, [(.tmp p3)], none⟩,
  ⟨some p93, (.eql (.base .int) true), [(.tmp p92), (.const (.int .i32 (.ofNat 95)))], none⟩,
  ⟨some p2, .move, [(.tmp p93)], none⟩])
 (.ret [.tmp p2]))))))))),
 [.tmp p2]⟩
def F275 : IFn := ⟨1,
(.seq (.reg [
  ⟨some p2, .move, [(.const .pnil)], none⟩])
 (.seq (.reg [
  ⟨some p3, .move, [(.tmp p0)], none⟩,
  ⟨some p2, .move, [(.tmp p3)], none⟩])
 (.ret [.tmp p2]))),
 [.tmp p2]⟩
end Go.Proofs.YtaepllhjnbencaaGreatDoor.Ir

/- The functions of the program in the small code, part 2: printed by a program of this session (mkseat.py). -/
import Derived.Test.YtaepllhjnbencaaGreatDoorMuIra
set_option linter.unusedVariables false
namespace Go.Proofs.YtaepllhjnbencaaGreatDoor.Ir
open Mu
def F135 : IFn := ⟨4,
(.seq (.reg [
  ⟨some p8, .move, [(.const (.bool true))], none⟩])
 (.seq (.reg [
  ⟨some p9, .move, [(.const (.bool true))], none⟩])
 (.block 0 [] (.loop [p0, p1, p2, p3, p8, p9] (.block 1 [p0, p1, p2, p3, p8, p9] (.seq (.reg [
  ⟨some p19, .move, [(.tmp p2)], none⟩,
  ⟨some p20, .move, [(.tmp p1)], none⟩,
  ⟨some p21, (.bin .sub), [(.tmp p19), (.tmp p20)], none⟩,
  ⟨some p10, .move, [(.tmp p21)], none⟩])
 (.seq (.seq (.reg [
  ⟨some p22, .move, [(.tmp p10)], none⟩,
  ⟨some p23, (.bin .leq), [(.tmp p22), (.const (.int .i64 (.ofNat 12)))], none⟩])
 (.cond (.tmp p23)
 (.seq (.reg [
  ⟨some p24, .move, [(.tmp p0)], none⟩,
  ⟨some p25, .move, [(.tmp p1)], none⟩,
  ⟨some p26, .move, [(.tmp p2)], none⟩,
  ⟨some p27, .call, [(.const (.fn 177 [] [])), (.tmp p24), (.tmp p25), (.tmp p26)], none⟩])
 (.ret []))
 .skip))
 (.seq (.seq (.reg [
  ⟨some p28, .move, [(.tmp p3)], none⟩,
  ⟨some p29, (.eql (.base .int) false), [(.tmp p28), (.const (.int .i64 (.ofNat 0)))], none⟩])
 (.cond (.tmp p29)
 (.seq (.reg [
  ⟨some p30, .move, [(.tmp p0)], none⟩,
  ⟨some p31, .move, [(.tmp p1)], none⟩,
  ⟨some p32, .move, [(.tmp p2)], none⟩,
  ⟨some p33, .call, [(.const (.fn 178 [] [])), (.tmp p30), (.tmp p31), (.tmp p32)], none⟩])
 (.ret []))
 .skip))
 (.seq (.seq (.reg [
  ⟨some p34, .move, [(.tmp p8)], none⟩,
  ⟨some p35, .not, [(.tmp p34)], none⟩])
 (.cond (.tmp p35)
 (.seq (.reg [
  ⟨some p36, .move, [(.tmp p0)], none⟩,
  ⟨some p37, .move, [(.tmp p1)], none⟩,
  ⟨some p38, .move, [(.tmp p2)], none⟩,
  ⟨some p39, .call, [(.const (.fn 179 [] [])), (.tmp p36), (.tmp p37), (.tmp p38)], none⟩])
 (.reg [
  ⟨some p40, .move, [(.tmp p3)], none⟩,
  ⟨some p41, (.bin .sub), [(.tmp p40), (.const (.int .i64 (.ofNat 1)))], none⟩,
  ⟨some p3, .move, [(.tmp p41)], none⟩]))
 .skip))
 (.seq (.reg [
  ⟨some p43, .move, [(.tmp p0)], none⟩,
  ⟨some p44, .move, [(.tmp p1)], none⟩,
  ⟨some p45, .move, [(.tmp p2)], none⟩,
  ⟨some p46, .call, [(.const (.fn 180 [] [])), (.tmp p43), (.tmp p44), (.tmp p45)], none⟩,
  ⟨some p42, .move, [(.tmp p46)], none⟩,
  ⟨some p47, (.extract 0), [(.tmp p42)], none⟩,
  ⟨some p48, (.extract 1), [(.tmp p42)], none⟩,
  ⟨some p11, .move, [(.tmp p47)], none⟩,
  ⟨some p12, .move, [(.tmp p48)], none⟩])
 (.seq (.seq (.reg [
  ⟨some p49, .move, [(.tmp p12)], none⟩,
  ⟨some p50, (.eql (.base .int) false), [(.tmp p49), (.const (.int .i64 (.ofNat 2)))], none⟩])
 (.cond (.tmp p50)
 (.seq (.reg [
  ⟨some p51, .move, [(.tmp p0)], none⟩,
  ⟨some p52, .move, [(.tmp p1)], none⟩,
  ⟨some p53, .move, [(.tmp p2)], none⟩,
  ⟨some p54, .call, [(.const (.fn 181 [] [])), (.tmp p51), (.tmp p52), (.tmp p53)], none⟩])
 (.seq (.reg [
  ⟨some p55, .move, [(.tmp p2)], none⟩,
  ⟨some p56, (.bin .sub), [(.tmp p55), (.const (.int .i64 (.ofNat 1)))], none⟩,
  ⟨some p57, .move, [(.tmp p11)], none⟩,
  ⟨some p58, .move, [(.tmp p1)], none⟩,
  ⟨some p59, (.bin .sub), [(.tmp p57), (.tmp p58)], none⟩,
  ⟨some p60, (.bin .sub), [(.tmp p56), (.tmp p59)], none⟩,
  ⟨some p11, .move, [(.tmp p60)], none⟩])
 (.reg [
  ⟨some p12, .move, [(.const (.int .i64 (.ofNat 1)))], none⟩])))
 .skip))
 (.seq (.seq (.reg [
  ⟨some p61, .move, [(.tmp p8)], none⟩,
  ⟨some p62, .move, [(.tmp p61)], none⟩,
  ⟨some p63, .move, [(.tmp p9)], some (p62, true)⟩,
  ⟨some p64, .pick, [(.tmp p62), (.tmp p63), (.const (.bool false))], none⟩,
  ⟨some p65, .move, [(.tmp p64)], none⟩,
  ⟨some p66, .move, [(.tmp p12)], some (p65, true)⟩,
  ⟨some p67, (.eql (.base .int) false), [(.tmp p66), (.const (.int .i64 (.ofNat 1)))], some (p65, true)⟩,
  ⟨some p68, .pick, [(.tmp p65), (.tmp p67), (.const (.bool false))], none⟩])
 (.cond (.tmp p68)
 (.seq (.reg [
  ⟨some p69, .move, [(.tmp p0)], none⟩,
  ⟨some p70, .move, [(.tmp p1)], none⟩,
  ⟨some p71, .move, [(.tmp p2)], none⟩,
  ⟨some p72, .call, [(.const (.fn 182 [] [])), (.tmp p69), (.tmp p70), (.tmp p71)], none⟩])
 (.cond (.tmp p72)
 (.ret [])
 .skip))
 .skip))
 (.seq (.seq (.drawn [
  ⟨0, ⟨some p73, .move, [(.tmp p1)], none⟩, .pure, []⟩,
  ⟨1, ⟨some p74, (.bin .gtr), [(.tmp p73), (.const (.int .i64 (.ofNat 0)))], none⟩, .pure, [0]⟩,
  ⟨2, ⟨some p75, .move, [(.tmp p74)], none⟩, .pure, [1]⟩,
  ⟨3, ⟨some p76, .move, [(.tmp p0)], some (p75, true)⟩, .pure, [2]⟩,
  ⟨4, ⟨some p77, .move, [(.tmp p1)], some (p75, true)⟩, .pure, [2]⟩,
  ⟨5, ⟨some p78, (.bin .sub), [(.tmp p77), (.const (.int .i64 (.ofNat 1)))], some (p75, true)⟩, .pure, [4, 2]⟩,
  ⟨6, ⟨some p79, (.idxSlice 1), [(.tmp p76), (.tmp p78)], some (p75, true)⟩, .pure, [3, 5, 2]⟩,
  ⟨7, ⟨some p80, (.load false 1), [(.tmp p79)], some (p75, true)⟩, (.read 0 0), [6, 2]⟩,
  ⟨8, ⟨some p81, .move, [(.tmp p0)], some (p75, true)⟩, .pure, [2]⟩,
  ⟨9, ⟨some p82, .move, [(.tmp p11)], some (p75, true)⟩, .pure, [2]⟩,
  ⟨10, ⟨some p83, (.idxSlice 1), [(.tmp p81), (.tmp p82)], some (p75, true)⟩, .pure, [8, 9, 2]⟩,
  ⟨11, ⟨some p84, (.load false 1), [(.tmp p83)], some (p75, true)⟩, (.read 0 0), [10, 2]⟩,
  ⟨12, ⟨some p85, .call, [(.const (.fn 183 [] [])), (.tmp p80), (.tmp p84)], some (p75, true)⟩, .eff, [7, 11, 2, 2]⟩,
  ⟨13, ⟨some p86, .not, [(.tmp p85)], some (p75, true)⟩, .pure, [12, 2]⟩,
  ⟨14, ⟨some p87, .pick, [(.tmp p75), (.tmp p86), (.const (.bool false))], none⟩, .pure, [2, 13]⟩])
 (.cond (.tmp p87)
 (.seq (.reg [
  ⟨some p88, .move, [(.tmp p0)], none⟩,
  ⟨some p89, .move, [(.tmp p1)], none⟩,
  ⟨some p90, .move, [(.tmp p2)], none⟩,
  ⟨some p91, .move, [(.tmp p11)], none⟩,
  ⟨some p92, .call, [(.const (.fn 184 [] [])), (.tmp p88), (.tmp p89), (.tmp p90), (.tmp p91)], none⟩,
  ⟨some p13, .move, [(.tmp p92)], none⟩])
 (.seq (.reg [
  ⟨some p93, .move, [(.tmp p13)], none⟩,
  ⟨some p1, .move, [(.tmp p93)], none⟩])
 (.exit 1 [p0, p1, p2, p3, p8, p9])))
 .skip))
 (.seq (.reg [
  ⟨some p95, .move, [(.tmp p0)], none⟩,
  ⟨some p96, .move, [(.tmp p1)], none⟩,
  ⟨some p97, .move, [(.tmp p2)], none⟩,
  ⟨some p98, .move, [(.tmp p11)], none⟩,
  ⟨some p99, .call, [(.const (.fn 185 [] [])), (.tmp p95), (.tmp p96), (.tmp p97), (.tmp p98)], none⟩,
  ⟨some p94, .move, [(.tmp p99)], none⟩,
  ⟨some p100, (.extract 0), [(.tmp p94)], none⟩,
  ⟨some p101, (.extract 1), [(.tmp p94)], none⟩,
  ⟨some p14, .move, [(.tmp p100)], none⟩,
  ⟨some p15, .move, [(.tmp p101)], none⟩])
 (.seq (.reg [
  ⟨some p102, .move, [(.tmp p15)], none⟩,
  ⟨some p9, .move, [(.tmp p102)], none⟩])
 (.seq (.reg [
  ⟨some p103, .move, [(.tmp p14)], none⟩,
  ⟨some p104, .move, [(.tmp p1)], none⟩,
  ⟨some p105, (.bin .sub), [(.tmp p103), (.tmp p104)], none⟩,
  ⟨some p106, .move, [(.tmp p2)], none⟩,
  ⟨some p107, .move, [(.tmp p14)], none⟩,
  ⟨some p108, (.bin .sub), [(.tmp p106), (.tmp p107)], none⟩,
  ⟨some p16, .move, [(.tmp p105)], none⟩,
  ⟨some p17, .move, [(.tmp p108)], none⟩])
 (.seq (.reg [
  ⟨some p109, .move, [(.tmp p10)], none⟩,
  ⟨some p110, (.bin .quo), [(.tmp p109), (.const (.int .i64 (.ofNat 8)))], none⟩,
  ⟨some p18, .move, [(.tmp p110)], none⟩])
 (.seq (.reg [
  ⟨some p111, .move, [(.tmp p16)], none⟩,
  ⟨some p112, .move, [(.tmp p17)], none⟩,
  ⟨some p113, (.bin .lss), [(.tmp p111), (.tmp p112)], none⟩])
 (.cond (.tmp p113)
 (.seq (.reg [
  ⟨some p114, .move, [(.tmp p16)], none⟩,
  ⟨some p115, .move, [(.tmp p18)], none⟩,
  ⟨some p116, (.bin .geq), [(.tmp p114), (.tmp p115)], none⟩,
  ⟨some p8, .move, [(.tmp p116)], none⟩])
 (.seq (.reg [
  ⟨some p117, .move, [(.tmp p0)], none⟩,
  ⟨some p118, .move, [(.tmp p1)], none⟩,
  ⟨some p119, .move, [(.tmp p14)], none⟩,
  ⟨some p120, .move, [(.tmp p3)], none⟩,
  ⟨some p121, .call, [(.const (.fn 135 [] [])), (.tmp p117), (.tmp p118), (.tmp p119), (.tmp p120)], none⟩])
 (.reg [
  ⟨some p122, .move, [(.tmp p14)], none⟩,
  ⟨some p123, (.bin .add), [(.tmp p122), (.const (.int .i64 (.ofNat 1)))], none⟩,
  ⟨some p1, .move, [(.tmp p123)], none⟩])))
 (.seq (.reg [
  ⟨some p124, .move, [(.tmp p17)], none⟩,
  ⟨some p125, .move, [(.tmp p18)], none⟩,
  ⟨some p126, (.bin .geq), [(.tmp p124), (.tmp p125)], none⟩,
  ⟨some p8, .move, [(.tmp p126)], none⟩])
 (.seq (.reg [
  ⟨some p127, .move, [(.tmp p0)], none⟩,
  ⟨some p128, .move, [(.tmp p14)], none⟩,
  ⟨some p129, (.bin .add), [(.tmp p128), (.const (.int .i64 (.ofNat 1)))], none⟩,
  ⟨some p130, .move, [(.tmp p2)], none⟩,
  ⟨some p131, .move, [(.tmp p3)], none⟩,
  ⟨some p132, .call, [(.const (.fn 135 [] [])), (.tmp p127), (.tmp p129), (.tmp p130), (.tmp p131)], none⟩])
 (.reg [
  ⟨some p133, .move, [(.tmp p14)], none⟩,
  ⟨some p2, .move, [(.tmp p133)], none⟩])))))))))))))))))))))),
 []⟩
def F136 : IFn := ⟨1,
(.seq (.reg [
  ⟨some p2, .move, [(.const (.int .i64 (.ofNat 0)))], none⟩])
 (.seq (.cond (.const (.bool false))
 (.seq (.reg [
  ⟨some p3, .move, [(.tmp p0)], none⟩,
  ⟨some p4, (.convInt .u32), [(.tmp p3)], none⟩,
  ⟨some p5, .call, [(.const (.fn 186 [] [])), (.tmp p4)], none⟩,
  ⟨some p2, .move, [(.tmp p5)], none⟩])
 (.ret [.tmp p2]))
 .skip)
 (.seq (.reg [
  ⟨some p6, .move, [(.tmp p0)], none⟩,
  ⟨some p7, .call, [(.const (.fn 187 [] [])), (.tmp p6)], none⟩,
  ⟨some p2, .move, [(.tmp p7)], none⟩])
 (.ret [.tmp p2])))),
 [.tmp p2]⟩
def F137 : IFn := ⟨1,
(.seq (.reg [
  ⟨some p2, .move, [(.const (.int .i64 (.ofNat 0)))], none⟩])
 (.seq (.seq (.reg [
  ⟨some p3, .move, [(.tmp p0)], none⟩,
  ⟨some p4, .call, [(.const (.fn 107 [] [])), (.tmp p3)], none⟩,
  ⟨some p5, (.eql (.iface true) false), [(.tmp p4), (.const .inil)], none⟩])
 (.cond (.tmp p5)
 (.seq (.reg [
  ⟨some p2, .move, [(.const (.int .i64 (.ofNat 40)))], none⟩])
 (.ret [.tmp p2]))
 .skip))
 (.seq (.reg [
  ⟨some p2, .move, [(.const (.int .i64 (.ofNat 0)))], none⟩])
 (.ret [.tmp p2])))),
 [.tmp p2]⟩
def F138 : IFn := ⟨1,
(.seq (.drawn [
  ⟨0, ⟨some p6, .move, [(.tmp p0)], none⟩, .pure, []⟩,
  ⟨1, ⟨some p7, .nilCheck, [(.tmp p6)], none⟩, .pure, [0]⟩,
  ⟨2, ⟨some p8, (.fieldAddr 0), [(.tmp p7)], none⟩, .pure, [1]⟩,
  ⟨3, ⟨some p9, (.load false 1), [(.tmp p8)], none⟩, (.read 0 0), [2]⟩,
  ⟨4, ⟨some p10, .move, [(.tmp p0)], none⟩, .pure, []⟩,
  ⟨5, ⟨some p11, .nilCheck, [(.tmp p10)], none⟩, .pure, [4]⟩,
  ⟨6, ⟨some p12, (.fieldAddr 1), [(.tmp p11)], none⟩, .pure, [5]⟩,
  ⟨7, ⟨some p13, (.load false 1), [(.tmp p12)], none⟩, (.read 0 0), [6]⟩,
  ⟨8, ⟨some p14, (.idxSlice 7), [(.tmp p9), (.tmp p13)], none⟩, .pure, [3, 7]⟩,
  ⟨9, ⟨some p15, (.load true 7), [(.tmp p14)], none⟩, (.read 0 0), [8]⟩,
  ⟨10, ⟨some p2, (.alloc 82 [(.int .i64 (.ofNat 0)), (.int .i64 (.ofNat 0)), (.int .i64 (.ofNat 0)), (.int .i64 (.ofNat 0)), (.int .i64 (.ofNat 0)), (.int .i64 (.ofNat 0)), (.int .i64 (.ofNat 0))]), [], none⟩, (.alloc 0), []⟩,
  ⟨11, ⟨none, (.store 7), [(.tmp p2), (.tmp p15)], none⟩, .eff, [10, 9, 0, 1, 2, 3, 4, 5, 6, 7, 8, 9, 10]⟩])
 (.seq (.reg [
  ⟨some p16, .move, [(.tmp p0)], none⟩,
  ⟨some p17, .nilCheck, [(.tmp p16)], none⟩,
  ⟨some p18, (.fieldAddr 1), [(.tmp p17)], none⟩,
  ⟨some p19, (.load false 1), [(.tmp p18)], none⟩,
  ⟨some p20, (.bin .add), [(.tmp p19), (.const (.int .i64 (.ofNat 1)))], none⟩,
  ⟨some p21, .nilCheck, [(.tmp p16)], none⟩,
  ⟨some p22, (.fieldAddr 1), [(.tmp p21)], none⟩,
  ⟨none, (.store 1), [(.tmp p22), (.tmp p20)], none⟩])
 (.seq (.drawn [
  ⟨0, ⟨some p23, .move, [(.tmp p0)], none⟩, .pure, []⟩,
  ⟨1, ⟨some p24, .nilCheck, [(.tmp p23)], none⟩, .pure, [0]⟩,
  ⟨2, ⟨some p25, (.fieldAddr 2), [(.tmp p24)], none⟩, .pure, [1]⟩,
  ⟨3, ⟨some p26, (.fieldAddr 4), [(.tmp p2)], none⟩, .pure, []⟩,
  ⟨4, ⟨some p27, (.load false 1), [(.tmp p26)], none⟩, (.read 0 0), [3]⟩,
  ⟨5, ⟨some p28, .call, [(.const (.fn 189 [] [])), (.tmp p27)], none⟩, .eff, [4]⟩,
  ⟨6, ⟨some p29, (.bin .sadd), [(.tmp p28), (.const (.str [120]))], none⟩, .pure, [5]⟩,
  ⟨7, ⟨some p30, (.fieldAddr 5), [(.tmp p2)], none⟩, .pure, []⟩,
  ⟨8, ⟨some p31, (.load false 1), [(.tmp p30)], none⟩, (.read 0 1), [7]⟩,
  ⟨9, ⟨some p32, .call, [(.const (.fn 189 [] [])), (.tmp p31)], none⟩, .eff, [8, 5]⟩,
  ⟨10, ⟨some p33, (.bin .sadd), [(.tmp p29), (.tmp p32)], none⟩, .pure, [6, 9]⟩,
  ⟨11, ⟨some p34, (.bin .sadd), [(.tmp p33), (.const (.str [44]))], none⟩, .pure, [10]⟩,
  ⟨12, ⟨some p35, (.fieldAddr 2), [(.tmp p2)], none⟩, .pure, []⟩,
  ⟨13, ⟨some p36, (.load false 1), [(.tmp p35)], none⟩, (.read 0 2), [12]⟩,
  ⟨14, ⟨some p37, .call, [(.const (.fn 189 [] [])), (.tmp p36)], none⟩, .eff, [13, 9]⟩,
  ⟨15, ⟨some p38, (.bin .sadd), [(.tmp p34), (.tmp p37)], none⟩, .pure, [11, 14]⟩,
  ⟨16, ⟨some p39, (.bin .sadd), [(.tmp p38), (.const (.str [44]))], none⟩, .pure, [15]⟩,
  ⟨17, ⟨some p40, (.fieldAddr 3), [(.tmp p2)], none⟩, .pure, []⟩,
  ⟨18, ⟨some p41, (.load false 1), [(.tmp p40)], none⟩, (.read 0 3), [17]⟩,
  ⟨19, ⟨some p42, .call, [(.const (.fn 189 [] [])), (.tmp p41)], none⟩, .eff, [18, 14]⟩,
  ⟨20, ⟨some p43, (.bin .sadd), [(.tmp p39), (.tmp p42)], none⟩, .pure, [16, 19]⟩,
  ⟨21, ⟨some p44, .call, [(.const (.fn 188 [] [])), (.tmp p25), (.tmp p43)], none⟩, .eff, [2, 20, 19]⟩])
 (.seq (.reg [
  ⟨some p3, .move, [(.const (.int .u8 (.ofNat 123)))], none⟩,
  ⟨some p4, .move, [(.const (.int .u8 (.ofNat 125)))], none⟩])
 (.seq (.seq (.reg [
  ⟨some p45, (.fieldAddr 1), [(.tmp p2)], none⟩,
  ⟨some p46, (.load false 1), [(.tmp p45)], none⟩])
 (.block 0 [p0, p2, p3, p4] (.seq (.reg [
  ⟨some p48, (.eql (.base .int) false), [(.tmp p46), (.const (.int .i64 (.ofNat 1)))], none⟩,
  ⟨some p47, .move, [(.tmp p48)], none⟩])
 (.cond (.tmp p47)
 (.seq (.drawn [
  ⟨0, ⟨some p49, .move, [(.tmp p0)], none⟩, .pure, []⟩,
  ⟨1, ⟨some p50, .nilCheck, [(.tmp p49)], none⟩, .pure, [0]⟩,
  ⟨2, ⟨some p51, (.fieldAddr 2), [(.tmp p50)], none⟩, .pure, [1]⟩,
  ⟨3, ⟨some p52, (.fieldAddr 6), [(.tmp p2)], none⟩, .pure, []⟩,
  ⟨4, ⟨some p53, (.load false 1), [(.tmp p52)], none⟩, (.read 0 0), [3]⟩,
  ⟨5, ⟨some p54, .call, [(.const (.fn 189 [] [])), (.tmp p53)], none⟩, .eff, [4]⟩,
  ⟨6, ⟨some p55, (.bin .sadd), [(.const (.str [44])), (.tmp p54)], none⟩, .pure, [5]⟩,
  ⟨7, ⟨some p56, .call, [(.const (.fn 188 [] [])), (.tmp p51), (.tmp p55)], none⟩, .eff, [2, 6, 5]⟩])
 (.ret []))
 (.seq (.reg [
  ⟨some p58, (.eql (.base .int) false), [(.tmp p46), (.const (.int .i64 (.ofNat 3)))], none⟩,
  ⟨some p57, .move, [(.tmp p58)], none⟩])
 (.cond (.tmp p57)
 (.reg [
  ⟨some p3, .move, [(.const (.int .u8 (.ofNat 91)))], none⟩,
  ⟨some p4, .move, [(.const (.int .u8 (.ofNat 93)))], none⟩])
 .skip))))))
 (.seq (.reg [
  ⟨some p59, .move, [(.tmp p0)], none⟩,
  ⟨some p60, .nilCheck, [(.tmp p59)], none⟩,
  ⟨some p61, (.fieldAddr 2), [(.tmp p60)], none⟩,
  ⟨some p62, .move, [(.tmp p3)], none⟩,
  ⟨some p63, .call, [(.const (.fn 190 [] [])), (.tmp p61), (.tmp p62)], none⟩])
 (.seq (.seq (.reg [
  ⟨some p5, .move, [(.const (.bool true))], none⟩])
 (.block 1 [p0, p4] (.loop [p0, p2, p4, p5] (.seq (.seq (.drawn [
  ⟨0, ⟨some p64, .move, [(.tmp p0)], none⟩, .pure, []⟩,
  ⟨1, ⟨some p65, .nilCheck, [(.tmp p64)], none⟩, .pure, [0]⟩,
  ⟨2, ⟨some p66, (.fieldAddr 1), [(.tmp p65)], none⟩, .pure, [1]⟩,
  ⟨3, ⟨some p67, (.load false 1), [(.tmp p66)], none⟩, (.read 0 0), [2]⟩,
  ⟨4, ⟨some p68, .move, [(.tmp p0)], none⟩, .pure, []⟩,
  ⟨5, ⟨some p69, .nilCheck, [(.tmp p68)], none⟩, .pure, [4]⟩,
  ⟨6, ⟨some p70, (.fieldAddr 0), [(.tmp p69)], none⟩, .pure, [5]⟩,
  ⟨7, ⟨some p71, (.load false 1), [(.tmp p70)], none⟩, (.read 0 0), [6]⟩,
  ⟨8, ⟨some p72, .lenL, [(.tmp p71)], none⟩, .pure, [7]⟩,
  ⟨9, ⟨some p73, (.bin .lss), [(.tmp p67), (.tmp p72)], none⟩, .pure, [3, 8]⟩,
  ⟨10, ⟨some p74, .move, [(.tmp p73)], none⟩, .pure, [9]⟩,
  ⟨11, ⟨some p75, .move, [(.tmp p0)], some (p74, true)⟩, .pure, [10]⟩,
  ⟨12, ⟨some p76, .nilCheck, [(.tmp p75)], some (p74, true)⟩, .pure, [11, 10]⟩,
  ⟨13, ⟨some p77, (.fieldAddr 0), [(.tmp p76)], some (p74, true)⟩, .pure, [12, 10]⟩,
  ⟨14, ⟨some p78, (.load false 1), [(.tmp p77)], some (p74, true)⟩, (.read 0 0), [13, 10]⟩,
  ⟨15, ⟨some p79, .move, [(.tmp p0)], some (p74, true)⟩, .pure, [10]⟩,
  ⟨16, ⟨some p80, .nilCheck, [(.tmp p79)], some (p74, true)⟩, .pure, [15, 10]⟩,
  ⟨17, ⟨some p81, (.fieldAddr 1), [(.tmp p80)], some (p74, true)⟩, .pure, [16, 10]⟩,
  ⟨18, ⟨some p82, (.load false 1), [(.tmp p81)], some (p74, true)⟩, (.read 0 0), [17, 10]⟩,
  ⟨19, ⟨some p83, (.idxSlice 7), [(.tmp p78), (.tmp p82)], some (p74, true)⟩, .pure, [14, 18, 10]⟩,
  ⟨20, ⟨some p84, (.fieldAddr 0), [(.tmp p83)], some (p74, true)⟩, .pure, [19, 10]⟩,
  ⟨21, ⟨some p85, (.load false 1), [(.tmp p84)], some (p74, true)⟩, (.read 0 0), [20, 10]⟩,
  ⟨22, ⟨some p86, (.fieldAddr 0), [(.tmp p2)], some (p74, true)⟩, .pure, [10]⟩,
  ⟨23, ⟨some p87, (.load false 1), [(.tmp p86)], some (p74, true)⟩, (.read 0 0), [22, 10]⟩,
  ⟨24, ⟨some p88, (.bin .gtr), [(.tmp p85), (.tmp p87)], some (p74, true)⟩, .pure, [21, 23, 10]⟩,
  ⟨25, ⟨some p89, .pick, [(.tmp p74), (.tmp p88), (.const (.bool false))], none⟩, .pure, [10, 24]⟩])
 (.cond (.tmp p89)
 .skip
 (.exit 1 [p0, p4])))
 (.seq (.block 2 [p0, p2, p4] (.seq (.seq (.reg [
  ⟨some p90, .move, [(.tmp p5)], none⟩,
  ⟨some p91, .not, [(.tmp p90)], none⟩])
 (.cond (.tmp p91)
 (.reg [
  ⟨some p92, .move, [(.tmp p0)], none⟩,
  ⟨some p93, .nilCheck, [(.tmp p92)], none⟩,
  ⟨some p94, (.fieldAddr 2), [(.tmp p93)], none⟩,
  ⟨some p95, .call, [(.const (.fn 190 [] [])), (.tmp p94), (.const (.int .u8 (.ofNat 44)))], none⟩])
 .skip))
 (.reg [
  ⟨some p96, .move, [(.tmp p0)], none⟩,
  ⟨some p97, .call, [(.const (.fn 138 [] [])), (.tmp p96)], none⟩])))
 (.reg [
  ⟨some p5, .move, [(.const (.bool false))], none⟩]))))))
 (.reg [
  ⟨some p98, .move, [(.tmp p0)], none⟩,
  ⟨some p99, .nilCheck, [(.tmp p98)], none⟩,
  ⟨some p100, (.fieldAddr 2), [(.tmp p99)], none⟩,
  ⟨some p101, .move, [(.tmp p4)], none⟩,
  ⟨some p102, .call, [(.const (.fn 190 [] [])), (.tmp p100), (.tmp p101)], none⟩])))))))),
 []⟩
def F139 : IFn := ⟨1,
(.seq (.reg [
  ⟨some p2, .move, [(.const (.str []))], none⟩])
 (.seq (.drawn [
  ⟨0, ⟨some p3, .move, [(.tmp p0)], none⟩, .pure, []⟩,
  ⟨1, ⟨some p4, .nilCheck, [(.tmp p3)], none⟩, .pure, [0]⟩,
  ⟨2, ⟨some p5, (.fieldAddr 1), [(.tmp p4)], none⟩, .pure, [1]⟩,
  ⟨3, ⟨some p6, (.load false 1), [(.tmp p5)], none⟩, (.read 0 0), [2]⟩,
  ⟨4, ⟨some p7, .sliceData, [(.tmp p6)], none⟩, .pure, [3]⟩,
  ⟨5, ⟨some p8, .move, [(.tmp p0)], none⟩, .pure, []⟩,
  ⟨6, ⟨some p9, .nilCheck, [(.tmp p8)], none⟩, .pure, [5]⟩,
  ⟨7, ⟨some p10, (.fieldAddr 1), [(.tmp p9)], none⟩, .pure, [6]⟩,
  ⟨8, ⟨some p11, (.load false 1), [(.tmp p10)], none⟩, (.read 0 0), [7]⟩,
  ⟨9, ⟨some p12, .lenL, [(.tmp p11)], none⟩, .pure, [8]⟩,
  ⟨10, ⟨some p13, (.unsStr 5), [(.tmp p7), (.tmp p12)], none⟩, .eff, [4, 9]⟩,
  ⟨11, ⟨some p2, .move, [(.tmp p13)], none⟩, .pure, [10, 0, 1, 2, 3, 4, 5, 6, 7, 8, 9, 10]⟩])
 (.ret [.tmp p2]))),
 [.tmp p2]⟩
def F140 : IFn := ⟨1,
(.seq (.reg [
  ⟨some p2, .move, [(.const (.str []))], none⟩])
 (.seq (.drawn [
  ⟨0, ⟨some p3, .move, [(.tmp p0)], none⟩, .pure, []⟩,
  ⟨1, ⟨some p4, (.bin .shr), [(.tmp p3), (.const (.int .u64 (.ofNat 12)))], none⟩, .pure, [0]⟩,
  ⟨2, ⟨some p5, (.bin .and), [(.tmp p4), (.const (.int .i64 (.ofNat 15)))], none⟩, .pure, [1]⟩,
  ⟨3, ⟨some p6, .idxStr, [(.const (.str [48, 49, 50, 51, 52, 53, 54, 55, 56, 57, 97, 98, 99, 100, 101, 102])), (.tmp p5)], none⟩, .pure, [2]⟩,
  ⟨4, ⟨some p7, .move, [(.tmp p0)], none⟩, .pure, []⟩,
  ⟨5, ⟨some p8, (.bin .shr), [(.tmp p7), (.const (.int .u64 (.ofNat 8)))], none⟩, .pure, [4]⟩,
  ⟨6, ⟨some p9, (.bin .and), [(.tmp p8), (.const (.int .i64 (.ofNat 15)))], none⟩, .pure, [5]⟩,
  ⟨7, ⟨some p10, .idxStr, [(.const (.str [48, 49, 50, 51, 52, 53, 54, 55, 56, 57, 97, 98, 99, 100, 101, 102])), (.tmp p9)], none⟩, .pure, [6]⟩,
  ⟨8, ⟨some p11, .move, [(.tmp p0)], none⟩, .pure, []⟩,
  ⟨9, ⟨some p12, (.bin .shr), [(.tmp p11), (.const (.int .u64 (.ofNat 4)))], none⟩, .pure, [8]⟩,
  ⟨10, ⟨some p13, (.bin .and), [(.tmp p12), (.const (.int .i64 (.ofNat 15)))], none⟩, .pure, [9]⟩,
  ⟨11, ⟨some p14, .idxStr, [(.const (.str [48, 49, 50, 51, 52, 53, 54, 55, 56, 57, 97, 98, 99, 100, 101, 102])), (.tmp p13)], none⟩, .pure, [10]⟩,
  ⟨12, ⟨some p15, .move, [(.tmp p0)], none⟩, .pure, []⟩,
  ⟨13, ⟨some p16, (.bin .and), [(.tmp p15), (.const (.int .i64 (.ofNat 15)))], none⟩, .pure, [12]⟩,
  ⟨14, ⟨some p17, .idxStr, [(.const (.str [48, 49, 50, 51, 52, 53, 54, 55, 56, 57, 97, 98, 99, 100, 101, 102])), (.tmp p16)], none⟩, .pure, [13]⟩,
  ⟨15, ⟨some p18, (.buildSlice 5 1 [(.int .u8 (.ofNat 0))] 4 [(0, 1), (1, 1), (2, 1), (3, 1)]), [(.tmp p6), (.tmp p10), (.tmp p14), (.tmp p17)], none⟩, .eff, [3, 7, 11, 14]⟩,
  ⟨16, ⟨some p19, .convBytesStr, [(.tmp p18)], none⟩, (.read 1 1), [15]⟩,
  ⟨17, ⟨some p2, .move, [(.tmp p19)], none⟩, .pure, [16, 0, 1, 2, 3, 4, 5, 6, 7, 8, 9, 10, 11, 12, 13, 14, 15, 16]⟩])
 (.ret [.tmp p2]))),
 [.tmp p2]⟩
def F141 : IFn := ⟨1,
(.seq (.reg [
  ⟨some p2, .move, [(.const (.int .i64 (.ofNat 0)))], none⟩])
 (.seq (.reg [
  ⟨some p3, .move, [(.const (.int .u16 (.ofNat 0)))], none⟩])
 (.seq (.seq (.reg [
  ⟨some p4, .move, [(.const (.int .i64 (.ofNat 0)))], none⟩])
 (.block 0 [p3] (.loop [p0, p3, p4] (.seq (.seq (.reg [
  ⟨some p5, .move, [(.tmp p4)], none⟩,
  ⟨some p6, .move, [(.tmp p0)], none⟩,
  ⟨some p7, .lenS, [(.tmp p6)], none⟩,
  ⟨some p8, (.bin .lss), [(.tmp p5), (.tmp p7)], none⟩])
 (.cond (.tmp p8)
 .skip
 (.exit 0 [p3])))
 (.seq (.block 1 [p0, p3, p4] (.seq (.reg [
  ⟨some p11, .move, [(.tmp p3)], none⟩,
  ⟨some p12, (.bin .shr), [(.tmp p11), (.const (.int .u64 (.ofNat 1)))], none⟩,
  ⟨some p13, .move, [(.tmp p3)], none⟩,
  ⟨some p14, (.bin .shl), [(.tmp p13), (.const (.int .u64 (.ofNat 15)))], none⟩,
  ⟨some p15, (.bin .or), [(.tmp p12), (.tmp p14)], none⟩,
  ⟨some p3, .move, [(.tmp p15)], none⟩])
 (.reg [
  ⟨some p16, .move, [(.tmp p3)], none⟩,
  ⟨some p17, .move, [(.tmp p0)], none⟩,
  ⟨some p18, .move, [(.tmp p4)], none⟩,
  ⟨some p19, .idxStr, [(.tmp p17), (.tmp p18)], none⟩,
  ⟨some p20, (.convInt .u16), [(.tmp p19)], none⟩,
  ⟨some p21, (.bin .add), [(.tmp p16), (.tmp p20)], none⟩,
  ⟨some p3, .move, [(.tmp p21)], none⟩])))
 (.reg [
  ⟨some p9, .move, [(.tmp p4)], none⟩,
  ⟨some p10, (.bin .add), [(.tmp p9), (.const (.int .i64 (.ofNat 1)))], none⟩,
  ⟨some p4, .move, [(.tmp p10)], none⟩]))))))
 (.seq (.reg [
  ⟨some p22, .move, [(.tmp p3)], none⟩,
  ⟨some p23, (.convInt .i64), [(.tmp p22)], none⟩,
  ⟨some p2, .move, [(.tmp p23)], none⟩])
 (.ret [.tmp p2]))))),
 [.tmp p2]⟩
def F142 : IFn := ⟨1,
(.seq (.reg [
  ⟨some p2, .move, [(.const (.bool false))], none⟩])
 (.seq (.reg [
  ⟨some p3, .move, [(.tmp p0)], none⟩,
  ⟨some p4, (.bin .geq), [(.tmp p3), (.const (.int .i64 (.ofNat 1)))], none⟩,
  ⟨some p5, .move, [(.tmp p4)], none⟩,
  ⟨some p6, .move, [(.tmp p0)], some (p5, true)⟩,
  ⟨some p7, (.bin .leq), [(.tmp p6), (.const (.int .i64 (.ofNat 1000)))], some (p5, true)⟩,
  ⟨some p8, .pick, [(.tmp p5), (.tmp p7), (.const (.bool false))], none⟩,
  ⟨some p2, .move, [(.tmp p8)], none⟩])
 (.ret [.tmp p2]))),
 [.tmp p2]⟩
def F143 : IFn := ⟨1,
(.seq (.reg [
  ⟨some p2, .move, [(.const (.bool false))], none⟩])
 (.seq (.reg [
  ⟨some p3, .move, [(.tmp p0)], none⟩,
  ⟨some p4, (.bin .geq), [(.tmp p3), (.const (.int .i64 (.ofNat 1)))], none⟩,
  ⟨some p5, .move, [(.tmp p4)], none⟩,
  ⟨some p6, .move, [(.tmp p0)], some (p5, true)⟩,
  ⟨some p7, (.bin .leq), [(.tmp p6), (.const (.int .i64 (.ofNat 4611686018427387904)))], some (p5, true)⟩,
  ⟨some p8, .pick, [(.tmp p5), (.tmp p7), (.const (.bool false))], none⟩,
  ⟨some p2, .move, [(.tmp p8)], none⟩])
 (.ret [.tmp p2]))),
 [.tmp p2]⟩
def F146 : IFn := ⟨1,
(.seq (.reg [
  ⟨some p2, .move, [(.const (.bool false))], none⟩])
 (.seq (.reg [
  ⟨some p3, .move, [(.tmp p0)], none⟩,
  ⟨some p4, (.eql (.base .int) false), [(.tmp p3), (.const (.int .i64 (.ofNat 2)))], none⟩,
  ⟨some p5, .move, [(.tmp p4)], none⟩,
  ⟨some p6, .move, [(.tmp p0)], some (p5, false)⟩,
  ⟨some p7, (.eql (.base .int) false), [(.tmp p6), (.const (.int .i64 (.ofNat 3)))], some (p5, false)⟩,
  ⟨some p8, .pick, [(.tmp p5), (.const (.bool true)), (.tmp p7)], none⟩,
  ⟨some p2, .move, [(.tmp p8)], none⟩])
 (.ret [.tmp p2]))),
 [.tmp p2]⟩
def F147 : IFn := ⟨2,
(.seq (.reg [
  ⟨some p4, .move, [(.const .inil)], none⟩,
  ⟨some p5, .move, [(.const .snil)], none⟩])
 (.seq (.reg [
  ⟨some p11, .move, [(.tmp p0)], none⟩,
  ⟨some p12, (.idxSlice 7), [(.tmp p11), (.const (.int .i64 (.ofNat 0)))], none⟩,
  ⟨some p13, (.load true 7), [(.tmp p12)], none⟩,
  ⟨some p6, (.alloc 82 [(.int .i64 (.ofNat 0)), (.int .i64 (.ofNat 0)), (.int .i64 (.ofNat 0)), (.int .i64 (.ofNat 0)), (.int .i64 (.ofNat 0)), (.int .i64 (.ofNat 0)), (.int .i64 (.ofNat 0))]), [], none⟩,
  ⟨none, (.store 7), [(.tmp p6), (.tmp p13)], none⟩])
 (.seq (.reg [
  ⟨some p14, .move, [(.tmp p0)], none⟩,
  ⟨some p15, (.slSlice 7 true false false), [(.tmp p14), (.const (.int .i64 (.ofNat 1)))], none⟩,
  ⟨some p0, .move, [(.tmp p15)], none⟩])
 (.seq (.reg [
  ⟨some p16, (.fieldAddr 4), [(.tmp p6)], none⟩,
  ⟨some p17, (.load false 1), [(.tmp p16)], none⟩,
  ⟨some p18, (.fieldAddr 5), [(.tmp p6)], none⟩,
  ⟨some p19, (.load false 1), [(.tmp p18)], none⟩,
  ⟨some p20, (.build [(.int .i64 (.ofNat 0)), (.int .i64 (.ofNat 0)), (.int .i64 (.ofNat 0)), (.int .i64 (.ofNat 0))] [(2, 1), (3, 1)]), [(.tmp p17), (.tmp p19)], none⟩,
  ⟨some p7, (.alloc 196 [(.int .i64 (.ofNat 0)), (.int .i64 (.ofNat 0)), (.int .i64 (.ofNat 0)), (.int .i64 (.ofNat 0))]), [], none⟩,
  ⟨none, (.store 4), [(.tmp p7), (.tmp p20)], none⟩])
 (.seq (.seq (.reg [
  ⟨some p21, (.fieldAddr 1), [(.tmp p6)], none⟩,
  ⟨some p22, (.load false 1), [(.tmp p21)], none⟩,
  ⟨some p23, (.eql (.base .int) false), [(.tmp p22), (.const (.int .i64 (.ofNat 1)))], none⟩])
 (.cond (.tmp p23)
 (.seq (.reg [
  ⟨some p24, (.load true 4), [(.tmp p7)], none⟩,
  ⟨some p25, (.fieldAddr 6), [(.tmp p6)], none⟩,
  ⟨some p26, (.load false 1), [(.tmp p25)], none⟩,
  ⟨some p27, (.build [(.int .i64 (.ofNat 0)), (.int .i64 (.ofNat 0)), (.int .i64 (.ofNat 0)), (.int .i64 (.ofNat 0)), (.int .i64 (.ofNat 0))] [(0, 4), (4, 1)]), [(.tmp p24), (.tmp p26)], none⟩,
  ⟨some p28, (.box 198 5), [(.tmp p27)], none⟩,
  ⟨some p29, (.mkIface 194), [(.tmp p28)], none⟩,
  ⟨some p30, .move, [(.tmp p0)], none⟩,
  ⟨some p4, .move, [(.tmp p29)], none⟩,
  ⟨some p5, .move, [(.tmp p30)], none⟩])
 (.ret [.tmp p4, .tmp p5]))
 .skip))
 (.seq (.reg [
  ⟨some p31, (.load true 4), [(.tmp p7)], none⟩,
  ⟨some p32, (.fieldAddr 1), [(.tmp p6)], none⟩,
  ⟨some p33, (.load false 1), [(.tmp p32)], none⟩,
  ⟨some p34, (.build [(.int .i64 (.ofNat 0)), (.int .i64 (.ofNat 0)), (.int .i64 (.ofNat 0)), (.int .i64 (.ofNat 0)), (.int .i64 (.ofNat 0)), .snil] [(0, 4), (4, 1)]), [(.tmp p31), (.tmp p33)], none⟩,
  ⟨some p35, (.box 246 6), [(.tmp p34)], none⟩,
  ⟨some p8, .move, [(.tmp p35)], none⟩])
 (.seq (.reg [
  ⟨some p9, .move, [(.const (.int .i64 (.negSucc 0)))], none⟩])
 (.seq (.block 0 [p0, p6, p7, p8, p9] (.loop [p0, p1, p6, p7, p8, p9] (.seq (.seq (.reg [
  ⟨some p36, .move, [(.tmp p0)], none⟩,
  ⟨some p37, .lenL, [(.tmp p36)], none⟩,
  ⟨some p38, (.bin .gtr), [(.tmp p37), (.const (.int .i64 (.ofNat 0)))], none⟩,
  ⟨some p39, .move, [(.tmp p38)], none⟩,
  ⟨some p40, .move, [(.tmp p0)], some (p39, true)⟩,
  ⟨some p41, (.idxSlice 7), [(.tmp p40), (.const (.int .i64 (.ofNat 0)))], some (p39, true)⟩,
  ⟨some p42, (.fieldAddr 0), [(.tmp p41)], some (p39, true)⟩,
  ⟨some p43, (.load false 1), [(.tmp p42)], some (p39, true)⟩,
  ⟨some p44, .move, [(.tmp p1)], some (p39, true)⟩,
  ⟨some p45, (.bin .add), [(.tmp p44), (.const (.int .i64 (.ofNat 1)))], some (p39, true)⟩,
  ⟨some p46, (.eql (.base .int) false), [(.tmp p43), (.tmp p45)], some (p39, true)⟩,
  ⟨some p47, .pick, [(.tmp p39), (.tmp p46), (.const (.bool false))], none⟩])
 (.cond (.tmp p47)
 .skip
 (.exit 0 [p0, p6, p7, p8, p9])))
 (.block 1 [p0, p1, p6, p7, p8, p9] (.seq (.reg [
  ⟨some p10, .move, [(.const .inil)], none⟩])
 (.seq (.seq (.drawn [
  ⟨0, ⟨some p48, .move, [(.tmp p0)], none⟩, .pure, []⟩,
  ⟨1, ⟨some p49, (.idxSlice 7), [(.tmp p48), (.const (.int .i64 (.ofNat 0)))], none⟩, .pure, [0]⟩,
  ⟨2, ⟨some p50, (.fieldAddr 1), [(.tmp p49)], none⟩, .pure, [1]⟩,
  ⟨3, ⟨some p51, (.load false 1), [(.tmp p50)], none⟩, (.read 0 0), [2]⟩,
  ⟨4, ⟨some p52, (.fieldAddr 1), [(.tmp p6)], none⟩, .pure, []⟩,
  ⟨5, ⟨some p53, (.load false 1), [(.tmp p52)], none⟩, (.read 0 0), [4]⟩,
  ⟨6, ⟨some p54, (.eql (.base .int) false), [(.tmp p51), (.tmp p53)], none⟩, (.read 0 0), [3, 5]⟩])
 (.cond (.tmp p54)
 (.seq (.reg [
  ⟨some p4, .move, [(.const .inil)], none⟩,
  ⟨some p5, .move, [(.const .snil)], none⟩])
 (.ret [.tmp p4, .tmp p5]))
 .skip))
 (.seq (.seq (.reg [
  ⟨some p56, .move, [(.tmp p0)], none⟩,
  ⟨some p57, .move, [(.tmp p1)], none⟩,
  ⟨some p58, (.bin .add), [(.tmp p57), (.const (.int .i64 (.ofNat 1)))], none⟩,
  ⟨some p59, .call, [(.const (.fn 147 [] [])), (.tmp p56), (.tmp p58)], none⟩,
  ⟨some p55, .move, [(.tmp p59)], none⟩,
  ⟨some p60, (.extract 0), [(.tmp p55)], none⟩,
  ⟨some p61, (.extract 1), [(.tmp p55)], none⟩,
  ⟨some p10, .move, [(.tmp p60)], none⟩,
  ⟨some p0, .move, [(.tmp p61)], none⟩])
 (.seq (.reg [
  ⟨some p62, .move, [(.tmp p10)], none⟩,
  ⟨some p63, (.eql (.iface true) false), [(.tmp p62), (.const .inil)], none⟩])
 (.cond (.tmp p63)
 (.seq (.reg [
  ⟨some p4, .move, [(.const .inil)], none⟩,
  ⟨some p5, .move, [(.const .snil)], none⟩])
 (.ret [.tmp p4, .tmp p5]))
 .skip)))
 (.seq (.reg [
  ⟨some p64, .move, [(.tmp p8)], none⟩,
  ⟨some p65, .move, [(.tmp p8)], none⟩,
  ⟨some p66, .nilCheck, [(.tmp p65)], none⟩,
  ⟨some p67, (.fieldAddr 5), [(.tmp p66)], none⟩,
  ⟨some p68, (.load false 1), [(.tmp p67)], none⟩,
  ⟨some p69, .move, [(.tmp p10)], none⟩,
  ⟨some p70, (.buildSlice 137 1 [.inil] 1 [(0, 1)]), [(.tmp p69)], none⟩,
  ⟨some p71, (.append 137 1 16), [(.tmp p68), (.tmp p70)], none⟩,
  ⟨some p72, .nilCheck, [(.tmp p64)], none⟩,
  ⟨some p73, (.fieldAddr 5), [(.tmp p72)], none⟩,
  ⟨none, (.store 1), [(.tmp p73), (.tmp p71)], none⟩])
 (.seq (.drawn [
  ⟨0, ⟨some p74, .move, [(.tmp p9)], none⟩, .pure, []⟩,
  ⟨1, ⟨some p75, .move, [(.tmp p10)], none⟩, .pure, []⟩,
  ⟨2, ⟨some p76, (.invoke 0), [(.tmp p75)], none⟩, .eff, [1]⟩,
  ⟨3, ⟨some p77, (.fieldAddr 1), [(.tmp p6)], none⟩, .pure, []⟩,
  ⟨4, ⟨some p78, (.load false 1), [(.tmp p77)], none⟩, (.read 0 1), [3]⟩,
  ⟨5, ⟨some p79, .call, [(.const (.fn 192 [] [])), (.tmp p76), (.tmp p78)], none⟩, .eff, [2, 4, 2]⟩,
  ⟨6, ⟨some p80, (.bin .add), [(.tmp p79), (.const (.int .i64 (.ofNat 1)))], none⟩, .pure, [5]⟩,
  ⟨7, ⟨some p81, (.bin .add), [(.tmp p74), (.tmp p80)], none⟩, .pure, [0, 6]⟩,
  ⟨8, ⟨some p9, .move, [(.tmp p81)], none⟩, .pure, [7, 5, 0, 1, 2, 3, 4, 5, 6, 7]⟩])
 (.seq (.drawn [
  ⟨0, ⟨some p82, .move, [(.tmp p10)], none⟩, .pure, []⟩,
  ⟨1, ⟨some p83, (.invoke 0), [(.tmp p82)], none⟩, .eff, [0]⟩,
  ⟨2, ⟨some p84, (.fieldAddr 1), [(.tmp p6)], none⟩, .pure, []⟩,
  ⟨3, ⟨some p85, (.load false 1), [(.tmp p84)], none⟩, (.read 0 1), [2]⟩,
  ⟨4, ⟨some p86, (.bin .sub), [(.const (.int .i64 (.ofNat 5))), (.tmp p85)], none⟩, .pure, [3]⟩,
  ⟨5, ⟨some p87, .call, [(.const (.fn 192 [] [])), (.tmp p83), (.tmp p86)], none⟩, .eff, [1, 4, 1]⟩,
  ⟨6, ⟨some p88, (.fieldAddr 1), [(.tmp p6)], none⟩, .pure, []⟩,
  ⟨7, ⟨some p89, (.load false 1), [(.tmp p88)], none⟩, (.read 0 2), [6]⟩,
  ⟨8, ⟨some p90, (.bin .sub), [(.const (.int .i64 (.ofNat 5))), (.tmp p89)], none⟩, .pure, [7]⟩,
  ⟨9, ⟨some p91, .call, [(.const (.fn 192 [] [])), (.tmp p7), (.tmp p90)], none⟩, .eff, [8, 5]⟩,
  ⟨10, ⟨some p92, (.eql (.base .int) true), [(.tmp p87), (.tmp p91)], none⟩, (.read 3 3), [5, 9]⟩])
 (.cond (.tmp p92)
 (.seq (.reg [
  ⟨some p4, .move, [(.const .inil)], none⟩,
  ⟨some p5, .move, [(.const .snil)], none⟩])
 (.ret [.tmp p4, .tmp p5]))
 .skip)))))))))))
 (.seq (.seq (.reg [
  ⟨some p93, .move, [(.tmp p8)], none⟩,
  ⟨some p94, .nilCheck, [(.tmp p93)], none⟩,
  ⟨some p95, (.fieldAddr 5), [(.tmp p94)], none⟩,
  ⟨some p96, (.load false 1), [(.tmp p95)], none⟩,
  ⟨some p97, .lenL, [(.tmp p96)], none⟩,
  ⟨some p98, (.bin .lss), [(.tmp p97), (.const (.int .i64 (.ofNat 2)))], none⟩,
  ⟨some p99, .move, [(.tmp p98)], none⟩,
  ⟨some p100, .move, [(.tmp p9)], some (p99, false)⟩,
  ⟨some p101, (.fieldAddr 1), [(.tmp p6)], some (p99, false)⟩,
  ⟨some p102, (.load false 1), [(.tmp p101)], some (p99, false)⟩,
  ⟨some p103, .call, [(.const (.fn 192 [] [])), (.tmp p7), (.tmp p102)], some (p99, false)⟩,
  ⟨some p104, (.eql (.base .int) true), [(.tmp p100), (.tmp p103)], some (p99, false)⟩,
  ⟨some p105, .pick, [(.tmp p99), (.const (.bool true)), (.tmp p104)], none⟩])
 (.cond (.tmp p105)
 (.seq (.reg [
  ⟨some p4, .move, [(.const .inil)], none⟩,
  ⟨some p5, .move, [(.const .snil)], none⟩])
 (.ret [.tmp p4, .tmp p5]))
 .skip))
 (.seq (.reg [
  ⟨some p106, .move, [(.tmp p8)], none⟩,
  ⟨some p107, (.mkIface 243), [(.tmp p106)], none⟩,
  ⟨some p108, .move, [(.tmp p0)], none⟩,
  ⟨some p4, .move, [(.tmp p107)], none⟩,
  ⟨some p5, .move, [(.tmp p108)], none⟩])
 (.ret [.tmp p4, .tmp p5]))))))))))),
 [.tmp p4, .tmp p5]⟩
def F148 : IFn := ⟨2,
(.seq (.reg [
  ⟨some p4, .move, [(.const (.bool false))], none⟩])
 (.seq (.seq (.reg [
  ⟨some p6, .move, [(.tmp p0)], none⟩,
  ⟨some p7, .lenL, [(.tmp p6)], none⟩,
  ⟨some p8, .move, [(.tmp p1)], none⟩,
  ⟨some p9, .lenL, [(.tmp p8)], none⟩,
  ⟨some p10, (.eql (.base .int) true), [(.tmp p7), (.tmp p9)], none⟩])
 (.cond (.tmp p10)
 (.seq (.reg [
  ⟨some p4, .move, [(.const (.bool false))], none⟩])
 (.ret [.tmp p4]))
 .skip))
 (.seq (.seq (.reg [
  ⟨some p11, .move, [(.tmp p0)], none⟩,
  ⟨some p12, .lenL, [(.tmp p11)], none⟩,
  ⟨some p13, .move, [(.const (.int .i64 (.ofNat 0)))], none⟩])
 (.block 0 [] (.loop [p0, p1, p12, p13] (.seq (.reg [
  ⟨some p14, (.bin .lss), [(.tmp p13), (.tmp p12)], none⟩])
 (.seq (.cond (.tmp p14)
 .skip
 (.exit 0 []))
 (.seq (.block 1 [p0, p1, p12, p13] (.seq (.reg [
  ⟨some p15, .move, [(.tmp p13)], none⟩,
  ⟨some p5, .move, [(.tmp p15)], none⟩])
 (.seq (.drawn [
  ⟨0, ⟨some p16, .move, [(.tmp p0)], none⟩, .pure, []⟩,
  ⟨1, ⟨some p17, .move, [(.tmp p5)], none⟩, .pure, []⟩,
  ⟨2, ⟨some p18, (.idxSlice 7), [(.tmp p16), (.tmp p17)], none⟩, .pure, [0, 1]⟩,
  ⟨3, ⟨some p19, (.load true 7), [(.tmp p18)], none⟩, (.read 0 0), [2]⟩,
  ⟨4, ⟨some p20, .move, [(.tmp p1)], none⟩, .pure, []⟩,
  ⟨5, ⟨some p21, .move, [(.tmp p5)], none⟩, .pure, []⟩,
  ⟨6, ⟨some p22, (.idxSlice 7), [(.tmp p20), (.tmp p21)], none⟩, .pure, [4, 5]⟩,
  ⟨7, ⟨some p23, (.load true 7), [(.tmp p22)], none⟩, (.read 0 0), [6]⟩,
  ⟨8, ⟨some p24, (.eql (.struct [(0, .int), (1, .int), (2, .int), (3, .int), (4, .int), (5, .int), (6, .int)]) true), [(.tmp p19), (.tmp p23)], none⟩, (.read 0 0), [3, 7]⟩])
 (.cond (.tmp p24)
 (.seq (.reg [
  ⟨some p4, .move, [(.const (.bool false))], none⟩])
 (.ret [.tmp p4]))
 .skip))))
 (.reg [
  ⟨some p25, (.bin .add), [(.tmp p13), (.const (.int .i64 (.ofNat 1)))], none⟩,
  ⟨some p13, .move, [(.tmp p25)], none⟩])))))))
 (.seq (.reg [
  ⟨some p4, .move, [(.const (.bool true))], none⟩])
 (.ret [.tmp p4]))))),
 [.tmp p4]⟩
def F149 : IFn := ⟨1,
(.seq (.reg [
  ⟨some p2, .move, [(.const .snil)], none⟩])
 (.seq (.reg [
  ⟨some p3, (.alloc 64 [.snil]), [], none⟩])
 (.seq (.reg [
  ⟨some p4, .move, [(.tmp p0)], none⟩,
  ⟨some p5, .call, [(.const (.fn 193 [] [])), (.tmp p4), (.const (.int .i64 (.ofNat 0))), (.const (.int .i64 (.ofNat 0))), (.const (.int .i64 (.ofNat 0))), (.tmp p3)], none⟩])
 (.seq (.reg [
  ⟨some p6, (.load false 1), [(.tmp p3)], none⟩,
  ⟨some p2, .move, [(.tmp p6)], none⟩])
 (.ret [.tmp p2]))))),
 [.tmp p2]⟩
def F150 : IFn := ⟨1,
(.seq (.reg [
  ⟨some p2, .move, [(.const .snil)], none⟩])
 (.seq (.seq (.reg [
  ⟨some p8, .move, [(.tmp p0)], none⟩])
 (.block 0 [] (.seq (.reg [
  ⟨some p9, (.assertT 194 .pnil true), [(.tmp p8)], none⟩,
  ⟨some p10, (.extract 1), [(.tmp p9)], none⟩,
  ⟨some p11, (.extract 0), [(.tmp p9)], none⟩])
 (.cond (.tmp p10)
 (.seq (.reg [
  ⟨some p3, .move, [(.tmp p11)], none⟩])
 (.seq (.reg [
  ⟨some p12, .move, [(.tmp p3)], none⟩,
  ⟨some p13, (.buildSlice 194 1 [.pnil] 1 [(0, 1)]), [(.tmp p12)], none⟩,
  ⟨some p2, .move, [(.tmp p13)], none⟩])
 (.ret [.tmp p2])))
 (.seq (.reg [
  ⟨some p14, (.assertT 243 .pnil true), [(.tmp p8)], none⟩,
  ⟨some p15, (.extract 1), [(.tmp p14)], none⟩,
  ⟨some p16, (.extract 0), [(.tmp p14)], none⟩])
 (.cond (.tmp p15)
 (.seq (.reg [
  ⟨some p4, .move, [(.tmp p16)], none⟩])
 (.seq (.reg [
  ⟨some p5, .move, [(.const .snil)], none⟩])
 (.seq (.seq (.reg [
  ⟨some p17, .move, [(.tmp p4)], none⟩,
  ⟨some p18, .nilCheck, [(.tmp p17)], none⟩,
  ⟨some p19, (.fieldAddr 5), [(.tmp p18)], none⟩,
  ⟨some p20, (.load false 1), [(.tmp p19)], none⟩,
  ⟨some p21, .lenL, [(.tmp p20)], none⟩,
  ⟨some p22, .move, [(.const (.int .i64 (.ofNat 0)))], none⟩])
 (.block 1 [p5] (.loop [p5, p20, p21, p22] (.seq (.reg [
  ⟨some p23, (.bin .lss), [(.tmp p22), (.tmp p21)], none⟩])
 (.seq (.cond (.tmp p23)
 .skip
 (.exit 1 [p5]))
 (.seq (.block 2 [p5, p20, p21, p22] (.seq (.reg [
  ⟨some p24, (.idxSlice 1), [(.tmp p20), (.tmp p22)], none⟩,
  ⟨some p25, (.load false 1), [(.tmp p24)], none⟩,
  ⟨some p7, .move, [(.tmp p25)], none⟩])
 (.reg [
  ⟨some p26, .move, [(.tmp p5)], none⟩,
  ⟨some p27, .move, [(.tmp p7)], none⟩,
  ⟨some p28, .call, [(.const (.fn 150 [] [])), (.tmp p27)], none⟩,
  ⟨some p29, (.append 194 1 8), [(.tmp p26), (.tmp p28)], none⟩,
  ⟨some p5, .move, [(.tmp p29)], none⟩])))
 (.reg [
  ⟨some p30, (.bin .add), [(.tmp p22), (.const (.int .i64 (.ofNat 1)))], none⟩,
  ⟨some p22, .move, [(.tmp p30)], none⟩])))))))
 (.seq (.reg [
  ⟨some p31, .move, [(.tmp p5)], none⟩,
  ⟨some p2, .move, [(.tmp p31)], none⟩])
 (.ret [.tmp p2])))))
 .skip))))))
 (.seq (.reg [
  ⟨some p2, .move, [(.const .snil)], none⟩])
 (.ret [.tmp p2])))),
 [.tmp p2]⟩
def F152 : IFn := ⟨2,
(.reg [
  ⟨some p4, .move, [(.tmp p0)], none⟩,
  ⟨some p5, .move, [(.tmp p0)], none⟩,
  ⟨some p6, .lenL, [(.tmp p5)], none⟩,
  ⟨some p7, .move, [(.tmp p1)], none⟩,
  ⟨some p8, (.bin .sub), [(.tmp p6), (.tmp p7)], none⟩,
  ⟨some p9, .call, [(.const (.fn 194 [] [])), (.tmp p4), (.tmp p8)], none⟩]),
 []⟩
def F154 : IFn := ⟨2,
(.reg [
  ⟨some p4, .move, [(.tmp p0)], none⟩,
  ⟨some p5, .move, [(.tmp p0)], none⟩,
  ⟨some p6, .lenL, [(.tmp p5)], none⟩,
  ⟨some p7, .move, [(.tmp p1)], none⟩,
  ⟨some p8, (.bin .sub), [(.tmp p6), (.tmp p7)], none⟩,
  ⟨some p9, .call, [(.const (.fn 195 [] [])), (.tmp p4), (.tmp p8)], none⟩]),
 []⟩
def F155 : IFn := ⟨2,
(.seq (.reg [
  ⟨some p4, .move, [(.const (.int .i64 (.ofNat 0)))], none⟩])
 (.seq (.seq (.reg [
  ⟨some p6, .move, [(.tmp p0)], none⟩,
  ⟨some p7, .lenL, [(.tmp p6)], none⟩,
  ⟨some p8, .move, [(.const (.int .i64 (.ofNat 0)))], none⟩])
 (.block 0 [] (.loop [p0, p1, p7, p8] (.seq (.reg [
  ⟨some p9, (.bin .lss), [(.tmp p8), (.tmp p7)], none⟩])
 (.seq (.cond (.tmp p9)
 .skip
 (.exit 0 []))
 (.seq (.block 1 [p0, p1, p7, p8] (.seq (.reg [
  ⟨some p10, .move, [(.tmp p8)], none⟩,
  ⟨some p5, .move, [(.tmp p10)], none⟩])
 (.seq (.reg [
  ⟨some p11, .move, [(.tmp p1)], none⟩,
  ⟨some p12, .move, [(.tmp p0)], none⟩,
  ⟨some p13, .move, [(.tmp p5)], none⟩,
  ⟨some p14, (.idxSlice 2), [(.tmp p12), (.tmp p13)], none⟩,
  ⟨some p15, (.load true 2), [(.tmp p14)], none⟩,
  ⟨some p16, .call, [(.tmp p11), (.tmp p15)], none⟩])
 (.cond (.tmp p16)
 (.seq (.reg [
  ⟨some p17, .move, [(.tmp p5)], none⟩,
  ⟨some p4, .move, [(.tmp p17)], none⟩])
 (.ret [.tmp p4]))
 .skip))))
 (.reg [
  ⟨some p18, (.bin .add), [(.tmp p8), (.const (.int .i64 (.ofNat 1)))], none⟩,
  ⟨some p8, .move, [(.tmp p18)], none⟩])))))))
 (.seq (.reg [
  ⟨some p4, .move, [(.const (.int .i64 (.negSucc 0)))], none⟩])
 (.ret [.tmp p4])))),
 [.tmp p4]⟩
def F156 : IFn := ⟨1,
(.seq (.reg [
  ⟨some p2, (.alloc 64 [.snil]), [], none⟩,
  ⟨some p3, (.alloc 4 [(.bool false)]), [], none⟩])
 (.seq (.reg [
  ⟨some p5, .move, [(.tmp p0)], none⟩,
  ⟨some p6, (.build [(.str []), (.int .i64 (.ofNat 0)), .snil] [(0, 1)]), [(.tmp p5)], none⟩,
  ⟨some p7, (.box 253 3), [(.tmp p6)], none⟩,
  ⟨some p4, .move, [(.tmp p7)], none⟩])
 (.seq (.reg [
  ⟨some p8, (.mkFunc 196 0), [(.tmp p2), (.tmp p3)], none⟩,
  ⟨none, .never, [], none⟩])
 (.seq (.reg [
  ⟨some p9, .move, [(.tmp p4)], none⟩,
  ⟨some p10, .call, [(.const (.fn 197 [] [])), (.tmp p9), (.const (.int .i64 (.ofNat 0)))], none⟩])
 (.seq (.seq (.reg [
  ⟨some p11, .move, [(.tmp p4)], none⟩,
  ⟨some p12, .nilCheck, [(.tmp p11)], none⟩,
  ⟨some p13, (.fieldAddr 1), [(.tmp p12)], none⟩,
  ⟨some p14, (.load false 1), [(.tmp p13)], none⟩,
  ⟨some p15, .move, [(.tmp p0)], none⟩,
  ⟨some p16, .lenS, [(.tmp p15)], none⟩,
  ⟨some p17, (.eql (.base .int) true), [(.tmp p14), (.tmp p16)], none⟩])
 (.cond (.tmp p17)
 (.reg [
  ⟨some p18, .move, [(.tmp p4)], none⟩,
  ⟨some p19, .call, [(.const (.fn 198 [] [])), (.tmp p18)], none⟩])
 .skip))
 (.seq (.reg [
  ⟨some p20, .move, [(.tmp p4)], none⟩,
  ⟨some p21, .nilCheck, [(.tmp p20)], none⟩,
  ⟨some p22, (.fieldAddr 2), [(.tmp p21)], none⟩,
  ⟨some p23, (.load false 1), [(.tmp p22)], none⟩,
  ⟨none, (.store 1), [(.tmp p2), (.tmp p23)], none⟩,
  ⟨none, (.store 1), [(.tmp p3), (.const (.bool true))], none⟩])
 (.ret [.cell p2 false 1, .cell p3 false 1]))))))),
 [.cell p2 false 1, .cell p3 false 1]⟩
def F157 : IFn := ⟨3,
(.seq (.reg [
  ⟨some p3, (.box 73 2), [(.tmp p0)], none⟩,
  ⟨some p4, .move, [(.const (.bool false))], none⟩])
 (.seq (.drawn [
  ⟨0, ⟨some p5, (.load false 1), [(.tmp p1)], none⟩, (.read 0 0), []⟩,
  ⟨1, ⟨some p6, (.load true 2), [(.tmp p3)], none⟩, (.read 0 0), []⟩,
  ⟨2, ⟨some p7, .call, [(.tmp p5), (.tmp p6)], none⟩, .eff, [0, 1]⟩,
  ⟨3, ⟨some p8, (.load false 1), [(.tmp p2)], none⟩, (.read 0 1), []⟩,
  ⟨4, ⟨some p9, (.eql (.base .int) false), [(.tmp p7), (.tmp p8)], none⟩, (.read 1 1), [2, 3]⟩,
  ⟨5, ⟨some p4, .move, [(.tmp p9)], none⟩, .pure, [4, 2, 0, 1, 2, 3, 4]⟩])
 (.ret [.tmp p4]))),
 [.tmp p4]⟩
def F158 : IFn := ⟨3,
(.seq (.reg [
  ⟨some p3, (.box 73 2), [(.tmp p0)], none⟩,
  ⟨some p4, .move, [(.const (.bool false))], none⟩])
 (.seq (.drawn [
  ⟨0, ⟨some p5, (.load false 1), [(.tmp p1)], none⟩, (.read 0 0), []⟩,
  ⟨1, ⟨some p6, (.load true 2), [(.tmp p3)], none⟩, (.read 0 0), []⟩,
  ⟨2, ⟨some p7, .call, [(.tmp p5), (.tmp p6)], none⟩, .eff, [0, 1]⟩,
  ⟨3, ⟨some p8, (.load false 1), [(.tmp p1)], none⟩, (.read 0 1), []⟩,
  ⟨4, ⟨some p9, (.load true 2), [(.tmp p2)], none⟩, (.read 0 1), []⟩,
  ⟨5, ⟨some p10, .call, [(.tmp p8), (.tmp p9)], none⟩, .eff, [3, 4, 2]⟩,
  ⟨6, ⟨some p11, (.bin .gtr), [(.tmp p7), (.tmp p10)], none⟩, .pure, [2, 5]⟩,
  ⟨7, ⟨some p4, .move, [(.tmp p11)], none⟩, .pure, [6, 5, 0, 1, 2, 3, 4, 5, 6]⟩])
 (.ret [.tmp p4]))),
 [.tmp p4]⟩
def F159 : IFn := ⟨3,
(.seq (.reg [
  ⟨some p6, .move, [(.const .snil)], none⟩])
 (.seq (.reg [
  ⟨some p10, .move, [(.tmp p0)], none⟩,
  ⟨some p11, .move, [(.tmp p1)], none⟩,
  ⟨some p12, (.slSlice 2 true false false), [(.tmp p10), (.tmp p11)], none⟩])
 (.seq (.reg [
  ⟨some p13, .move, [(.tmp p2)], none⟩,
  ⟨some p14, .lenL, [(.tmp p13)], none⟩,
  ⟨some p7, .move, [(.tmp p14)], none⟩])
 (.seq (.seq (.reg [
  ⟨some p15, .move, [(.tmp p7)], none⟩,
  ⟨some p16, (.eql (.base .int) false), [(.tmp p15), (.const (.int .i64 (.ofNat 0)))], none⟩])
 (.cond (.tmp p16)
 (.seq (.reg [
  ⟨some p17, .move, [(.tmp p0)], none⟩,
  ⟨some p6, .move, [(.tmp p17)], none⟩])
 (.ret [.tmp p6]))
 .skip))
 (.seq (.reg [
  ⟨some p18, .move, [(.tmp p0)], none⟩,
  ⟨some p19, .lenL, [(.tmp p18)], none⟩,
  ⟨some p8, .move, [(.tmp p19)], none⟩])
 (.seq (.seq (.reg [
  ⟨some p20, .move, [(.tmp p1)], none⟩,
  ⟨some p21, .move, [(.tmp p8)], none⟩,
  ⟨some p22, (.eql (.base .int) false), [(.tmp p20), (.tmp p21)], none⟩])
 (.cond (.tmp p22)
 (.seq (.reg [
  ⟨some p23, .move, [(.tmp p0)], none⟩,
  ⟨some p24, .move, [(.tmp p2)], none⟩,
  ⟨some p25, (.append 73 2 16), [(.tmp p23), (.tmp p24)], none⟩,
  ⟨some p6, .move, [(.tmp p25)], none⟩])
 (.ret [.tmp p6]))
 .skip))
 (.seq (.seq (.reg [
  ⟨some p26, .move, [(.tmp p8)], none⟩,
  ⟨some p27, .move, [(.tmp p7)], none⟩,
  ⟨some p28, (.bin .add), [(.tmp p26), (.tmp p27)], none⟩,
  ⟨some p29, .move, [(.tmp p0)], none⟩,
  ⟨some p30, .cap, [(.tmp p29)], none⟩,
  ⟨some p31, (.bin .gtr), [(.tmp p28), (.tmp p30)], none⟩])
 (.cond (.tmp p31)
 (.seq (.reg [
  ⟨some p32, .move, [(.tmp p0)], none⟩,
  ⟨some p33, .move, [(.tmp p1)], none⟩,
  ⟨some p34, (.slSlice 2 false true false), [(.tmp p32), (.tmp p33)], none⟩,
  ⟨some p35, .move, [(.tmp p8)], none⟩,
  ⟨some p36, .move, [(.tmp p7)], none⟩,
  ⟨some p37, (.bin .add), [(.tmp p35), (.tmp p36)], none⟩,
  ⟨some p38, .move, [(.tmp p1)], none⟩,
  ⟨some p39, (.bin .sub), [(.tmp p37), (.tmp p38)], none⟩,
  ⟨some p40, .never, [], none⟩,
  ⟨some p9, .move, [(.tmp p40)], none⟩])
 (.seq (.reg [
  ⟨some p41, .move, [(.tmp p9)], none⟩,
  ⟨some p42, .move, [(.tmp p1)], none⟩,
  ⟨some p43, (.slSlice 2 true false false), [(.tmp p41), (.tmp p42)], none⟩,
  ⟨some p44, .move, [(.tmp p2)], none⟩,
  ⟨some p45, (.copy 2), [(.tmp p43), (.tmp p44)], none⟩])
 (.seq (.drawn [
  ⟨0, ⟨some p46, .move, [(.tmp p9)], none⟩, .pure, []⟩,
  ⟨1, ⟨some p47, .move, [(.tmp p1)], none⟩, .pure, []⟩,
  ⟨2, ⟨some p48, .move, [(.tmp p7)], none⟩, .pure, []⟩,
  ⟨3, ⟨some p49, (.bin .add), [(.tmp p47), (.tmp p48)], none⟩, .pure, [1, 2]⟩,
  ⟨4, ⟨some p50, (.slSlice 2 true false false), [(.tmp p46), (.tmp p49)], none⟩, .pure, [0, 3]⟩,
  ⟨5, ⟨some p51, .move, [(.tmp p0)], none⟩, .pure, []⟩,
  ⟨6, ⟨some p52, .move, [(.tmp p1)], none⟩, .pure, []⟩,
  ⟨7, ⟨some p53, (.slSlice 2 true false false), [(.tmp p51), (.tmp p52)], none⟩, .pure, [5, 6]⟩,
  ⟨8, ⟨some p54, (.copy 2), [(.tmp p50), (.tmp p53)], none⟩, .eff, [4, 7]⟩])
 (.seq (.reg [
  ⟨some p55, .move, [(.tmp p9)], none⟩,
  ⟨some p6, .move, [(.tmp p55)], none⟩])
 (.ret [.tmp p6])))))
 .skip))
 (.seq (.reg [
  ⟨some p56, .move, [(.tmp p0)], none⟩,
  ⟨some p57, .move, [(.tmp p8)], none⟩,
  ⟨some p58, .move, [(.tmp p7)], none⟩,
  ⟨some p59, (.bin .add), [(.tmp p57), (.tmp p58)], none⟩,
  ⟨some p60, (.slSlice 2 false true false), [(.tmp p56), (.tmp p59)], none⟩,
  ⟨some p0, .move, [(.tmp p60)], none⟩])
 (.seq (.seq (.reg [
  ⟨some p61, .move, [(.tmp p2)], none⟩,
  ⟨some p62, .move, [(.tmp p0)], none⟩,
  ⟨some p63, .move, [(.tmp p1)], none⟩,
  ⟨some p64, .move, [(.tmp p7)], none⟩,
  ⟨some p65, (.bin .add), [(.tmp p63), (.tmp p64)], none⟩,
  ⟨some p66, (.slSlice 2 true false false), [(.tmp p62), (.tmp p65)], none⟩,
  ⟨some p67, .call, [(.const (.fn 199 [] [])), (.tmp p61), (.tmp p66)], none⟩,
  ⟨some p68, .not, [(.tmp p67)], none⟩])
 (.cond (.tmp p68)
 (.seq (.drawn [
  ⟨0, ⟨some p69, .move, [(.tmp p0)], none⟩, .pure, []⟩,
  ⟨1, ⟨some p70, .move, [(.tmp p1)], none⟩, .pure, []⟩,
  ⟨2, ⟨some p71, .move, [(.tmp p7)], none⟩, .pure, []⟩,
  ⟨3, ⟨some p72, (.bin .add), [(.tmp p70), (.tmp p71)], none⟩, .pure, [1, 2]⟩,
  ⟨4, ⟨some p73, (.slSlice 2 true false false), [(.tmp p69), (.tmp p72)], none⟩, .pure, [0, 3]⟩,
  ⟨5, ⟨some p74, .move, [(.tmp p0)], none⟩, .pure, []⟩,
  ⟨6, ⟨some p75, .move, [(.tmp p1)], none⟩, .pure, []⟩,
  ⟨7, ⟨some p76, (.slSlice 2 true false false), [(.tmp p74), (.tmp p75)], none⟩, .pure, [5, 6]⟩,
  ⟨8, ⟨some p77, (.copy 2), [(.tmp p73), (.tmp p76)], none⟩, .eff, [4, 7]⟩])
 (.seq (.reg [
  ⟨some p78, .move, [(.tmp p0)], none⟩,
  ⟨some p79, .move, [(.tmp p1)], none⟩,
  ⟨some p80, (.slSlice 2 true false false), [(.tmp p78), (.tmp p79)], none⟩,
  ⟨some p81, .move, [(.tmp p2)], none⟩,
  ⟨some p82, (.copy 2), [(.tmp p80), (.tmp p81)], none⟩])
 (.seq (.reg [
  ⟨some p83, .move, [(.tmp p0)], none⟩,
  ⟨some p6, .move, [(.tmp p83)], none⟩])
 (.ret [.tmp p6]))))
 .skip))
 (.seq (.reg [
  ⟨some p84, .move, [(.tmp p0)], none⟩,
  ⟨some p85, .move, [(.tmp p8)], none⟩,
  ⟨some p86, (.slSlice 2 true false false), [(.tmp p84), (.tmp p85)], none⟩,
  ⟨some p87, .move, [(.tmp p2)], none⟩,
  ⟨some p88, (.copy 2), [(.tmp p86), (.tmp p87)], none⟩])
 (.seq (.reg [
  ⟨some p89, .move, [(.tmp p0)], none⟩,
  ⟨some p90, .move, [(.tmp p1)], none⟩,
  ⟨some p91, (.slSlice 2 true false false), [(.tmp p89), (.tmp p90)], none⟩,
  ⟨some p92, .move, [(.tmp p7)], none⟩,
  ⟨some p93, .call, [(.const (.fn 200 [] [])), (.tmp p91), (.tmp p92)], none⟩])
 (.seq (.reg [
  ⟨some p94, .move, [(.tmp p0)], none⟩,
  ⟨some p6, .move, [(.tmp p94)], none⟩])
 (.ret [.tmp p6]))))))))))))),
 [.tmp p6]⟩
def F177 : IFn := ⟨3,
(.seq (.reg [
  ⟨some p8, .move, [(.tmp p1)], none⟩,
  ⟨some p9, (.bin .add), [(.tmp p8), (.const (.int .i64 (.ofNat 1)))], none⟩,
  ⟨some p6, .move, [(.tmp p9)], none⟩])
 (.block 0 [] (.loop [p0, p1, p2, p6] (.seq (.seq (.reg [
  ⟨some p10, .move, [(.tmp p6)], none⟩,
  ⟨some p11, .move, [(.tmp p2)], none⟩,
  ⟨some p12, (.bin .lss), [(.tmp p10), (.tmp p11)], none⟩])
 (.cond (.tmp p12)
 .skip
 (.exit 0 [])))
 (.seq (.block 1 [p0, p1, p2, p6] (.seq (.reg [
  ⟨some p15, .move, [(.tmp p6)], none⟩,
  ⟨some p7, .move, [(.tmp p15)], none⟩])
 (.block 2 [p0, p1, p2, p6] (.loop [p0, p1, p2, p6, p7] (.seq (.seq (.drawn [
  ⟨0, ⟨some p16, .move, [(.tmp p7)], none⟩, .pure, []⟩,
  ⟨1, ⟨some p17, .move, [(.tmp p1)], none⟩, .pure, []⟩,
  ⟨2, ⟨some p18, (.bin .gtr), [(.tmp p16), (.tmp p17)], none⟩, .pure, [0, 1]⟩,
  ⟨3, ⟨some p19, .move, [(.tmp p18)], none⟩, .pure, [2]⟩,
  ⟨4, ⟨some p20, .move, [(.tmp p0)], some (p19, true)⟩, .pure, [3]⟩,
  ⟨5, ⟨some p21, .move, [(.tmp p7)], some (p19, true)⟩, .pure, [3]⟩,
  ⟨6, ⟨some p22, (.idxSlice 1), [(.tmp p20), (.tmp p21)], some (p19, true)⟩, .pure, [4, 5, 3]⟩,
  ⟨7, ⟨some p23, (.load false 1), [(.tmp p22)], some (p19, true)⟩, (.read 0 0), [6, 3]⟩,
  ⟨8, ⟨some p24, .move, [(.tmp p0)], some (p19, true)⟩, .pure, [3]⟩,
  ⟨9, ⟨some p25, .move, [(.tmp p7)], some (p19, true)⟩, .pure, [3]⟩,
  ⟨10, ⟨some p26, (.bin .sub), [(.tmp p25), (.const (.int .i64 (.ofNat 1)))], some (p19, true)⟩, .pure, [9, 3]⟩,
  ⟨11, ⟨some p27, (.idxSlice 1), [(.tmp p24), (.tmp p26)], some (p19, true)⟩, .pure, [8, 10, 3]⟩,
  ⟨12, ⟨some p28, (.load false 1), [(.tmp p27)], some (p19, true)⟩, (.read 0 0), [11, 3]⟩,
  ⟨13, ⟨some p29, .call, [(.const (.fn 183 [] [])), (.tmp p23), (.tmp p28)], some (p19, true)⟩, .eff, [7, 12, 3, 3]⟩,
  ⟨14, ⟨some p30, .pick, [(.tmp p19), (.tmp p29), (.const (.bool false))], none⟩, .pure, [3, 13]⟩])
 (.cond (.tmp p30)
 .skip
 (.exit 2 [p0, p1, p2, p6])))
 (.seq (.block 3 [p0, p1, p2, p6, p7] (.drawn [
  ⟨0, ⟨some p33, .move, [(.tmp p0)], none⟩, .pure, []⟩,
  ⟨1, ⟨some p34, .move, [(.tmp p7)], none⟩, .pure, []⟩,
  ⟨2, ⟨some p35, .move, [(.tmp p0)], none⟩, .pure, []⟩,
  ⟨3, ⟨some p36, .move, [(.tmp p7)], none⟩, .pure, []⟩,
  ⟨4, ⟨some p37, (.bin .sub), [(.tmp p36), (.const (.int .i64 (.ofNat 1)))], none⟩, .pure, [3]⟩,
  ⟨5, ⟨some p38, .move, [(.tmp p0)], none⟩, .pure, []⟩,
  ⟨6, ⟨some p39, .move, [(.tmp p7)], none⟩, .pure, []⟩,
  ⟨7, ⟨some p40, (.bin .sub), [(.tmp p39), (.const (.int .i64 (.ofNat 1)))], none⟩, .pure, [6]⟩,
  ⟨8, ⟨some p41, (.idxSlice 1), [(.tmp p38), (.tmp p40)], none⟩, .pure, [5, 7]⟩,
  ⟨9, ⟨some p42, (.load false 1), [(.tmp p41)], none⟩, (.read 0 0), [8]⟩,
  ⟨10, ⟨some p43, .move, [(.tmp p0)], none⟩, .pure, []⟩,
  ⟨11, ⟨some p44, .move, [(.tmp p7)], none⟩, .pure, []⟩,
  ⟨12, ⟨some p45, (.idxSlice 1), [(.tmp p43), (.tmp p44)], none⟩, .pure, [10, 11]⟩,
  ⟨13, ⟨some p46, (.load false 1), [(.tmp p45)], none⟩, (.read 0 0), [12]⟩,
  ⟨14, ⟨some p47, (.idxSlice 1), [(.tmp p33), (.tmp p34)], none⟩, .pure, [0, 1, 0, 1, 5, 6, 7, 8, 9, 13]⟩,
  ⟨15, ⟨none, (.store 1), [(.tmp p47), (.tmp p42)], none⟩, .eff, [14, 9, 0, 1, 5, 6, 7, 8, 9, 13]⟩,
  ⟨16, ⟨some p48, (.idxSlice 1), [(.tmp p35), (.tmp p37)], none⟩, .pure, [2, 4, 0, 1, 2, 3, 4, 5, 6, 7, 8, 9, 10, 11, 12, 13, 14, 15]⟩,
  ⟨17, ⟨none, (.store 1), [(.tmp p48), (.tmp p46)], none⟩, .eff, [16, 13, 15, 0, 1, 2, 3, 4, 5, 6, 7, 8, 9, 10, 11, 12, 13, 14, 15]⟩]))
 (.reg [
  ⟨some p31, .move, [(.tmp p7)], none⟩,
  ⟨some p32, (.bin .sub), [(.tmp p31), (.const (.int .i64 (.ofNat 1)))], none⟩,
  ⟨some p7, .move, [(.tmp p32)], none⟩])))))))
 (.reg [
  ⟨some p13, .move, [(.tmp p6)], none⟩,
  ⟨some p14, (.bin .add), [(.tmp p13), (.const (.int .i64 (.ofNat 1)))], none⟩,
  ⟨some p6, .move, [(.tmp p14)], none⟩])))))),
 []⟩
def F178 : IFn := ⟨3,
(.seq (.reg [
  ⟨some p11, .move, [(.tmp p1)], none⟩,
  ⟨some p6, .move, [(.tmp p11)], none⟩])
 (.seq (.reg [
  ⟨some p7, .move, [(.const (.int .i64 (.ofNat 0)))], none⟩])
 (.seq (.reg [
  ⟨some p12, .move, [(.tmp p2)], none⟩,
  ⟨some p13, .move, [(.tmp p1)], none⟩,
  ⟨some p14, (.bin .sub), [(.tmp p12), (.tmp p13)], none⟩,
  ⟨some p8, .move, [(.tmp p14)], none⟩])
 (.seq (.seq (.reg [
  ⟨some p15, .move, [(.tmp p8)], none⟩,
  ⟨some p16, (.bin .sub), [(.tmp p15), (.const (.int .i64 (.ofNat 1)))], none⟩,
  ⟨some p17, (.bin .quo), [(.tmp p16), (.const (.int .i64 (.ofNat 2)))], none⟩,
  ⟨some p9, .move, [(.tmp p17)], none⟩])
 (.block 0 [p0, p6, p7, p8] (.loop [p0, p6, p7, p8, p9] (.seq (.seq (.reg [
  ⟨some p18, .move, [(.tmp p9)], none⟩,
  ⟨some p19, (.bin .geq), [(.tmp p18), (.const (.int .i64 (.ofNat 0)))], none⟩])
 (.cond (.tmp p19)
 .skip
 (.exit 0 [p0, p6, p7, p8])))
 (.seq (.block 1 [p0, p6, p7, p8, p9] (.reg [
  ⟨some p22, .move, [(.tmp p0)], none⟩,
  ⟨some p23, .move, [(.tmp p9)], none⟩,
  ⟨some p24, .move, [(.tmp p8)], none⟩,
  ⟨some p25, .move, [(.tmp p6)], none⟩,
  ⟨some p26, .call, [(.const (.fn 213 [] [])), (.tmp p22), (.tmp p23), (.tmp p24), (.tmp p25)], none⟩]))
 (.reg [
  ⟨some p20, .move, [(.tmp p9)], none⟩,
  ⟨some p21, (.bin .sub), [(.tmp p20), (.const (.int .i64 (.ofNat 1)))], none⟩,
  ⟨some p9, .move, [(.tmp p21)], none⟩]))))))
 (.seq (.reg [
  ⟨some p27, .move, [(.tmp p8)], none⟩,
  ⟨some p28, (.bin .sub), [(.tmp p27), (.const (.int .i64 (.ofNat 1)))], none⟩,
  ⟨some p10, .move, [(.tmp p28)], none⟩])
 (.block 2 [] (.loop [p0, p6, p7, p10] (.seq (.seq (.reg [
  ⟨some p29, .move, [(.tmp p10)], none⟩,
  ⟨some p30, (.bin .geq), [(.tmp p29), (.const (.int .i64 (.ofNat 0)))], none⟩])
 (.cond (.tmp p30)
 .skip
 (.exit 2 [])))
 (.seq (.block 3 [p0, p6, p7, p10] (.seq (.drawn [
  ⟨0, ⟨some p33, .move, [(.tmp p0)], none⟩, .pure, []⟩,
  ⟨1, ⟨some p34, .move, [(.tmp p6)], none⟩, .pure, []⟩,
  ⟨2, ⟨some p35, .move, [(.tmp p0)], none⟩, .pure, []⟩,
  ⟨3, ⟨some p36, .move, [(.tmp p6)], none⟩, .pure, []⟩,
  ⟨4, ⟨some p37, .move, [(.tmp p10)], none⟩, .pure, []⟩,
  ⟨5, ⟨some p38, (.bin .add), [(.tmp p36), (.tmp p37)], none⟩, .pure, [3, 4]⟩,
  ⟨6, ⟨some p39, .move, [(.tmp p0)], none⟩, .pure, []⟩,
  ⟨7, ⟨some p40, .move, [(.tmp p6)], none⟩, .pure, []⟩,
  ⟨8, ⟨some p41, .move, [(.tmp p10)], none⟩, .pure, []⟩,
  ⟨9, ⟨some p42, (.bin .add), [(.tmp p40), (.tmp p41)], none⟩, .pure, [7, 8]⟩,
  ⟨10, ⟨some p43, (.idxSlice 1), [(.tmp p39), (.tmp p42)], none⟩, .pure, [6, 9]⟩,
  ⟨11, ⟨some p44, (.load false 1), [(.tmp p43)], none⟩, (.read 0 0), [10]⟩,
  ⟨12, ⟨some p45, .move, [(.tmp p0)], none⟩, .pure, []⟩,
  ⟨13, ⟨some p46, .move, [(.tmp p6)], none⟩, .pure, []⟩,
  ⟨14, ⟨some p47, (.idxSlice 1), [(.tmp p45), (.tmp p46)], none⟩, .pure, [12, 13]⟩,
  ⟨15, ⟨some p48, (.load false 1), [(.tmp p47)], none⟩, (.read 0 0), [14]⟩,
  ⟨16, ⟨some p49, (.idxSlice 1), [(.tmp p33), (.tmp p34)], none⟩, .pure, [0, 1, 0, 1, 6, 7, 8, 9, 10, 11, 15]⟩,
  ⟨17, ⟨none, (.store 1), [(.tmp p49), (.tmp p44)], none⟩, .eff, [16, 11, 0, 1, 6, 7, 8, 9, 10, 11, 15]⟩,
  ⟨18, ⟨some p50, (.idxSlice 1), [(.tmp p35), (.tmp p38)], none⟩, .pure, [2, 5, 0, 1, 2, 3, 4, 5, 6, 7, 8, 9, 10, 11, 12, 13, 14, 15, 16, 17]⟩,
  ⟨19, ⟨none, (.store 1), [(.tmp p50), (.tmp p48)], none⟩, .eff, [18, 15, 17, 0, 1, 2, 3, 4, 5, 6, 7, 8, 9, 10, 11, 12, 13, 14, 15, 16, 17]⟩])
 (.reg [
  ⟨some p51, .move, [(.tmp p0)], none⟩,
  ⟨some p52, .move, [(.tmp p7)], none⟩,
  ⟨some p53, .move, [(.tmp p10)], none⟩,
  ⟨some p54, .move, [(.tmp p6)], none⟩,
  ⟨some p55, .call, [(.const (.fn 213 [] [])), (.tmp p51), (.tmp p52), (.tmp p53), (.tmp p54)], none⟩])))
 (.reg [
  ⟨some p31, .move, [(.tmp p10)], none⟩,
  ⟨some p32, (.bin .sub), [(.tmp p31), (.const (.int .i64 (.ofNat 1)))], none⟩,
  ⟨some p10, .move, [(.tmp p32)], none⟩])))))))))),
 []⟩
def F179 : IFn := ⟨3,
(.seq (.reg [
  ⟨some p11, .move, [(.tmp p2)], none⟩,
  ⟨some p12, .move, [(.tmp p1)], none⟩,
  ⟨some p13, (.bin .sub), [(.tmp p11), (.tmp p12)], none⟩,
  ⟨some p6, .move, [(.tmp p13)], none⟩])
 (.seq (.reg [
  ⟨some p14, .move, [(.tmp p6)], none⟩,
  ⟨some p15, (.bin .geq), [(.tmp p14), (.const (.int .i64 (.ofNat 8)))], none⟩])
 (.cond (.tmp p15)
 (.seq (.reg [
  ⟨some p16, .move, [(.tmp p6)], none⟩,
  ⟨some p17, (.convInt .u64), [(.tmp p16)], none⟩,
  ⟨some p7, (.alloc 268 [(.int .u64 (.ofNat 0))]), [], none⟩,
  ⟨none, (.store 1), [(.tmp p7), (.tmp p17)], none⟩])
 (.seq (.reg [
  ⟨some p18, .move, [(.tmp p6)], none⟩,
  ⟨some p19, .call, [(.const (.fn 214 [] [])), (.tmp p18)], none⟩,
  ⟨some p8, .move, [(.tmp p19)], none⟩])
 (.seq (.reg [
  ⟨some p20, .move, [(.tmp p1)], none⟩,
  ⟨some p21, .move, [(.tmp p6)], none⟩,
  ⟨some p22, (.bin .quo), [(.tmp p21), (.const (.int .i64 (.ofNat 4)))], none⟩,
  ⟨some p23, (.bin .mul), [(.tmp p22), (.const (.int .i64 (.ofNat 2)))], none⟩,
  ⟨some p24, (.bin .add), [(.tmp p20), (.tmp p23)], none⟩,
  ⟨some p25, (.bin .sub), [(.tmp p24), (.const (.int .i64 (.ofNat 1)))], none⟩,
  ⟨some p9, .move, [(.tmp p25)], none⟩])
 (.block 0 [] (.loop [p0, p1, p6, p7, p8, p9] (.seq (.seq (.reg [
  ⟨some p26, .move, [(.tmp p9)], none⟩,
  ⟨some p27, .move, [(.tmp p1)], none⟩,
  ⟨some p28, .move, [(.tmp p6)], none⟩,
  ⟨some p29, (.bin .quo), [(.tmp p28), (.const (.int .i64 (.ofNat 4)))], none⟩,
  ⟨some p30, (.bin .mul), [(.tmp p29), (.const (.int .i64 (.ofNat 2)))], none⟩,
  ⟨some p31, (.bin .add), [(.tmp p27), (.tmp p30)], none⟩,
  ⟨some p32, (.bin .add), [(.tmp p31), (.const (.int .i64 (.ofNat 1)))], none⟩,
  ⟨some p33, (.bin .leq), [(.tmp p26), (.tmp p32)], none⟩])
 (.cond (.tmp p33)
 .skip
 (.exit 0 [])))
 (.seq (.block 1 [p0, p1, p6, p7, p8, p9] (.seq (.reg [
  ⟨some p36, .call, [(.const (.fn 215 [] [])), (.tmp p7)], none⟩,
  ⟨some p37, .move, [(.tmp p8)], none⟩,
  ⟨some p38, (.bin .sub), [(.tmp p37), (.const (.int .u64 (.ofNat 1)))], none⟩,
  ⟨some p39, (.bin .and), [(.tmp p36), (.tmp p38)], none⟩,
  ⟨some p40, (.convInt .i64), [(.tmp p39)], none⟩,
  ⟨some p10, .move, [(.tmp p40)], none⟩])
 (.seq (.seq (.reg [
  ⟨some p41, .move, [(.tmp p10)], none⟩,
  ⟨some p42, .move, [(.tmp p6)], none⟩,
  ⟨some p43, (.bin .geq), [(.tmp p41), (.tmp p42)], none⟩])
 (.cond (.tmp p43)
 (.reg [
  ⟨some p44, .move, [(.tmp p10)], none⟩,
  ⟨some p45, .move, [(.tmp p6)], none⟩,
  ⟨some p46, (.bin .sub), [(.tmp p44), (.tmp p45)], none⟩,
  ⟨some p10, .move, [(.tmp p46)], none⟩])
 .skip))
 (.drawn [
  ⟨0, ⟨some p47, .move, [(.tmp p0)], none⟩, .pure, []⟩,
  ⟨1, ⟨some p48, .move, [(.tmp p9)], none⟩, .pure, []⟩,
  ⟨2, ⟨some p49, .move, [(.tmp p0)], none⟩, .pure, []⟩,
  ⟨3, ⟨some p50, .move, [(.tmp p1)], none⟩, .pure, []⟩,
  ⟨4, ⟨some p51, .move, [(.tmp p10)], none⟩, .pure, []⟩,
  ⟨5, ⟨some p52, (.bin .add), [(.tmp p50), (.tmp p51)], none⟩, .pure, [3, 4]⟩,
  ⟨6, ⟨some p53, .move, [(.tmp p0)], none⟩, .pure, []⟩,
  ⟨7, ⟨some p54, .move, [(.tmp p1)], none⟩, .pure, []⟩,
  ⟨8, ⟨some p55, .move, [(.tmp p10)], none⟩, .pure, []⟩,
  ⟨9, ⟨some p56, (.bin .add), [(.tmp p54), (.tmp p55)], none⟩, .pure, [7, 8]⟩,
  ⟨10, ⟨some p57, (.idxSlice 1), [(.tmp p53), (.tmp p56)], none⟩, .pure, [6, 9]⟩,
  ⟨11, ⟨some p58, (.load false 1), [(.tmp p57)], none⟩, (.read 0 0), [10]⟩,
  ⟨12, ⟨some p59, .move, [(.tmp p0)], none⟩, .pure, []⟩,
  ⟨13, ⟨some p60, .move, [(.tmp p9)], none⟩, .pure, []⟩,
  ⟨14, ⟨some p61, (.idxSlice 1), [(.tmp p59), (.tmp p60)], none⟩, .pure, [12, 13]⟩,
  ⟨15, ⟨some p62, (.load false 1), [(.tmp p61)], none⟩, (.read 0 0), [14]⟩,
  ⟨16, ⟨some p63, (.idxSlice 1), [(.tmp p47), (.tmp p48)], none⟩, .pure, [0, 1, 0, 1, 6, 7, 8, 9, 10, 11, 15]⟩,
  ⟨17, ⟨none, (.store 1), [(.tmp p63), (.tmp p58)], none⟩, .eff, [16, 11, 0, 1, 6, 7, 8, 9, 10, 11, 15]⟩,
  ⟨18, ⟨some p64, (.idxSlice 1), [(.tmp p49), (.tmp p52)], none⟩, .pure, [2, 5, 0, 1, 2, 3, 4, 5, 6, 7, 8, 9, 10, 11, 12, 13, 14, 15, 16, 17]⟩,
  ⟨19, ⟨none, (.store 1), [(.tmp p64), (.tmp p62)], none⟩, .eff, [18, 15, 17, 0, 1, 2, 3, 4, 5, 6, 7, 8, 9, 10, 11, 12, 13, 14, 15, 16, 17]⟩]))))
 (.reg [
  ⟨some p34, .move, [(.tmp p9)], none⟩,
  ⟨some p35, (.bin .add), [(.tmp p34), (.const (.int .i64 (.ofNat 1)))], none⟩,
  ⟨some p9, .move, [(.tmp p35)], none⟩]))))))))
 .skip))),
 []⟩
def F180 : IFn := ⟨3,
(.seq (.reg [
  ⟨some p6, .move, [(.const (.int .i64 (.ofNat 0)))], none⟩,
  ⟨some p7, .move, [(.const (.int .i64 (.ofNat 0)))], none⟩])
 (.seq (.reg [
  ⟨some p13, .move, [(.tmp p2)], none⟩,
  ⟨some p14, .move, [(.tmp p1)], none⟩,
  ⟨some p15, (.bin .sub), [(.tmp p13), (.tmp p14)], none⟩,
  ⟨some p8, .move, [(.tmp p15)], none⟩])
 (.seq (.reg [
  ⟨some p9, (.alloc 3 [(.int .i64 (.ofNat 0))]), [], none⟩])
 (.seq (.reg [
  ⟨some p16, .move, [(.tmp p1)], none⟩,
  ⟨some p17, .move, [(.tmp p8)], none⟩,
  ⟨some p18, (.bin .quo), [(.tmp p17), (.const (.int .i64 (.ofNat 4)))], none⟩,
  ⟨some p19, (.bin .mul), [(.tmp p18), (.const (.int .i64 (.ofNat 1)))], none⟩,
  ⟨some p20, (.bin .add), [(.tmp p16), (.tmp p19)], none⟩,
  ⟨some p10, .move, [(.tmp p20)], none⟩])
 (.seq (.reg [
  ⟨some p21, .move, [(.tmp p1)], none⟩,
  ⟨some p22, .move, [(.tmp p8)], none⟩,
  ⟨some p23, (.bin .quo), [(.tmp p22), (.const (.int .i64 (.ofNat 4)))], none⟩,
  ⟨some p24, (.bin .mul), [(.tmp p23), (.const (.int .i64 (.ofNat 2)))], none⟩,
  ⟨some p25, (.bin .add), [(.tmp p21), (.tmp p24)], none⟩,
  ⟨some p11, .move, [(.tmp p25)], none⟩])
 (.seq (.reg [
  ⟨some p26, .move, [(.tmp p1)], none⟩,
  ⟨some p27, .move, [(.tmp p8)], none⟩,
  ⟨some p28, (.bin .quo), [(.tmp p27), (.const (.int .i64 (.ofNat 4)))], none⟩,
  ⟨some p29, (.bin .mul), [(.tmp p28), (.const (.int .i64 (.ofNat 3)))], none⟩,
  ⟨some p30, (.bin .add), [(.tmp p26), (.tmp p29)], none⟩,
  ⟨some p12, .move, [(.tmp p30)], none⟩])
 (.seq (.seq (.reg [
  ⟨some p31, .move, [(.tmp p8)], none⟩,
  ⟨some p32, (.bin .geq), [(.tmp p31), (.const (.int .i64 (.ofNat 8)))], none⟩])
 (.cond (.tmp p32)
 (.seq (.seq (.reg [
  ⟨some p33, .move, [(.tmp p8)], none⟩,
  ⟨some p34, (.bin .geq), [(.tmp p33), (.const (.int .i64 (.ofNat 50)))], none⟩])
 (.cond (.tmp p34)
 (.seq (.reg [
  ⟨some p35, .move, [(.tmp p0)], none⟩,
  ⟨some p36, .move, [(.tmp p10)], none⟩,
  ⟨some p37, .call, [(.const (.fn 216 [] [])), (.tmp p35), (.tmp p36), (.tmp p9)], none⟩,
  ⟨some p10, .move, [(.tmp p37)], none⟩])
 (.seq (.reg [
  ⟨some p38, .move, [(.tmp p0)], none⟩,
  ⟨some p39, .move, [(.tmp p11)], none⟩,
  ⟨some p40, .call, [(.const (.fn 216 [] [])), (.tmp p38), (.tmp p39), (.tmp p9)], none⟩,
  ⟨some p11, .move, [(.tmp p40)], none⟩])
 (.reg [
  ⟨some p41, .move, [(.tmp p0)], none⟩,
  ⟨some p42, .move, [(.tmp p12)], none⟩,
  ⟨some p43, .call, [(.const (.fn 216 [] [])), (.tmp p41), (.tmp p42), (.tmp p9)], none⟩,
  ⟨some p12, .move, [(.tmp p43)], none⟩])))
 .skip))
 (.reg [
  ⟨some p44, .move, [(.tmp p0)], none⟩,
  ⟨some p45, .move, [(.tmp p10)], none⟩,
  ⟨some p46, .move, [(.tmp p11)], none⟩,
  ⟨some p47, .move, [(.tmp p12)], none⟩,
  ⟨some p48, .call, [(.const (.fn 217 [] [])), (.tmp p44), (.tmp p45), (.tmp p46), (.tmp p47), (.tmp p9)], none⟩,
  ⟨some p11, .move, [(.tmp p48)], none⟩]))
 .skip))
 (.seq (.reg [
  ⟨some p49, (.load false 1), [(.tmp p9)], none⟩])
 (.block 0 [p6, p7] (.seq (.reg [
  ⟨some p52, (.eql (.base .int) false), [(.tmp p49), (.const (.int .i64 (.ofNat 0)))], none⟩,
  ⟨some p51, .move, [(.tmp p52)], none⟩])
 (.cond (.tmp p51)
 (.seq (.reg [
  ⟨some p53, .move, [(.tmp p11)], none⟩,
  ⟨some p6, .move, [(.tmp p53)], none⟩,
  ⟨some p7, .move, [(.const (.int .i64 (.ofNat 1)))], none⟩])
 (.ret [.tmp p6, .tmp p7]))
 (.seq (.reg [
  ⟨some p55, (.eql (.base .int) false), [(.tmp p49), (.const (.int .i64 (.ofNat 12)))], none⟩,
  ⟨some p54, .move, [(.tmp p55)], none⟩])
 (.cond (.tmp p54)
 (.seq (.reg [
  ⟨some p56, .move, [(.tmp p11)], none⟩,
  ⟨some p6, .move, [(.tmp p56)], none⟩,
  ⟨some p7, .move, [(.const (.int .i64 (.ofNat 2)))], none⟩])
 (.ret [.tmp p6, .tmp p7]))
 (.seq (.reg [
  ⟨some p50, .move, [(.tmp p11)], none⟩,
  ⟨some p6, .move, [(.tmp p50)], none⟩,
  ⟨some p7, .move, [(.const (.int .i64 (.ofNat 0)))], none⟩])
 (.ret [.tmp p6, .tmp p7]))))))))))))))),
 [.tmp p6, .tmp p7]⟩
def F181 : IFn := ⟨3,
(.seq (.reg [
  ⟨some p8, .move, [(.tmp p1)], none⟩,
  ⟨some p6, .move, [(.tmp p8)], none⟩])
 (.seq (.reg [
  ⟨some p9, .move, [(.tmp p2)], none⟩,
  ⟨some p10, (.bin .sub), [(.tmp p9), (.const (.int .i64 (.ofNat 1)))], none⟩,
  ⟨some p7, .move, [(.tmp p10)], none⟩])
 (.block 0 [] (.loop [p0, p6, p7] (.seq (.seq (.reg [
  ⟨some p11, .move, [(.tmp p6)], none⟩,
  ⟨some p12, .move, [(.tmp p7)], none⟩,
  ⟨some p13, (.bin .lss), [(.tmp p11), (.tmp p12)], none⟩])
 (.cond (.tmp p13)
 .skip
 (.exit 0 [])))
 (.block 1 [p0, p6, p7] (.seq (.drawn [
  ⟨0, ⟨some p14, .move, [(.tmp p0)], none⟩, .pure, []⟩,
  ⟨1, ⟨some p15, .move, [(.tmp p6)], none⟩, .pure, []⟩,
  ⟨2, ⟨some p16, .move, [(.tmp p0)], none⟩, .pure, []⟩,
  ⟨3, ⟨some p17, .move, [(.tmp p7)], none⟩, .pure, []⟩,
  ⟨4, ⟨some p18, .move, [(.tmp p0)], none⟩, .pure, []⟩,
  ⟨5, ⟨some p19, .move, [(.tmp p7)], none⟩, .pure, []⟩,
  ⟨6, ⟨some p20, (.idxSlice 1), [(.tmp p18), (.tmp p19)], none⟩, .pure, [4, 5]⟩,
  ⟨7, ⟨some p21, (.load false 1), [(.tmp p20)], none⟩, (.read 0 0), [6]⟩,
  ⟨8, ⟨some p22, .move, [(.tmp p0)], none⟩, .pure, []⟩,
  ⟨9, ⟨some p23, .move, [(.tmp p6)], none⟩, .pure, []⟩,
  ⟨10, ⟨some p24, (.idxSlice 1), [(.tmp p22), (.tmp p23)], none⟩, .pure, [8, 9]⟩,
  ⟨11, ⟨some p25, (.load false 1), [(.tmp p24)], none⟩, (.read 0 0), [10]⟩,
  ⟨12, ⟨some p26, (.idxSlice 1), [(.tmp p14), (.tmp p15)], none⟩, .pure, [0, 1, 0, 1, 4, 5, 6, 7, 11]⟩,
  ⟨13, ⟨none, (.store 1), [(.tmp p26), (.tmp p21)], none⟩, .eff, [12, 7, 0, 1, 4, 5, 6, 7, 11]⟩,
  ⟨14, ⟨some p27, (.idxSlice 1), [(.tmp p16), (.tmp p17)], none⟩, .pure, [2, 3, 0, 1, 2, 3, 4, 5, 6, 7, 8, 9, 10, 11, 12, 13]⟩,
  ⟨15, ⟨none, (.store 1), [(.tmp p27), (.tmp p25)], none⟩, .eff, [14, 11, 13, 0, 1, 2, 3, 4, 5, 6, 7, 8, 9, 10, 11, 12, 13]⟩])
 (.seq (.reg [
  ⟨some p28, .move, [(.tmp p6)], none⟩,
  ⟨some p29, (.bin .add), [(.tmp p28), (.const (.int .i64 (.ofNat 1)))], none⟩,
  ⟨some p6, .move, [(.tmp p29)], none⟩])
 (.reg [
  ⟨some p30, .move, [(.tmp p7)], none⟩,
  ⟨some p31, (.bin .sub), [(.tmp p30), (.const (.int .i64 (.ofNat 1)))], none⟩,
  ⟨some p7, .move, [(.tmp p31)], none⟩]))))))))),
 []⟩
def F182 : IFn := ⟨3,
(.seq (.reg [
  ⟨some p6, .move, [(.const (.bool false))], none⟩])
 (.seq (.reg [
  ⟨some p11, .move, [(.tmp p1)], none⟩,
  ⟨some p12, (.bin .add), [(.tmp p11), (.const (.int .i64 (.ofNat 1)))], none⟩,
  ⟨some p7, .move, [(.tmp p12)], none⟩])
 (.seq (.seq (.reg [
  ⟨some p8, .move, [(.const (.int .i64 (.ofNat 0)))], none⟩])
 (.block 0 [] (.loop [p0, p1, p2, p7, p8] (.seq (.seq (.reg [
  ⟨some p13, .move, [(.tmp p8)], none⟩,
  ⟨some p14, (.bin .lss), [(.tmp p13), (.const (.int .i64 (.ofNat 5)))], none⟩])
 (.cond (.tmp p14)
 .skip
 (.exit 0 [])))
 (.seq (.block 1 [p0, p1, p2, p7, p8] (.seq (.block 2 [p0, p1, p2, p7, p8] (.loop [p0, p1, p2, p7, p8] (.seq (.seq (.drawn [
  ⟨0, ⟨some p17, .move, [(.tmp p7)], none⟩, .pure, []⟩,
  ⟨1, ⟨some p18, .move, [(.tmp p2)], none⟩, .pure, []⟩,
  ⟨2, ⟨some p19, (.bin .lss), [(.tmp p17), (.tmp p18)], none⟩, .pure, [0, 1]⟩,
  ⟨3, ⟨some p20, .move, [(.tmp p19)], none⟩, .pure, [2]⟩,
  ⟨4, ⟨some p21, .move, [(.tmp p0)], some (p20, true)⟩, .pure, [3]⟩,
  ⟨5, ⟨some p22, .move, [(.tmp p7)], some (p20, true)⟩, .pure, [3]⟩,
  ⟨6, ⟨some p23, (.idxSlice 1), [(.tmp p21), (.tmp p22)], some (p20, true)⟩, .pure, [4, 5, 3]⟩,
  ⟨7, ⟨some p24, (.load false 1), [(.tmp p23)], some (p20, true)⟩, (.read 0 0), [6, 3]⟩,
  ⟨8, ⟨some p25, .move, [(.tmp p0)], some (p20, true)⟩, .pure, [3]⟩,
  ⟨9, ⟨some p26, .move, [(.tmp p7)], some (p20, true)⟩, .pure, [3]⟩,
  ⟨10, ⟨some p27, (.bin .sub), [(.tmp p26), (.const (.int .i64 (.ofNat 1)))], some (p20, true)⟩, .pure, [9, 3]⟩,
  ⟨11, ⟨some p28, (.idxSlice 1), [(.tmp p25), (.tmp p27)], some (p20, true)⟩, .pure, [8, 10, 3]⟩,
  ⟨12, ⟨some p29, (.load false 1), [(.tmp p28)], some (p20, true)⟩, (.read 0 0), [11, 3]⟩,
  ⟨13, ⟨some p30, .call, [(.const (.fn 183 [] [])), (.tmp p24), (.tmp p29)], some (p20, true)⟩, .eff, [7, 12, 3, 3]⟩,
  ⟨14, ⟨some p31, .not, [(.tmp p30)], some (p20, true)⟩, .pure, [13, 3]⟩,
  ⟨15, ⟨some p32, .pick, [(.tmp p20), (.tmp p31), (.const (.bool false))], none⟩, .pure, [3, 14]⟩])
 (.cond (.tmp p32)
 .skip
 (.exit 2 [p0, p1, p2, p7, p8])))
 (.block 3 [p0, p1, p2, p7, p8] (.reg [
  ⟨some p33, .move, [(.tmp p7)], none⟩,
  ⟨some p34, (.bin .add), [(.tmp p33), (.const (.int .i64 (.ofNat 1)))], none⟩,
  ⟨some p7, .move, [(.tmp p34)], none⟩])))))
 (.seq (.seq (.reg [
  ⟨some p35, .move, [(.tmp p7)], none⟩,
  ⟨some p36, .move, [(.tmp p2)], none⟩,
  ⟨some p37, (.eql (.base .int) false), [(.tmp p35), (.tmp p36)], none⟩])
 (.cond (.tmp p37)
 (.seq (.reg [
  ⟨some p6, .move, [(.const (.bool true))], none⟩])
 (.ret [.tmp p6]))
 .skip))
 (.seq (.seq (.reg [
  ⟨some p38, .move, [(.tmp p2)], none⟩,
  ⟨some p39, .move, [(.tmp p1)], none⟩,
  ⟨some p40, (.bin .sub), [(.tmp p38), (.tmp p39)], none⟩,
  ⟨some p41, (.bin .lss), [(.tmp p40), (.const (.int .i64 (.ofNat 50)))], none⟩])
 (.cond (.tmp p41)
 (.seq (.reg [
  ⟨some p6, .move, [(.const (.bool false))], none⟩])
 (.ret [.tmp p6]))
 .skip))
 (.seq (.drawn [
  ⟨0, ⟨some p42, .move, [(.tmp p0)], none⟩, .pure, []⟩,
  ⟨1, ⟨some p43, .move, [(.tmp p7)], none⟩, .pure, []⟩,
  ⟨2, ⟨some p44, .move, [(.tmp p0)], none⟩, .pure, []⟩,
  ⟨3, ⟨some p45, .move, [(.tmp p7)], none⟩, .pure, []⟩,
  ⟨4, ⟨some p46, (.bin .sub), [(.tmp p45), (.const (.int .i64 (.ofNat 1)))], none⟩, .pure, [3]⟩,
  ⟨5, ⟨some p47, .move, [(.tmp p0)], none⟩, .pure, []⟩,
  ⟨6, ⟨some p48, .move, [(.tmp p7)], none⟩, .pure, []⟩,
  ⟨7, ⟨some p49, (.bin .sub), [(.tmp p48), (.const (.int .i64 (.ofNat 1)))], none⟩, .pure, [6]⟩,
  ⟨8, ⟨some p50, (.idxSlice 1), [(.tmp p47), (.tmp p49)], none⟩, .pure, [5, 7]⟩,
  ⟨9, ⟨some p51, (.load false 1), [(.tmp p50)], none⟩, (.read 0 0), [8]⟩,
  ⟨10, ⟨some p52, .move, [(.tmp p0)], none⟩, .pure, []⟩,
  ⟨11, ⟨some p53, .move, [(.tmp p7)], none⟩, .pure, []⟩,
  ⟨12, ⟨some p54, (.idxSlice 1), [(.tmp p52), (.tmp p53)], none⟩, .pure, [10, 11]⟩,
  ⟨13, ⟨some p55, (.load false 1), [(.tmp p54)], none⟩, (.read 0 0), [12]⟩,
  ⟨14, ⟨some p56, (.idxSlice 1), [(.tmp p42), (.tmp p43)], none⟩, .pure, [0, 1, 0, 1, 5, 6, 7, 8, 9, 13]⟩,
  ⟨15, ⟨none, (.store 1), [(.tmp p56), (.tmp p51)], none⟩, .eff, [14, 9, 0, 1, 5, 6, 7, 8, 9, 13]⟩,
  ⟨16, ⟨some p57, (.idxSlice 1), [(.tmp p44), (.tmp p46)], none⟩, .pure, [2, 4, 0, 1, 2, 3, 4, 5, 6, 7, 8, 9, 10, 11, 12, 13, 14, 15]⟩,
  ⟨17, ⟨none, (.store 1), [(.tmp p57), (.tmp p55)], none⟩, .eff, [16, 13, 15, 0, 1, 2, 3, 4, 5, 6, 7, 8, 9, 10, 11, 12, 13, 14, 15]⟩])
 (.seq (.seq (.reg [
  ⟨some p58, .move, [(.tmp p7)], none⟩,
  ⟨some p59, .move, [(.tmp p1)], none⟩,
  ⟨some p60, (.bin .sub), [(.tmp p58), (.tmp p59)], none⟩,
  ⟨some p61, (.bin .geq), [(.tmp p60), (.const (.int .i64 (.ofNat 2)))], none⟩])
 (.cond (.tmp p61)
 (.seq (.reg [
  ⟨some p62, .move, [(.tmp p7)], none⟩,
  ⟨some p63, (.bin .sub), [(.tmp p62), (.const (.int .i64 (.ofNat 1)))], none⟩,
  ⟨some p9, .move, [(.tmp p63)], none⟩])
 (.block 4 [p0, p1, p2, p7, p8] (.loop [p0, p1, p2, p7, p8, p9] (.seq (.seq (.reg [
  ⟨some p64, .move, [(.tmp p9)], none⟩,
  ⟨some p65, (.bin .geq), [(.tmp p64), (.const (.int .i64 (.ofNat 1)))], none⟩])
 (.cond (.tmp p65)
 .skip
 (.exit 4 [p0, p1, p2, p7, p8])))
 (.seq (.block 5 [p0, p1, p2, p7, p8, p9] (.seq (.seq (.drawn [
  ⟨0, ⟨some p68, .move, [(.tmp p0)], none⟩, .pure, []⟩,
  ⟨1, ⟨some p69, .move, [(.tmp p9)], none⟩, .pure, []⟩,
  ⟨2, ⟨some p70, (.idxSlice 1), [(.tmp p68), (.tmp p69)], none⟩, .pure, [0, 1]⟩,
  ⟨3, ⟨some p71, (.load false 1), [(.tmp p70)], none⟩, (.read 0 0), [2]⟩,
  ⟨4, ⟨some p72, .move, [(.tmp p0)], none⟩, .pure, []⟩,
  ⟨5, ⟨some p73, .move, [(.tmp p9)], none⟩, .pure, []⟩,
  ⟨6, ⟨some p74, (.bin .sub), [(.tmp p73), (.const (.int .i64 (.ofNat 1)))], none⟩, .pure, [5]⟩,
  ⟨7, ⟨some p75, (.idxSlice 1), [(.tmp p72), (.tmp p74)], none⟩, .pure, [4, 6]⟩,
  ⟨8, ⟨some p76, (.load false 1), [(.tmp p75)], none⟩, (.read 0 0), [7]⟩,
  ⟨9, ⟨some p77, .call, [(.const (.fn 183 [] [])), (.tmp p71), (.tmp p76)], none⟩, .eff, [3, 8]⟩,
  ⟨10, ⟨some p78, .not, [(.tmp p77)], none⟩, .pure, [9]⟩])
 (.cond (.tmp p78)
 (.exit 4 [p0, p1, p2, p7, p8])
 .skip))
 (.drawn [
  ⟨0, ⟨some p79, .move, [(.tmp p0)], none⟩, .pure, []⟩,
  ⟨1, ⟨some p80, .move, [(.tmp p9)], none⟩, .pure, []⟩,
  ⟨2, ⟨some p81, .move, [(.tmp p0)], none⟩, .pure, []⟩,
  ⟨3, ⟨some p82, .move, [(.tmp p9)], none⟩, .pure, []⟩,
  ⟨4, ⟨some p83, (.bin .sub), [(.tmp p82), (.const (.int .i64 (.ofNat 1)))], none⟩, .pure, [3]⟩,
  ⟨5, ⟨some p84, .move, [(.tmp p0)], none⟩, .pure, []⟩,
  ⟨6, ⟨some p85, .move, [(.tmp p9)], none⟩, .pure, []⟩,
  ⟨7, ⟨some p86, (.bin .sub), [(.tmp p85), (.const (.int .i64 (.ofNat 1)))], none⟩, .pure, [6]⟩,
  ⟨8, ⟨some p87, (.idxSlice 1), [(.tmp p84), (.tmp p86)], none⟩, .pure, [5, 7]⟩,
  ⟨9, ⟨some p88, (.load false 1), [(.tmp p87)], none⟩, (.read 0 0), [8]⟩,
  ⟨10, ⟨some p89, .move, [(.tmp p0)], none⟩, .pure, []⟩,
  ⟨11, ⟨some p90, .move, [(.tmp p9)], none⟩, .pure, []⟩,
  ⟨12, ⟨some p91, (.idxSlice 1), [(.tmp p89), (.tmp p90)], none⟩, .pure, [10, 11]⟩,
  ⟨13, ⟨some p92, (.load false 1), [(.tmp p91)], none⟩, (.read 0 0), [12]⟩,
  ⟨14, ⟨some p93, (.idxSlice 1), [(.tmp p79), (.tmp p80)], none⟩, .pure, [0, 1, 0, 1, 5, 6, 7, 8, 9, 13]⟩,
  ⟨15, ⟨none, (.store 1), [(.tmp p93), (.tmp p88)], none⟩, .eff, [14, 9, 0, 1, 5, 6, 7, 8, 9, 13]⟩,
  ⟨16, ⟨some p94, (.idxSlice 1), [(.tmp p81), (.tmp p83)], none⟩, .pure, [2, 4, 0, 1, 2, 3, 4, 5, 6, 7, 8, 9, 10, 11, 12, 13, 14, 15]⟩,
  ⟨17, ⟨none, (.store 1), [(.tmp p94), (.tmp p92)], none⟩, .eff, [16, 13, 15, 0, 1, 2, 3, 4, 5, 6, 7, 8, 9, 10, 11, 12, 13, 14, 15]⟩])))
 (.reg [
  ⟨some p66, .move, [(.tmp p9)], none⟩,
  ⟨some p67, (.bin .sub), [(.tmp p66), (.const (.int .i64 (.ofNat 1)))], none⟩,
  ⟨some p9, .move, [(.tmp p67)], none⟩]))))))
 .skip))
 (.seq (.reg [
  ⟨some p95, .move, [(.tmp p2)], none⟩,
  ⟨some p96, .move, [(.tmp p7)], none⟩,
  ⟨some p97, (.bin .sub), [(.tmp p95), (.tmp p96)], none⟩,
  ⟨some p98, (.bin .geq), [(.tmp p97), (.const (.int .i64 (.ofNat 2)))], none⟩])
 (.cond (.tmp p98)
 (.seq (.reg [
  ⟨some p99, .move, [(.tmp p7)], none⟩,
  ⟨some p100, (.bin .add), [(.tmp p99), (.const (.int .i64 (.ofNat 1)))], none⟩,
  ⟨some p10, .move, [(.tmp p100)], none⟩])
 (.block 6 [p0, p1, p2, p7, p8] (.loop [p0, p1, p2, p7, p8, p10] (.seq (.seq (.reg [
  ⟨some p101, .move, [(.tmp p10)], none⟩,
  ⟨some p102, .move, [(.tmp p2)], none⟩,
  ⟨some p103, (.bin .lss), [(.tmp p101), (.tmp p102)], none⟩])
 (.cond (.tmp p103)
 .skip
 (.exit 6 [p0, p1, p2, p7, p8])))
 (.seq (.block 7 [p0, p1, p2, p7, p8, p10] (.seq (.seq (.drawn [
  ⟨0, ⟨some p106, .move, [(.tmp p0)], none⟩, .pure, []⟩,
  ⟨1, ⟨some p107, .move, [(.tmp p10)], none⟩, .pure, []⟩,
  ⟨2, ⟨some p108, (.idxSlice 1), [(.tmp p106), (.tmp p107)], none⟩, .pure, [0, 1]⟩,
  ⟨3, ⟨some p109, (.load false 1), [(.tmp p108)], none⟩, (.read 0 0), [2]⟩,
  ⟨4, ⟨some p110, .move, [(.tmp p0)], none⟩, .pure, []⟩,
  ⟨5, ⟨some p111, .move, [(.tmp p10)], none⟩, .pure, []⟩,
  ⟨6, ⟨some p112, (.bin .sub), [(.tmp p111), (.const (.int .i64 (.ofNat 1)))], none⟩, .pure, [5]⟩,
  ⟨7, ⟨some p113, (.idxSlice 1), [(.tmp p110), (.tmp p112)], none⟩, .pure, [4, 6]⟩,
  ⟨8, ⟨some p114, (.load false 1), [(.tmp p113)], none⟩, (.read 0 0), [7]⟩,
  ⟨9, ⟨some p115, .call, [(.const (.fn 183 [] [])), (.tmp p109), (.tmp p114)], none⟩, .eff, [3, 8]⟩,
  ⟨10, ⟨some p116, .not, [(.tmp p115)], none⟩, .pure, [9]⟩])
 (.cond (.tmp p116)
 (.exit 6 [p0, p1, p2, p7, p8])
 .skip))
 (.drawn [
  ⟨0, ⟨some p117, .move, [(.tmp p0)], none⟩, .pure, []⟩,
  ⟨1, ⟨some p118, .move, [(.tmp p10)], none⟩, .pure, []⟩,
  ⟨2, ⟨some p119, .move, [(.tmp p0)], none⟩, .pure, []⟩,
  ⟨3, ⟨some p120, .move, [(.tmp p10)], none⟩, .pure, []⟩,
  ⟨4, ⟨some p121, (.bin .sub), [(.tmp p120), (.const (.int .i64 (.ofNat 1)))], none⟩, .pure, [3]⟩,
  ⟨5, ⟨some p122, .move, [(.tmp p0)], none⟩, .pure, []⟩,
  ⟨6, ⟨some p123, .move, [(.tmp p10)], none⟩, .pure, []⟩,
  ⟨7, ⟨some p124, (.bin .sub), [(.tmp p123), (.const (.int .i64 (.ofNat 1)))], none⟩, .pure, [6]⟩,
  ⟨8, ⟨some p125, (.idxSlice 1), [(.tmp p122), (.tmp p124)], none⟩, .pure, [5, 7]⟩,
  ⟨9, ⟨some p126, (.load false 1), [(.tmp p125)], none⟩, (.read 0 0), [8]⟩,
  ⟨10, ⟨some p127, .move, [(.tmp p0)], none⟩, .pure, []⟩,
  ⟨11, ⟨some p128, .move, [(.tmp p10)], none⟩, .pure, []⟩,
  ⟨12, ⟨some p129, (.idxSlice 1), [(.tmp p127), (.tmp p128)], none⟩, .pure, [10, 11]⟩,
  ⟨13, ⟨some p130, (.load false 1), [(.tmp p129)], none⟩, (.read 0 0), [12]⟩,
  ⟨14, ⟨some p131, (.idxSlice 1), [(.tmp p117), (.tmp p118)], none⟩, .pure, [0, 1, 0, 1, 5, 6, 7, 8, 9, 13]⟩,
  ⟨15, ⟨none, (.store 1), [(.tmp p131), (.tmp p126)], none⟩, .eff, [14, 9, 0, 1, 5, 6, 7, 8, 9, 13]⟩,
  ⟨16, ⟨some p132, (.idxSlice 1), [(.tmp p119), (.tmp p121)], none⟩, .pure, [2, 4, 0, 1, 2, 3, 4, 5, 6, 7, 8, 9, 10, 11, 12, 13, 14, 15]⟩,
  ⟨17, ⟨none, (.store 1), [(.tmp p132), (.tmp p130)], none⟩, .eff, [16, 13, 15, 0, 1, 2, 3, 4, 5, 6, 7, 8, 9, 10, 11, 12, 13, 14, 15]⟩])))
 (.reg [
  ⟨some p104, .move, [(.tmp p10)], none⟩,
  ⟨some p105, (.bin .add), [(.tmp p104), (.const (.int .i64 (.ofNat 1)))], none⟩,
  ⟨some p10, .move, [(.tmp p105)], none⟩]))))))
 .skip))))))))
 (.reg [
  ⟨some p15, .move, [(.tmp p8)], none⟩,
  ⟨some p16, (.bin .add), [(.tmp p15), (.const (.int .i64 (.ofNat 1)))], none⟩,
  ⟨some p8, .move, [(.tmp p16)], none⟩]))))))
 (.seq (.reg [
  ⟨some p6, .move, [(.const (.bool false))], none⟩])
 (.ret [.tmp p6]))))),
 [.tmp p6]⟩
def F183 : IFn := ⟨2,
(.seq (.reg [
  ⟨some p4, .move, [(.const (.bool false))], none⟩])
 (.seq (.reg [
  ⟨some p5, .move, [(.tmp p0)], none⟩,
  ⟨some p6, .call, [(.const (.fn 218 [] [])), (.tmp p5)], none⟩,
  ⟨some p7, .move, [(.tmp p6)], none⟩,
  ⟨some p8, .move, [(.tmp p1)], some (p7, true)⟩,
  ⟨some p9, .call, [(.const (.fn 218 [] [])), (.tmp p8)], some (p7, true)⟩,
  ⟨some p10, .not, [(.tmp p9)], some (p7, true)⟩,
  ⟨some p11, .pick, [(.tmp p7), (.tmp p10), (.const (.bool false))], none⟩,
  ⟨some p12, .move, [(.tmp p11)], none⟩,
  ⟨some p13, .move, [(.tmp p0)], some (p12, false)⟩,
  ⟨some p14, .move, [(.tmp p1)], some (p12, false)⟩,
  ⟨some p15, (.bin .lss), [(.tmp p13), (.tmp p14)], some (p12, false)⟩,
  ⟨some p16, .pick, [(.tmp p12), (.const (.bool true)), (.tmp p15)], none⟩,
  ⟨some p4, .move, [(.tmp p16)], none⟩])
 (.ret [.tmp p4]))),
 [.tmp p4]⟩
def F184 : IFn := ⟨4,
(.seq (.reg [
  ⟨some p8, .move, [(.const (.int .i64 (.ofNat 0)))], none⟩])
 (.seq (.drawn [
  ⟨0, ⟨some p11, .move, [(.tmp p0)], none⟩, .pure, []⟩,
  ⟨1, ⟨some p12, .move, [(.tmp p1)], none⟩, .pure, []⟩,
  ⟨2, ⟨some p13, .move, [(.tmp p0)], none⟩, .pure, []⟩,
  ⟨3, ⟨some p14, .move, [(.tmp p3)], none⟩, .pure, []⟩,
  ⟨4, ⟨some p15, .move, [(.tmp p0)], none⟩, .pure, []⟩,
  ⟨5, ⟨some p16, .move, [(.tmp p3)], none⟩, .pure, []⟩,
  ⟨6, ⟨some p17, (.idxSlice 1), [(.tmp p15), (.tmp p16)], none⟩, .pure, [4, 5]⟩,
  ⟨7, ⟨some p18, (.load false 1), [(.tmp p17)], none⟩, (.read 0 0), [6]⟩,
  ⟨8, ⟨some p19, .move, [(.tmp p0)], none⟩, .pure, []⟩,
  ⟨9, ⟨some p20, .move, [(.tmp p1)], none⟩, .pure, []⟩,
  ⟨10, ⟨some p21, (.idxSlice 1), [(.tmp p19), (.tmp p20)], none⟩, .pure, [8, 9]⟩,
  ⟨11, ⟨some p22, (.load false 1), [(.tmp p21)], none⟩, (.read 0 0), [10]⟩,
  ⟨12, ⟨some p23, (.idxSlice 1), [(.tmp p11), (.tmp p12)], none⟩, .pure, [0, 1, 0, 1, 4, 5, 6, 7, 11]⟩,
  ⟨13, ⟨none, (.store 1), [(.tmp p23), (.tmp p18)], none⟩, .eff, [12, 7, 0, 1, 4, 5, 6, 7, 11]⟩,
  ⟨14, ⟨some p24, (.idxSlice 1), [(.tmp p13), (.tmp p14)], none⟩, .pure, [2, 3, 0, 1, 2, 3, 4, 5, 6, 7, 8, 9, 10, 11, 12, 13]⟩,
  ⟨15, ⟨none, (.store 1), [(.tmp p24), (.tmp p22)], none⟩, .eff, [14, 11, 13, 0, 1, 2, 3, 4, 5, 6, 7, 8, 9, 10, 11, 12, 13]⟩])
 (.seq (.reg [
  ⟨some p25, .move, [(.tmp p1)], none⟩,
  ⟨some p26, (.bin .add), [(.tmp p25), (.const (.int .i64 (.ofNat 1)))], none⟩,
  ⟨some p27, .move, [(.tmp p2)], none⟩,
  ⟨some p28, (.bin .sub), [(.tmp p27), (.const (.int .i64 (.ofNat 1)))], none⟩,
  ⟨some p9, .move, [(.tmp p26)], none⟩,
  ⟨some p10, .move, [(.tmp p28)], none⟩])
 (.seq (.block 0 [p9] (.loop [p0, p1, p9, p10] (.block 1 [p0, p1, p9, p10] (.seq (.block 2 [p0, p1, p9, p10] (.loop [p0, p1, p9, p10] (.seq (.seq (.drawn [
  ⟨0, ⟨some p29, .move, [(.tmp p9)], none⟩, .pure, []⟩,
  ⟨1, ⟨some p30, .move, [(.tmp p10)], none⟩, .pure, []⟩,
  ⟨2, ⟨some p31, (.bin .leq), [(.tmp p29), (.tmp p30)], none⟩, .pure, [0, 1]⟩,
  ⟨3, ⟨some p32, .move, [(.tmp p31)], none⟩, .pure, [2]⟩,
  ⟨4, ⟨some p33, .move, [(.tmp p0)], some (p32, true)⟩, .pure, [3]⟩,
  ⟨5, ⟨some p34, .move, [(.tmp p1)], some (p32, true)⟩, .pure, [3]⟩,
  ⟨6, ⟨some p35, (.idxSlice 1), [(.tmp p33), (.tmp p34)], some (p32, true)⟩, .pure, [4, 5, 3]⟩,
  ⟨7, ⟨some p36, (.load false 1), [(.tmp p35)], some (p32, true)⟩, (.read 0 0), [6, 3]⟩,
  ⟨8, ⟨some p37, .move, [(.tmp p0)], some (p32, true)⟩, .pure, [3]⟩,
  ⟨9, ⟨some p38, .move, [(.tmp p9)], some (p32, true)⟩, .pure, [3]⟩,
  ⟨10, ⟨some p39, (.idxSlice 1), [(.tmp p37), (.tmp p38)], some (p32, true)⟩, .pure, [8, 9, 3]⟩,
  ⟨11, ⟨some p40, (.load false 1), [(.tmp p39)], some (p32, true)⟩, (.read 0 0), [10, 3]⟩,
  ⟨12, ⟨some p41, .call, [(.const (.fn 183 [] [])), (.tmp p36), (.tmp p40)], some (p32, true)⟩, .eff, [7, 11, 3, 3]⟩,
  ⟨13, ⟨some p42, .not, [(.tmp p41)], some (p32, true)⟩, .pure, [12, 3]⟩,
  ⟨14, ⟨some p43, .pick, [(.tmp p32), (.tmp p42), (.const (.bool false))], none⟩, .pure, [3, 13]⟩])
 (.cond (.tmp p43)
 .skip
 (.exit 2 [p0, p1, p9, p10])))
 (.block 3 [p0, p1, p9, p10] (.reg [
  ⟨some p44, .move, [(.tmp p9)], none⟩,
  ⟨some p45, (.bin .add), [(.tmp p44), (.const (.int .i64 (.ofNat 1)))], none⟩,
  ⟨some p9, .move, [(.tmp p45)], none⟩])))))
 (.seq (.block 4 [p0, p1, p9, p10] (.loop [p0, p1, p9, p10] (.seq (.seq (.drawn [
  ⟨0, ⟨some p46, .move, [(.tmp p9)], none⟩, .pure, []⟩,
  ⟨1, ⟨some p47, .move, [(.tmp p10)], none⟩, .pure, []⟩,
  ⟨2, ⟨some p48, (.bin .leq), [(.tmp p46), (.tmp p47)], none⟩, .pure, [0, 1]⟩,
  ⟨3, ⟨some p49, .move, [(.tmp p48)], none⟩, .pure, [2]⟩,
  ⟨4, ⟨some p50, .move, [(.tmp p0)], some (p49, true)⟩, .pure, [3]⟩,
  ⟨5, ⟨some p51, .move, [(.tmp p1)], some (p49, true)⟩, .pure, [3]⟩,
  ⟨6, ⟨some p52, (.idxSlice 1), [(.tmp p50), (.tmp p51)], some (p49, true)⟩, .pure, [4, 5, 3]⟩,
  ⟨7, ⟨some p53, (.load false 1), [(.tmp p52)], some (p49, true)⟩, (.read 0 0), [6, 3]⟩,
  ⟨8, ⟨some p54, .move, [(.tmp p0)], some (p49, true)⟩, .pure, [3]⟩,
  ⟨9, ⟨some p55, .move, [(.tmp p10)], some (p49, true)⟩, .pure, [3]⟩,
  ⟨10, ⟨some p56, (.idxSlice 1), [(.tmp p54), (.tmp p55)], some (p49, true)⟩, .pure, [8, 9, 3]⟩,
  ⟨11, ⟨some p57, (.load false 1), [(.tmp p56)], some (p49, true)⟩, (.read 0 0), [10, 3]⟩,
  ⟨12, ⟨some p58, .call, [(.const (.fn 183 [] [])), (.tmp p53), (.tmp p57)], some (p49, true)⟩, .eff, [7, 11, 3, 3]⟩,
  ⟨13, ⟨some p59, .pick, [(.tmp p49), (.tmp p58), (.const (.bool false))], none⟩, .pure, [3, 12]⟩])
 (.cond (.tmp p59)
 .skip
 (.exit 4 [p0, p1, p9, p10])))
 (.block 5 [p0, p1, p9, p10] (.reg [
  ⟨some p60, .move, [(.tmp p10)], none⟩,
  ⟨some p61, (.bin .sub), [(.tmp p60), (.const (.int .i64 (.ofNat 1)))], none⟩,
  ⟨some p10, .move, [(.tmp p61)], none⟩])))))
 (.seq (.seq (.reg [
  ⟨some p62, .move, [(.tmp p9)], none⟩,
  ⟨some p63, .move, [(.tmp p10)], none⟩,
  ⟨some p64, (.bin .gtr), [(.tmp p62), (.tmp p63)], none⟩])
 (.cond (.tmp p64)
 (.exit 0 [p9])
 .skip))
 (.seq (.drawn [
  ⟨0, ⟨some p65, .move, [(.tmp p0)], none⟩, .pure, []⟩,
  ⟨1, ⟨some p66, .move, [(.tmp p9)], none⟩, .pure, []⟩,
  ⟨2, ⟨some p67, .move, [(.tmp p0)], none⟩, .pure, []⟩,
  ⟨3, ⟨some p68, .move, [(.tmp p10)], none⟩, .pure, []⟩,
  ⟨4, ⟨some p69, .move, [(.tmp p0)], none⟩, .pure, []⟩,
  ⟨5, ⟨some p70, .move, [(.tmp p10)], none⟩, .pure, []⟩,
  ⟨6, ⟨some p71, (.idxSlice 1), [(.tmp p69), (.tmp p70)], none⟩, .pure, [4, 5]⟩,
  ⟨7, ⟨some p72, (.load false 1), [(.tmp p71)], none⟩, (.read 0 0), [6]⟩,
  ⟨8, ⟨some p73, .move, [(.tmp p0)], none⟩, .pure, []⟩,
  ⟨9, ⟨some p74, .move, [(.tmp p9)], none⟩, .pure, []⟩,
  ⟨10, ⟨some p75, (.idxSlice 1), [(.tmp p73), (.tmp p74)], none⟩, .pure, [8, 9]⟩,
  ⟨11, ⟨some p76, (.load false 1), [(.tmp p75)], none⟩, (.read 0 0), [10]⟩,
  ⟨12, ⟨some p77, (.idxSlice 1), [(.tmp p65), (.tmp p66)], none⟩, .pure, [0, 1, 0, 1, 4, 5, 6, 7, 11]⟩,
  ⟨13, ⟨none, (.store 1), [(.tmp p77), (.tmp p72)], none⟩, .eff, [12, 7, 0, 1, 4, 5, 6, 7, 11]⟩,
  ⟨14, ⟨some p78, (.idxSlice 1), [(.tmp p67), (.tmp p68)], none⟩, .pure, [2, 3, 0, 1, 2, 3, 4, 5, 6, 7, 8, 9, 10, 11, 12, 13]⟩,
  ⟨15, ⟨none, (.store 1), [(.tmp p78), (.tmp p76)], none⟩, .eff, [14, 11, 13, 0, 1, 2, 3, 4, 5, 6, 7, 8, 9, 10, 11, 12, 13]⟩])
 (.seq (.reg [
  ⟨some p79, .move, [(.tmp p9)], none⟩,
  ⟨some p80, (.bin .add), [(.tmp p79), (.const (.int .i64 (.ofNat 1)))], none⟩,
  ⟨some p9, .move, [(.tmp p80)], none⟩])
 (.reg [
  ⟨some p81, .move, [(.tmp p10)], none⟩,
  ⟨some p82, (.bin .sub), [(.tmp p81), (.const (.int .i64 (.ofNat 1)))], none⟩,
  ⟨some p10, .move, [(.tmp p82)], none⟩])))))))))
 (.seq (.reg [
  ⟨some p83, .move, [(.tmp p9)], none⟩,
  ⟨some p8, .move, [(.tmp p83)], none⟩])
 (.ret [.tmp p8])))))),
 [.tmp p8]⟩
def F185 : IFn := ⟨4,
(.seq (.reg [
  ⟨some p8, .move, [(.const (.int .i64 (.ofNat 0)))], none⟩,
  ⟨some p9, .move, [(.const (.bool false))], none⟩])
 (.seq (.drawn [
  ⟨0, ⟨some p12, .move, [(.tmp p0)], none⟩, .pure, []⟩,
  ⟨1, ⟨some p13, .move, [(.tmp p1)], none⟩, .pure, []⟩,
  ⟨2, ⟨some p14, .move, [(.tmp p0)], none⟩, .pure, []⟩,
  ⟨3, ⟨some p15, .move, [(.tmp p3)], none⟩, .pure, []⟩,
  ⟨4, ⟨some p16, .move, [(.tmp p0)], none⟩, .pure, []⟩,
  ⟨5, ⟨some p17, .move, [(.tmp p3)], none⟩, .pure, []⟩,
  ⟨6, ⟨some p18, (.idxSlice 1), [(.tmp p16), (.tmp p17)], none⟩, .pure, [4, 5]⟩,
  ⟨7, ⟨some p19, (.load false 1), [(.tmp p18)], none⟩, (.read 0 0), [6]⟩,
  ⟨8, ⟨some p20, .move, [(.tmp p0)], none⟩, .pure, []⟩,
  ⟨9, ⟨some p21, .move, [(.tmp p1)], none⟩, .pure, []⟩,
  ⟨10, ⟨some p22, (.idxSlice 1), [(.tmp p20), (.tmp p21)], none⟩, .pure, [8, 9]⟩,
  ⟨11, ⟨some p23, (.load false 1), [(.tmp p22)], none⟩, (.read 0 0), [10]⟩,
  ⟨12, ⟨some p24, (.idxSlice 1), [(.tmp p12), (.tmp p13)], none⟩, .pure, [0, 1, 0, 1, 4, 5, 6, 7, 11]⟩,
  ⟨13, ⟨none, (.store 1), [(.tmp p24), (.tmp p19)], none⟩, .eff, [12, 7, 0, 1, 4, 5, 6, 7, 11]⟩,
  ⟨14, ⟨some p25, (.idxSlice 1), [(.tmp p14), (.tmp p15)], none⟩, .pure, [2, 3, 0, 1, 2, 3, 4, 5, 6, 7, 8, 9, 10, 11, 12, 13]⟩,
  ⟨15, ⟨none, (.store 1), [(.tmp p25), (.tmp p23)], none⟩, .eff, [14, 11, 13, 0, 1, 2, 3, 4, 5, 6, 7, 8, 9, 10, 11, 12, 13]⟩])
 (.seq (.reg [
  ⟨some p26, .move, [(.tmp p1)], none⟩,
  ⟨some p27, (.bin .add), [(.tmp p26), (.const (.int .i64 (.ofNat 1)))], none⟩,
  ⟨some p28, .move, [(.tmp p2)], none⟩,
  ⟨some p29, (.bin .sub), [(.tmp p28), (.const (.int .i64 (.ofNat 1)))], none⟩,
  ⟨some p10, .move, [(.tmp p27)], none⟩,
  ⟨some p11, .move, [(.tmp p29)], none⟩])
 (.seq (.block 0 [p0, p1, p10, p11] (.loop [p0, p1, p10, p11] (.seq (.seq (.drawn [
  ⟨0, ⟨some p30, .move, [(.tmp p10)], none⟩, .pure, []⟩,
  ⟨1, ⟨some p31, .move, [(.tmp p11)], none⟩, .pure, []⟩,
  ⟨2, ⟨some p32, (.bin .leq), [(.tmp p30), (.tmp p31)], none⟩, .pure, [0, 1]⟩,
  ⟨3, ⟨some p33, .move, [(.tmp p32)], none⟩, .pure, [2]⟩,
  ⟨4, ⟨some p34, .move, [(.tmp p0)], some (p33, true)⟩, .pure, [3]⟩,
  ⟨5, ⟨some p35, .move, [(.tmp p10)], some (p33, true)⟩, .pure, [3]⟩,
  ⟨6, ⟨some p36, (.idxSlice 1), [(.tmp p34), (.tmp p35)], some (p33, true)⟩, .pure, [4, 5, 3]⟩,
  ⟨7, ⟨some p37, (.load false 1), [(.tmp p36)], some (p33, true)⟩, (.read 0 0), [6, 3]⟩,
  ⟨8, ⟨some p38, .move, [(.tmp p0)], some (p33, true)⟩, .pure, [3]⟩,
  ⟨9, ⟨some p39, .move, [(.tmp p1)], some (p33, true)⟩, .pure, [3]⟩,
  ⟨10, ⟨some p40, (.idxSlice 1), [(.tmp p38), (.tmp p39)], some (p33, true)⟩, .pure, [8, 9, 3]⟩,
  ⟨11, ⟨some p41, (.load false 1), [(.tmp p40)], some (p33, true)⟩, (.read 0 0), [10, 3]⟩,
  ⟨12, ⟨some p42, .call, [(.const (.fn 183 [] [])), (.tmp p37), (.tmp p41)], some (p33, true)⟩, .eff, [7, 11, 3, 3]⟩,
  ⟨13, ⟨some p43, .pick, [(.tmp p33), (.tmp p42), (.const (.bool false))], none⟩, .pure, [3, 12]⟩])
 (.cond (.tmp p43)
 .skip
 (.exit 0 [p0, p1, p10, p11])))
 (.block 1 [p0, p1, p10, p11] (.reg [
  ⟨some p44, .move, [(.tmp p10)], none⟩,
  ⟨some p45, (.bin .add), [(.tmp p44), (.const (.int .i64 (.ofNat 1)))], none⟩,
  ⟨some p10, .move, [(.tmp p45)], none⟩])))))
 (.seq (.block 2 [p0, p1, p10, p11] (.loop [p0, p1, p10, p11] (.seq (.seq (.drawn [
  ⟨0, ⟨some p46, .move, [(.tmp p10)], none⟩, .pure, []⟩,
  ⟨1, ⟨some p47, .move, [(.tmp p11)], none⟩, .pure, []⟩,
  ⟨2, ⟨some p48, (.bin .leq), [(.tmp p46), (.tmp p47)], none⟩, .pure, [0, 1]⟩,
  ⟨3, ⟨some p49, .move, [(.tmp p48)], none⟩, .pure, [2]⟩,
  ⟨4, ⟨some p50, .move, [(.tmp p0)], some (p49, true)⟩, .pure, [3]⟩,
  ⟨5, ⟨some p51, .move, [(.tmp p11)], some (p49, true)⟩, .pure, [3]⟩,
  ⟨6, ⟨some p52, (.idxSlice 1), [(.tmp p50), (.tmp p51)], some (p49, true)⟩, .pure, [4, 5, 3]⟩,
  ⟨7, ⟨some p53, (.load false 1), [(.tmp p52)], some (p49, true)⟩, (.read 0 0), [6, 3]⟩,
  ⟨8, ⟨some p54, .move, [(.tmp p0)], some (p49, true)⟩, .pure, [3]⟩,
  ⟨9, ⟨some p55, .move, [(.tmp p1)], some (p49, true)⟩, .pure, [3]⟩,
  ⟨10, ⟨some p56, (.idxSlice 1), [(.tmp p54), (.tmp p55)], some (p49, true)⟩, .pure, [8, 9, 3]⟩,
  ⟨11, ⟨some p57, (.load false 1), [(.tmp p56)], some (p49, true)⟩, (.read 0 0), [10, 3]⟩,
  ⟨12, ⟨some p58, .call, [(.const (.fn 183 [] [])), (.tmp p53), (.tmp p57)], some (p49, true)⟩, .eff, [7, 11, 3, 3]⟩,
  ⟨13, ⟨some p59, .not, [(.tmp p58)], some (p49, true)⟩, .pure, [12, 3]⟩,
  ⟨14, ⟨some p60, .pick, [(.tmp p49), (.tmp p59), (.const (.bool false))], none⟩, .pure, [3, 13]⟩])
 (.cond (.tmp p60)
 .skip
 (.exit 2 [p0, p1, p10, p11])))
 (.block 3 [p0, p1, p10, p11] (.reg [
  ⟨some p61, .move, [(.tmp p11)], none⟩,
  ⟨some p62, (.bin .sub), [(.tmp p61), (.const (.int .i64 (.ofNat 1)))], none⟩,
  ⟨some p11, .move, [(.tmp p62)], none⟩])))))
 (.seq (.seq (.reg [
  ⟨some p63, .move, [(.tmp p10)], none⟩,
  ⟨some p64, .move, [(.tmp p11)], none⟩,
  ⟨some p65, (.bin .gtr), [(.tmp p63), (.tmp p64)], none⟩])
 (.cond (.tmp p65)
 (.seq (.drawn [
  ⟨0, ⟨some p66, .move, [(.tmp p0)], none⟩, .pure, []⟩,
  ⟨1, ⟨some p67, .move, [(.tmp p11)], none⟩, .pure, []⟩,
  ⟨2, ⟨some p68, .move, [(.tmp p0)], none⟩, .pure, []⟩,
  ⟨3, ⟨some p69, .move, [(.tmp p1)], none⟩, .pure, []⟩,
  ⟨4, ⟨some p70, .move, [(.tmp p0)], none⟩, .pure, []⟩,
  ⟨5, ⟨some p71, .move, [(.tmp p1)], none⟩, .pure, []⟩,
  ⟨6, ⟨some p72, (.idxSlice 1), [(.tmp p70), (.tmp p71)], none⟩, .pure, [4, 5]⟩,
  ⟨7, ⟨some p73, (.load false 1), [(.tmp p72)], none⟩, (.read 0 0), [6]⟩,
  ⟨8, ⟨some p74, .move, [(.tmp p0)], none⟩, .pure, []⟩,
  ⟨9, ⟨some p75, .move, [(.tmp p11)], none⟩, .pure, []⟩,
  ⟨10, ⟨some p76, (.idxSlice 1), [(.tmp p74), (.tmp p75)], none⟩, .pure, [8, 9]⟩,
  ⟨11, ⟨some p77, (.load false 1), [(.tmp p76)], none⟩, (.read 0 0), [10]⟩,
  ⟨12, ⟨some p78, (.idxSlice 1), [(.tmp p66), (.tmp p67)], none⟩, .pure, [0, 1, 0, 1, 4, 5, 6, 7, 11]⟩,
  ⟨13, ⟨none, (.store 1), [(.tmp p78), (.tmp p73)], none⟩, .eff, [12, 7, 0, 1, 4, 5, 6, 7, 11]⟩,
  ⟨14, ⟨some p79, (.idxSlice 1), [(.tmp p68), (.tmp p69)], none⟩, .pure, [2, 3, 0, 1, 2, 3, 4, 5, 6, 7, 8, 9, 10, 11, 12, 13]⟩,
  ⟨15, ⟨none, (.store 1), [(.tmp p79), (.tmp p77)], none⟩, .eff, [14, 11, 13, 0, 1, 2, 3, 4, 5, 6, 7, 8, 9, 10, 11, 12, 13]⟩])
 (.seq (.reg [
  ⟨some p80, .move, [(.tmp p11)], none⟩,
  ⟨some p8, .move, [(.tmp p80)], none⟩,
  ⟨some p9, .move, [(.const (.bool true))], none⟩])
 (.ret [.tmp p8, .tmp p9])))
 .skip))
 (.seq (.drawn [
  ⟨0, ⟨some p81, .move, [(.tmp p0)], none⟩, .pure, []⟩,
  ⟨1, ⟨some p82, .move, [(.tmp p10)], none⟩, .pure, []⟩,
  ⟨2, ⟨some p83, .move, [(.tmp p0)], none⟩, .pure, []⟩,
  ⟨3, ⟨some p84, .move, [(.tmp p11)], none⟩, .pure, []⟩,
  ⟨4, ⟨some p85, .move, [(.tmp p0)], none⟩, .pure, []⟩,
  ⟨5, ⟨some p86, .move, [(.tmp p11)], none⟩, .pure, []⟩,
  ⟨6, ⟨some p87, (.idxSlice 1), [(.tmp p85), (.tmp p86)], none⟩, .pure, [4, 5]⟩,
  ⟨7, ⟨some p88, (.load false 1), [(.tmp p87)], none⟩, (.read 0 0), [6]⟩,
  ⟨8, ⟨some p89, .move, [(.tmp p0)], none⟩, .pure, []⟩,
  ⟨9, ⟨some p90, .move, [(.tmp p10)], none⟩, .pure, []⟩,
  ⟨10, ⟨some p91, (.idxSlice 1), [(.tmp p89), (.tmp p90)], none⟩, .pure, [8, 9]⟩,
  ⟨11, ⟨some p92, (.load false 1), [(.tmp p91)], none⟩, (.read 0 0), [10]⟩,
  ⟨12, ⟨some p93, (.idxSlice 1), [(.tmp p81), (.tmp p82)], none⟩, .pure, [0, 1, 0, 1, 4, 5, 6, 7, 11]⟩,
  ⟨13, ⟨none, (.store 1), [(.tmp p93), (.tmp p88)], none⟩, .eff, [12, 7, 0, 1, 4, 5, 6, 7, 11]⟩,
  ⟨14, ⟨some p94, (.idxSlice 1), [(.tmp p83), (.tmp p84)], none⟩, .pure, [2, 3, 0, 1, 2, 3, 4, 5, 6, 7, 8, 9, 10, 11, 12, 13]⟩,
  ⟨15, ⟨none, (.store 1), [(.tmp p94), (.tmp p92)], none⟩, .eff, [14, 11, 13, 0, 1, 2, 3, 4, 5, 6, 7, 8, 9, 10, 11, 12, 13]⟩])
 (.seq (.reg [
  ⟨some p95, .move, [(.tmp p10)], none⟩,
  ⟨some p96, (.bin .add), [(.tmp p95), (.const (.int .i64 (.ofNat 1)))], none⟩,
  ⟨some p10, .move, [(.tmp p96)], none⟩])
 (.seq (.reg [
  ⟨some p97, .move, [(.tmp p11)], none⟩,
  ⟨some p98, (.bin .sub), [(.tmp p97), (.const (.int .i64 (.ofNat 1)))], none⟩,
  ⟨some p11, .move, [(.tmp p98)], none⟩])
 (.seq (.block 4 [p0, p1, p11] (.loop [p0, p1, p10, p11] (.block 5 [p0, p1, p10, p11] (.seq (.block 6 [p0, p1, p10, p11] (.loop [p0, p1, p10, p11] (.seq (.seq (.drawn [
  ⟨0, ⟨some p99, .move, [(.tmp p10)], none⟩, .pure, []⟩,
  ⟨1, ⟨some p100, .move, [(.tmp p11)], none⟩, .pure, []⟩,
  ⟨2, ⟨some p101, (.bin .leq), [(.tmp p99), (.tmp p100)], none⟩, .pure, [0, 1]⟩,
  ⟨3, ⟨some p102, .move, [(.tmp p101)], none⟩, .pure, [2]⟩,
  ⟨4, ⟨some p103, .move, [(.tmp p0)], some (p102, true)⟩, .pure, [3]⟩,
  ⟨5, ⟨some p104, .move, [(.tmp p10)], some (p102, true)⟩, .pure, [3]⟩,
  ⟨6, ⟨some p105, (.idxSlice 1), [(.tmp p103), (.tmp p104)], some (p102, true)⟩, .pure, [4, 5, 3]⟩,
  ⟨7, ⟨some p106, (.load false 1), [(.tmp p105)], some (p102, true)⟩, (.read 0 0), [6, 3]⟩,
  ⟨8, ⟨some p107, .move, [(.tmp p0)], some (p102, true)⟩, .pure, [3]⟩,
  ⟨9, ⟨some p108, .move, [(.tmp p1)], some (p102, true)⟩, .pure, [3]⟩,
  ⟨10, ⟨some p109, (.idxSlice 1), [(.tmp p107), (.tmp p108)], some (p102, true)⟩, .pure, [8, 9, 3]⟩,
  ⟨11, ⟨some p110, (.load false 1), [(.tmp p109)], some (p102, true)⟩, (.read 0 0), [10, 3]⟩,
  ⟨12, ⟨some p111, .call, [(.const (.fn 183 [] [])), (.tmp p106), (.tmp p110)], some (p102, true)⟩, .eff, [7, 11, 3, 3]⟩,
  ⟨13, ⟨some p112, .pick, [(.tmp p102), (.tmp p111), (.const (.bool false))], none⟩, .pure, [3, 12]⟩])
 (.cond (.tmp p112)
 .skip
 (.exit 6 [p0, p1, p10, p11])))
 (.block 7 [p0, p1, p10, p11] (.reg [
  ⟨some p113, .move, [(.tmp p10)], none⟩,
  ⟨some p114, (.bin .add), [(.tmp p113), (.const (.int .i64 (.ofNat 1)))], none⟩,
  ⟨some p10, .move, [(.tmp p114)], none⟩])))))
 (.seq (.block 8 [p0, p1, p10, p11] (.loop [p0, p1, p10, p11] (.seq (.seq (.drawn [
  ⟨0, ⟨some p115, .move, [(.tmp p10)], none⟩, .pure, []⟩,
  ⟨1, ⟨some p116, .move, [(.tmp p11)], none⟩, .pure, []⟩,
  ⟨2, ⟨some p117, (.bin .leq), [(.tmp p115), (.tmp p116)], none⟩, .pure, [0, 1]⟩,
  ⟨3, ⟨some p118, .move, [(.tmp p117)], none⟩, .pure, [2]⟩,
  ⟨4, ⟨some p119, .move, [(.tmp p0)], some (p118, true)⟩, .pure, [3]⟩,
  ⟨5, ⟨some p120, .move, [(.tmp p11)], some (p118, true)⟩, .pure, [3]⟩,
  ⟨6, ⟨some p121, (.idxSlice 1), [(.tmp p119), (.tmp p120)], some (p118, true)⟩, .pure, [4, 5, 3]⟩,
  ⟨7, ⟨some p122, (.load false 1), [(.tmp p121)], some (p118, true)⟩, (.read 0 0), [6, 3]⟩,
  ⟨8, ⟨some p123, .move, [(.tmp p0)], some (p118, true)⟩, .pure, [3]⟩,
  ⟨9, ⟨some p124, .move, [(.tmp p1)], some (p118, true)⟩, .pure, [3]⟩,
  ⟨10, ⟨some p125, (.idxSlice 1), [(.tmp p123), (.tmp p124)], some (p118, true)⟩, .pure, [8, 9, 3]⟩,
  ⟨11, ⟨some p126, (.load false 1), [(.tmp p125)], some (p118, true)⟩, (.read 0 0), [10, 3]⟩,
  ⟨12, ⟨some p127, .call, [(.const (.fn 183 [] [])), (.tmp p122), (.tmp p126)], some (p118, true)⟩, .eff, [7, 11, 3, 3]⟩,
  ⟨13, ⟨some p128, .not, [(.tmp p127)], some (p118, true)⟩, .pure, [12, 3]⟩,
  ⟨14, ⟨some p129, .pick, [(.tmp p118), (.tmp p128), (.const (.bool false))], none⟩, .pure, [3, 13]⟩])
 (.cond (.tmp p129)
 .skip
 (.exit 8 [p0, p1, p10, p11])))
 (.block 9 [p0, p1, p10, p11] (.reg [
  ⟨some p130, .move, [(.tmp p11)], none⟩,
  ⟨some p131, (.bin .sub), [(.tmp p130), (.const (.int .i64 (.ofNat 1)))], none⟩,
  ⟨some p11, .move, [(.tmp p131)], none⟩])))))
 (.seq (.seq (.reg [
  ⟨some p132, .move, [(.tmp p10)], none⟩,
  ⟨some p133, .move, [(.tmp p11)], none⟩,
  ⟨some p134, (.bin .gtr), [(.tmp p132), (.tmp p133)], none⟩])
 (.cond (.tmp p134)
 (.exit 4 [p0, p1, p11])
 .skip))
 (.seq (.drawn [
  ⟨0, ⟨some p135, .move, [(.tmp p0)], none⟩, .pure, []⟩,
  ⟨1, ⟨some p136, .move, [(.tmp p10)], none⟩, .pure, []⟩,
  ⟨2, ⟨some p137, .move, [(.tmp p0)], none⟩, .pure, []⟩,
  ⟨3, ⟨some p138, .move, [(.tmp p11)], none⟩, .pure, []⟩,
  ⟨4, ⟨some p139, .move, [(.tmp p0)], none⟩, .pure, []⟩,
  ⟨5, ⟨some p140, .move, [(.tmp p11)], none⟩, .pure, []⟩,
  ⟨6, ⟨some p141, (.idxSlice 1), [(.tmp p139), (.tmp p140)], none⟩, .pure, [4, 5]⟩,
  ⟨7, ⟨some p142, (.load false 1), [(.tmp p141)], none⟩, (.read 0 0), [6]⟩,
  ⟨8, ⟨some p143, .move, [(.tmp p0)], none⟩, .pure, []⟩,
  ⟨9, ⟨some p144, .move, [(.tmp p10)], none⟩, .pure, []⟩,
  ⟨10, ⟨some p145, (.idxSlice 1), [(.tmp p143), (.tmp p144)], none⟩, .pure, [8, 9]⟩,
  ⟨11, ⟨some p146, (.load false 1), [(.tmp p145)], none⟩, (.read 0 0), [10]⟩,
  ⟨12, ⟨some p147, (.idxSlice 1), [(.tmp p135), (.tmp p136)], none⟩, .pure, [0, 1, 0, 1, 4, 5, 6, 7, 11]⟩,
  ⟨13, ⟨none, (.store 1), [(.tmp p147), (.tmp p142)], none⟩, .eff, [12, 7, 0, 1, 4, 5, 6, 7, 11]⟩,
  ⟨14, ⟨some p148, (.idxSlice 1), [(.tmp p137), (.tmp p138)], none⟩, .pure, [2, 3, 0, 1, 2, 3, 4, 5, 6, 7, 8, 9, 10, 11, 12, 13]⟩,
  ⟨15, ⟨none, (.store 1), [(.tmp p148), (.tmp p146)], none⟩, .eff, [14, 11, 13, 0, 1, 2, 3, 4, 5, 6, 7, 8, 9, 10, 11, 12, 13]⟩])
 (.seq (.reg [
  ⟨some p149, .move, [(.tmp p10)], none⟩,
  ⟨some p150, (.bin .add), [(.tmp p149), (.const (.int .i64 (.ofNat 1)))], none⟩,
  ⟨some p10, .move, [(.tmp p150)], none⟩])
 (.reg [
  ⟨some p151, .move, [(.tmp p11)], none⟩,
  ⟨some p152, (.bin .sub), [(.tmp p151), (.const (.int .i64 (.ofNat 1)))], none⟩,
  ⟨some p11, .move, [(.tmp p152)], none⟩])))))))))
 (.seq (.drawn [
  ⟨0, ⟨some p153, .move, [(.tmp p0)], none⟩, .pure, []⟩,
  ⟨1, ⟨some p154, .move, [(.tmp p11)], none⟩, .pure, []⟩,
  ⟨2, ⟨some p155, .move, [(.tmp p0)], none⟩, .pure, []⟩,
  ⟨3, ⟨some p156, .move, [(.tmp p1)], none⟩, .pure, []⟩,
  ⟨4, ⟨some p157, .move, [(.tmp p0)], none⟩, .pure, []⟩,
  ⟨5, ⟨some p158, .move, [(.tmp p1)], none⟩, .pure, []⟩,
  ⟨6, ⟨some p159, (.idxSlice 1), [(.tmp p157), (.tmp p158)], none⟩, .pure, [4, 5]⟩,
  ⟨7, ⟨some p160, (.load false 1), [(.tmp p159)], none⟩, (.read 0 0), [6]⟩,
  ⟨8, ⟨some p161, .move, [(.tmp p0)], none⟩, .pure, []⟩,
  ⟨9, ⟨some p162, .move, [(.tmp p11)], none⟩, .pure, []⟩,
  ⟨10, ⟨some p163, (.idxSlice 1), [(.tmp p161), (.tmp p162)], none⟩, .pure, [8, 9]⟩,
  ⟨11, ⟨some p164, (.load false 1), [(.tmp p163)], none⟩, (.read 0 0), [10]⟩,
  ⟨12, ⟨some p165, (.idxSlice 1), [(.tmp p153), (.tmp p154)], none⟩, .pure, [0, 1, 0, 1, 4, 5, 6, 7, 11]⟩,
  ⟨13, ⟨none, (.store 1), [(.tmp p165), (.tmp p160)], none⟩, .eff, [12, 7, 0, 1, 4, 5, 6, 7, 11]⟩,
  ⟨14, ⟨some p166, (.idxSlice 1), [(.tmp p155), (.tmp p156)], none⟩, .pure, [2, 3, 0, 1, 2, 3, 4, 5, 6, 7, 8, 9, 10, 11, 12, 13]⟩,
  ⟨15, ⟨none, (.store 1), [(.tmp p166), (.tmp p164)], none⟩, .eff, [14, 11, 13, 0, 1, 2, 3, 4, 5, 6, 7, 8, 9, 10, 11, 12, 13]⟩])
 (.seq (.reg [
  ⟨some p167, .move, [(.tmp p11)], none⟩,
  ⟨some p8, .move, [(.tmp p167)], none⟩,
  ⟨some p9, .move, [(.const (.bool false))], none⟩])
 (.ret [.tmp p8, .tmp p9]))))))))))))),
 [.tmp p8, .tmp p9]⟩
def F186 : IFn := ⟨1,
(.seq (.reg [
  ⟨some p2, .move, [(.const (.int .i64 (.ofNat 0)))], none⟩])
 (.seq (.seq (.reg [
  ⟨some p3, .move, [(.tmp p0)], none⟩,
  ⟨some p4, (.bin .geq), [(.tmp p3), (.const (.int .u32 (.ofNat 65536)))], none⟩])
 (.cond (.tmp p4)
 (.seq (.reg [
  ⟨some p5, .move, [(.tmp p0)], none⟩,
  ⟨some p6, (.bin .shr), [(.tmp p5), (.const (.int .u64 (.ofNat 16)))], none⟩,
  ⟨some p0, .move, [(.tmp p6)], none⟩])
 (.reg [
  ⟨some p2, .move, [(.const (.int .i64 (.ofNat 16)))], none⟩]))
 .skip))
 (.seq (.seq (.reg [
  ⟨some p7, .move, [(.tmp p0)], none⟩,
  ⟨some p8, (.bin .geq), [(.tmp p7), (.const (.int .u32 (.ofNat 256)))], none⟩])
 (.cond (.tmp p8)
 (.seq (.reg [
  ⟨some p9, .move, [(.tmp p0)], none⟩,
  ⟨some p10, (.bin .shr), [(.tmp p9), (.const (.int .u64 (.ofNat 8)))], none⟩,
  ⟨some p0, .move, [(.tmp p10)], none⟩])
 (.reg [
  ⟨some p11, .move, [(.tmp p2)], none⟩,
  ⟨some p12, (.bin .add), [(.tmp p11), (.const (.int .i64 (.ofNat 8)))], none⟩,
  ⟨some p2, .move, [(.tmp p12)], none⟩]))
 .skip))
 (.seq (.reg [
  ⟨some p13, .move, [(.tmp p2)], none⟩,
  ⟨some p14, .move, [(.tmp p0)], none⟩,
  ⟨some p15, (.convInt .u8), [(.tmp p14)], none⟩,
  ⟨some p16, .idxStr, [(.const (.str [0, 1, 2, 2, 3, 3, 3, 3, 4, 4, 4, 4, 4, 4, 4, 4, 5, 5, 5, 5, 5, 5, 5, 5, 5, 5, 5, 5, 5, 5, 5, 5, 6, 6, 6, 6, 6, 6, 6, 6, 6, 6, 6, 6, 6, 6, 6, 6, 6, 6, 6, 6, 6, 6, 6, 6, 6, 6, 6, 6, 6, 6, 6, 6, 7, 7, 7, 7, 7, 7, 7, 7, 7, 7, 7, 7, 7, 7, 7, 7, 7, 7, 7, 7, 7, 7, 7, 7, 7, 7, 7, 7, 7, 7, 7, 7, 7, 7, 7, 7, 7, 7, 7, 7, 7, 7, 7, 7, 7, 7, 7, 7, 7, 7, 7, 7, 7, 7, 7, 7, 7, 7, 7, 7, 7, 7, 7, 7, 8, 8, 8, 8, 8, 8, 8, 8, 8, 8, 8, 8, 8, 8, 8, 8, 8, 8, 8, 8, 8, 8, 8, 8, 8, 8, 8, 8, 8, 8, 8, 8, 8, 8, 8, 8, 8, 8, 8, 8, 8, 8, 8, 8, 8, 8, 8, 8, 8, 8, 8, 8, 8, 8, 8, 8, 8, 8, 8, 8, 8, 8, 8, 8, 8, 8, 8, 8, 8, 8, 8, 8, 8, 8, 8, 8, 8, 8, 8, 8, 8, 8, 8, 8, 8, 8, 8, 8, 8, 8, 8, 8, 8, 8, 8, 8, 8, 8, 8, 8, 8, 8, 8, 8, 8, 8, 8, 8, 8, 8, 8, 8, 8, 8, 8, 8, 8, 8, 8, 8, 8, 8, 8, 8, 8, 8, 8, 8])), (.tmp p15)], none⟩,
  ⟨some p17, (.convInt .i64), [(.tmp p16)], none⟩,
  ⟨some p18, (.bin .add), [(.tmp p13), (.tmp p17)], none⟩,
  ⟨some p2, .move, [(.tmp p18)], none⟩])
 (.ret [.tmp p2]))))),
 [.tmp p2]⟩
def F187 : IFn := ⟨1,
(.seq (.reg [
  ⟨some p2, .move, [(.const (.int .i64 (.ofNat 0)))], none⟩])
 (.seq (.seq (.reg [
  ⟨some p3, .move, [(.tmp p0)], none⟩,
  ⟨some p4, (.bin .geq), [(.tmp p3), (.const (.int .u64 (.ofNat 4294967296)))], none⟩])
 (.cond (.tmp p4)
 (.seq (.reg [
  ⟨some p5, .move, [(.tmp p0)], none⟩,
  ⟨some p6, (.bin .shr), [(.tmp p5), (.const (.int .u64 (.ofNat 32)))], none⟩,
  ⟨some p0, .move, [(.tmp p6)], none⟩])
 (.reg [
  ⟨some p2, .move, [(.const (.int .i64 (.ofNat 32)))], none⟩]))
 .skip))
 (.seq (.seq (.reg [
  ⟨some p7, .move, [(.tmp p0)], none⟩,
  ⟨some p8, (.bin .geq), [(.tmp p7), (.const (.int .u64 (.ofNat 65536)))], none⟩])
 (.cond (.tmp p8)
 (.seq (.reg [
  ⟨some p9, .move, [(.tmp p0)], none⟩,
  ⟨some p10, (.bin .shr), [(.tmp p9), (.const (.int .u64 (.ofNat 16)))], none⟩,
  ⟨some p0, .move, [(.tmp p10)], none⟩])
 (.reg [
  ⟨some p11, .move, [(.tmp p2)], none⟩,
  ⟨some p12, (.bin .add), [(.tmp p11), (.const (.int .i64 (.ofNat 16)))], none⟩,
  ⟨some p2, .move, [(.tmp p12)], none⟩]))
 .skip))
 (.seq (.seq (.reg [
  ⟨some p13, .move, [(.tmp p0)], none⟩,
  ⟨some p14, (.bin .geq), [(.tmp p13), (.const (.int .u64 (.ofNat 256)))], none⟩])
 (.cond (.tmp p14)
 (.seq (.reg [
  ⟨some p15, .move, [(.tmp p0)], none⟩,
  ⟨some p16, (.bin .shr), [(.tmp p15), (.const (.int .u64 (.ofNat 8)))], none⟩,
  ⟨some p0, .move, [(.tmp p16)], none⟩])
 (.reg [
  ⟨some p17, .move, [(.tmp p2)], none⟩,
  ⟨some p18, (.bin .add), [(.tmp p17), (.const (.int .i64 (.ofNat 8)))], none⟩,
  ⟨some p2, .move, [(.tmp p18)], none⟩]))
 .skip))
 (.seq (.reg [
  ⟨some p19, .move, [(.tmp p2)], none⟩,
  ⟨some p20, .move, [(.tmp p0)], none⟩,
  ⟨some p21, (.convInt .u8), [(.tmp p20)], none⟩,
  ⟨some p22, .idxStr, [(.const (.str [0, 1, 2, 2, 3, 3, 3, 3, 4, 4, 4, 4, 4, 4, 4, 4, 5, 5, 5, 5, 5, 5, 5, 5, 5, 5, 5, 5, 5, 5, 5, 5, 6, 6, 6, 6, 6, 6, 6, 6, 6, 6, 6, 6, 6, 6, 6, 6, 6, 6, 6, 6, 6, 6, 6, 6, 6, 6, 6, 6, 6, 6, 6, 6, 7, 7, 7, 7, 7, 7, 7, 7, 7, 7, 7, 7, 7, 7, 7, 7, 7, 7, 7, 7, 7, 7, 7, 7, 7, 7, 7, 7, 7, 7, 7, 7, 7, 7, 7, 7, 7, 7, 7, 7, 7, 7, 7, 7, 7, 7, 7, 7, 7, 7, 7, 7, 7, 7, 7, 7, 7, 7, 7, 7, 7, 7, 7, 7, 8, 8, 8, 8, 8, 8, 8, 8, 8, 8, 8, 8, 8, 8, 8, 8, 8, 8, 8, 8, 8, 8, 8, 8, 8, 8, 8, 8, 8, 8, 8, 8, 8, 8, 8, 8, 8, 8, 8, 8, 8, 8, 8, 8, 8, 8, 8, 8, 8, 8, 8, 8, 8, 8, 8, 8, 8, 8, 8, 8, 8, 8, 8, 8, 8, 8, 8, 8, 8, 8, 8, 8, 8, 8, 8, 8, 8, 8, 8, 8, 8, 8, 8, 8, 8, 8, 8, 8, 8, 8, 8, 8, 8, 8, 8, 8, 8, 8, 8, 8, 8, 8, 8, 8, 8, 8, 8, 8, 8, 8, 8, 8, 8, 8, 8, 8, 8, 8, 8, 8, 8, 8, 8, 8, 8, 8, 8, 8])), (.tmp p21)], none⟩,
  ⟨some p23, (.convInt .i64), [(.tmp p22)], none⟩,
  ⟨some p24, (.bin .add), [(.tmp p19), (.tmp p23)], none⟩,
  ⟨some p2, .move, [(.tmp p24)], none⟩])
 (.ret [.tmp p2])))))),
 [.tmp p2]⟩
def F188 : IFn := ⟨2,
(.seq (.reg [
  ⟨some p4, .move, [(.const (.int .i64 (.ofNat 0)))], none⟩,
  ⟨some p5, .move, [(.const .inil)], none⟩])
 (.seq (.reg [
  ⟨some p6, .move, [(.tmp p0)], none⟩,
  ⟨some p7, .call, [(.const (.fn 219 [] [])), (.tmp p6)], none⟩])
 (.seq (.reg [
  ⟨some p8, .move, [(.tmp p0)], none⟩,
  ⟨some p9, .move, [(.tmp p0)], none⟩,
  ⟨some p10, .nilCheck, [(.tmp p9)], none⟩,
  ⟨some p11, (.fieldAddr 1), [(.tmp p10)], none⟩,
  ⟨some p12, (.load false 1), [(.tmp p11)], none⟩,
  ⟨some p13, .move, [(.tmp p1)], none⟩,
  ⟨some p14, (.append 5 1 1), [(.tmp p12), (.tmp p13)], none⟩,
  ⟨some p15, .nilCheck, [(.tmp p8)], none⟩,
  ⟨some p16, (.fieldAddr 1), [(.tmp p15)], none⟩,
  ⟨none, (.store 1), [(.tmp p16), (.tmp p14)], none⟩])
 (.seq (.reg [
  ⟨some p17, .move, [(.tmp p1)], none⟩,
  ⟨some p18, .lenS, [(.tmp p17)], none⟩,
  ⟨some p4, .move, [(.tmp p18)], none⟩,
  ⟨some p5, .move, [(.const .inil)], none⟩])
 (.ret [.tmp p4, .tmp p5]))))),
 [.tmp p4, .tmp p5]⟩
def F189 : IFn := ⟨1,
(.seq (.reg [
  ⟨some p2, .move, [(.const (.str []))], none⟩])
 (.seq (.seq (.reg [
  ⟨some p3, .move, [(.tmp p0)], none⟩,
  ⟨some p4, (.bin .lss), [(.tmp p3), (.const (.int .i64 (.ofNat 0)))], none⟩,
  ⟨some p5, .move, [(.tmp p4)], none⟩,
  ⟨some p6, .move, [(.tmp p0)], some (p5, false)⟩,
  ⟨some p7, (.bin .gtr), [(.tmp p6), (.const (.int .i64 (.ofNat 4611686018427387904)))], some (p5, false)⟩,
  ⟨some p8, .pick, [(.tmp p5), (.const (.bool true)), (.tmp p7)], none⟩])
 (.cond (.tmp p8)
 (.seq (.reg [
  ⟨some p2, .move, [(.const (.str []))], none⟩])
 (.ret [.tmp p2]))
 .skip))
 (.seq (.reg [
  ⟨some p9, .move, [(.tmp p0)], none⟩,
  ⟨some p10, .call, [(.const (.fn 220 [] [])), (.tmp p9)], none⟩,
  ⟨some p2, .move, [(.tmp p10)], none⟩])
 (.ret [.tmp p2])))),
 [.tmp p2]⟩
def F190 : IFn := ⟨2,
(.seq (.reg [
  ⟨some p4, .move, [(.const .inil)], none⟩])
 (.seq (.reg [
  ⟨some p5, .move, [(.tmp p0)], none⟩,
  ⟨some p6, .call, [(.const (.fn 219 [] [])), (.tmp p5)], none⟩])
 (.seq (.reg [
  ⟨some p7, .move, [(.tmp p0)], none⟩,
  ⟨some p8, .move, [(.tmp p0)], none⟩,
  ⟨some p9, .nilCheck, [(.tmp p8)], none⟩,
  ⟨some p10, (.fieldAddr 1), [(.tmp p9)], none⟩,
  ⟨some p11, (.load false 1), [(.tmp p10)], none⟩,
  ⟨some p12, .move, [(.tmp p1)], none⟩,
  ⟨some p13, (.buildSlice 5 1 [(.int .u8 (.ofNat 0))] 1 [(0, 1)]), [(.tmp p12)], none⟩,
  ⟨some p14, (.append 5 1 1), [(.tmp p11), (.tmp p13)], none⟩,
  ⟨some p15, .nilCheck, [(.tmp p7)], none⟩,
  ⟨some p16, (.fieldAddr 1), [(.tmp p15)], none⟩,
  ⟨none, (.store 1), [(.tmp p16), (.tmp p14)], none⟩])
 (.seq (.reg [
  ⟨some p4, .move, [(.const .inil)], none⟩])
 (.ret [.tmp p4]))))),
 [.tmp p4]⟩
def F192 : IFn := ⟨2,
(.seq (.reg [
  ⟨some p4, .move, [(.const (.int .i64 (.ofNat 0)))], none⟩])
 (.seq (.seq (.reg [
  ⟨some p5, .move, [(.tmp p1)], none⟩,
  ⟨some p6, (.eql (.base .int) false), [(.tmp p5), (.const (.int .i64 (.ofNat 2)))], none⟩])
 (.cond (.tmp p6)
 (.seq (.reg [
  ⟨some p7, .move, [(.tmp p0)], none⟩,
  ⟨some p8, .nilCheck, [(.tmp p7)], none⟩,
  ⟨some p9, (.fieldAddr 2), [(.tmp p8)], none⟩,
  ⟨some p10, (.load false 1), [(.tmp p9)], none⟩,
  ⟨some p4, .move, [(.tmp p10)], none⟩])
 (.ret [.tmp p4]))
 .skip))
 (.seq (.reg [
  ⟨some p11, .move, [(.tmp p0)], none⟩,
  ⟨some p12, .nilCheck, [(.tmp p11)], none⟩,
  ⟨some p13, (.fieldAddr 3), [(.tmp p12)], none⟩,
  ⟨some p14, (.load false 1), [(.tmp p13)], none⟩,
  ⟨some p4, .move, [(.tmp p14)], none⟩])
 (.ret [.tmp p4])))),
 [.tmp p4]⟩
def F193 : IFn := ⟨5,
(.seq (.reg [
  ⟨some p16, .move, [(.tmp p0)], none⟩,
  ⟨some p17, (.invoke 0), [(.tmp p16)], none⟩,
  ⟨some p10, .move, [(.tmp p17)], none⟩])
 (.seq (.reg [
  ⟨some p18, .move, [(.tmp p10)], none⟩,
  ⟨some p19, .move, [(.tmp p10)], none⟩,
  ⟨some p20, .move, [(.tmp p2)], none⟩,
  ⟨some p21, .move, [(.tmp p3)], none⟩,
  ⟨some p22, .nilCheck, [(.tmp p18)], none⟩,
  ⟨some p23, (.fieldAddr 0), [(.tmp p22)], none⟩,
  ⟨none, (.store 1), [(.tmp p23), (.tmp p20)], none⟩,
  ⟨some p24, .nilCheck, [(.tmp p19)], none⟩,
  ⟨some p25, (.fieldAddr 1), [(.tmp p24)], none⟩,
  ⟨none, (.store 1), [(.tmp p25), (.tmp p21)], none⟩])
 (.seq (.drawn [
  ⟨0, ⟨some p26, .move, [(.tmp p1)], none⟩, .pure, []⟩,
  ⟨1, ⟨some p27, .move, [(.tmp p2)], none⟩, .pure, []⟩,
  ⟨2, ⟨some p28, .move, [(.tmp p3)], none⟩, .pure, []⟩,
  ⟨3, ⟨some p29, .move, [(.tmp p10)], none⟩, .pure, []⟩,
  ⟨4, ⟨some p30, .nilCheck, [(.tmp p29)], none⟩, .pure, [3]⟩,
  ⟨5, ⟨some p31, (.fieldAddr 2), [(.tmp p30)], none⟩, .pure, [4]⟩,
  ⟨6, ⟨some p32, (.load false 1), [(.tmp p31)], none⟩, (.read 0 0), [5]⟩,
  ⟨7, ⟨some p33, .move, [(.tmp p10)], none⟩, .pure, []⟩,
  ⟨8, ⟨some p34, .nilCheck, [(.tmp p33)], none⟩, .pure, [7]⟩,
  ⟨9, ⟨some p35, (.fieldAddr 3), [(.tmp p34)], none⟩, .pure, [8]⟩,
  ⟨10, ⟨some p36, (.load false 1), [(.tmp p35)], none⟩, (.read 0 0), [9]⟩,
  ⟨11, ⟨some p37, (.build [(.int .i64 (.ofNat 0)), (.int .i64 (.ofNat 0)), (.int .i64 (.ofNat 0)), (.int .i64 (.ofNat 0)), (.int .i64 (.ofNat 0)), (.int .i64 (.ofNat 0)), (.int .i64 (.ofNat 0))] [(0, 1), (1, 1), (2, 1), (3, 1), (4, 1), (5, 1)]), [(.tmp p26), (.const (.int .i64 (.ofNat 1))), (.tmp p27), (.tmp p28), (.tmp p32), (.tmp p36)], none⟩, .pure, [0, 1, 2, 6, 10]⟩,
  ⟨12, ⟨some p11, (.alloc 82 [(.int .i64 (.ofNat 0)), (.int .i64 (.ofNat 0)), (.int .i64 (.ofNat 0)), (.int .i64 (.ofNat 0)), (.int .i64 (.ofNat 0)), (.int .i64 (.ofNat 0)), (.int .i64 (.ofNat 0))]), [], none⟩, (.alloc 0), []⟩,
  ⟨13, ⟨none, (.store 7), [(.tmp p11), (.tmp p37)], none⟩, .eff, [12, 11, 0, 1, 2, 3, 4, 5, 6, 7, 8, 9, 10, 11, 12]⟩])
 (.seq (.reg [
  ⟨some p39, .move, [(.tmp p0)], none⟩,
  ⟨some p40, (.assertT 243 .pnil true), [(.tmp p39)], none⟩,
  ⟨some p38, .move, [(.tmp p40)], none⟩,
  ⟨some p41, (.extract 0), [(.tmp p38)], none⟩,
  ⟨some p42, (.extract 1), [(.tmp p38)], none⟩,
  ⟨some p12, .move, [(.tmp p41)], none⟩,
  ⟨some p13, .move, [(.tmp p42)], none⟩])
 (.seq (.seq (.reg [
  ⟨some p43, .move, [(.tmp p13)], none⟩,
  ⟨some p44, .not, [(.tmp p43)], none⟩])
 (.cond (.tmp p44)
 (.seq (.reg [
  ⟨some p45, .move, [(.tmp p0)], none⟩,
  ⟨some p46, (.assertT 194 .pnil false), [(.tmp p45)], none⟩,
  ⟨some p47, .nilCheck, [(.tmp p46)], none⟩,
  ⟨some p48, (.fieldAddr 4), [(.tmp p47)], none⟩,
  ⟨some p49, (.load false 1), [(.tmp p48)], none⟩,
  ⟨some p50, (.fieldAddr 6), [(.tmp p11)], none⟩,
  ⟨none, (.store 1), [(.tmp p50), (.tmp p49)], none⟩])
 (.seq (.drawn [
  ⟨0, ⟨some p51, .move, [(.tmp p4)], none⟩, .pure, []⟩,
  ⟨1, ⟨some p52, .move, [(.tmp p4)], none⟩, .pure, []⟩,
  ⟨2, ⟨some p53, .nilCheck, [(.tmp p52)], none⟩, .pure, [1]⟩,
  ⟨3, ⟨some p54, (.load false 1), [(.tmp p53)], none⟩, (.read 0 1), [2]⟩,
  ⟨4, ⟨some p55, (.load true 7), [(.tmp p11)], none⟩, (.read 0 0), []⟩,
  ⟨5, ⟨some p56, (.buildSlice 82 7 [(.int .i64 (.ofNat 0)), (.int .i64 (.ofNat 0)), (.int .i64 (.ofNat 0)), (.int .i64 (.ofNat 0)), (.int .i64 (.ofNat 0)), (.int .i64 (.ofNat 0)), (.int .i64 (.ofNat 0))] 1 [(0, 7)]), [(.tmp p55)], none⟩, .eff, [4]⟩,
  ⟨6, ⟨some p57, (.append 82 7 56), [(.tmp p54), (.tmp p56)], none⟩, .eff, [3, 5]⟩,
  ⟨7, ⟨some p58, .nilCheck, [(.tmp p51)], none⟩, .pure, [0, 0, 1, 2, 3, 4, 5, 6]⟩,
  ⟨8, ⟨none, (.store 1), [(.tmp p58), (.tmp p57)], none⟩, .eff, [7, 6, 6, 0, 1, 2, 3, 4, 5, 6]⟩])
 (.ret [])))
 .skip))
 (.seq (.reg [
  ⟨some p59, .move, [(.tmp p12)], none⟩,
  ⟨some p60, .nilCheck, [(.tmp p59)], none⟩,
  ⟨some p61, (.fieldAddr 4), [(.tmp p60)], none⟩,
  ⟨some p62, (.load false 1), [(.tmp p61)], none⟩,
  ⟨some p63, (.fieldAddr 1), [(.tmp p11)], none⟩,
  ⟨none, (.store 1), [(.tmp p63), (.tmp p62)], none⟩])
 (.seq (.drawn [
  ⟨0, ⟨some p64, .move, [(.tmp p4)], none⟩, .pure, []⟩,
  ⟨1, ⟨some p65, .move, [(.tmp p4)], none⟩, .pure, []⟩,
  ⟨2, ⟨some p66, .nilCheck, [(.tmp p65)], none⟩, .pure, [1]⟩,
  ⟨3, ⟨some p67, (.load false 1), [(.tmp p66)], none⟩, (.read 0 1), [2]⟩,
  ⟨4, ⟨some p68, (.load true 7), [(.tmp p11)], none⟩, (.read 0 0), []⟩,
  ⟨5, ⟨some p69, (.buildSlice 82 7 [(.int .i64 (.ofNat 0)), (.int .i64 (.ofNat 0)), (.int .i64 (.ofNat 0)), (.int .i64 (.ofNat 0)), (.int .i64 (.ofNat 0)), (.int .i64 (.ofNat 0)), (.int .i64 (.ofNat 0))] 1 [(0, 7)]), [(.tmp p68)], none⟩, .eff, [4]⟩,
  ⟨6, ⟨some p70, (.append 82 7 56), [(.tmp p67), (.tmp p69)], none⟩, .eff, [3, 5]⟩,
  ⟨7, ⟨some p71, .nilCheck, [(.tmp p64)], none⟩, .pure, [0, 0, 1, 2, 3, 4, 5, 6]⟩,
  ⟨8, ⟨none, (.store 1), [(.tmp p71), (.tmp p70)], none⟩, .eff, [7, 6, 6, 0, 1, 2, 3, 4, 5, 6]⟩])
 (.seq (.reg [
  ⟨some p72, .move, [(.tmp p12)], none⟩,
  ⟨some p73, .nilCheck, [(.tmp p72)], none⟩,
  ⟨some p74, (.fieldAddr 5), [(.tmp p73)], none⟩,
  ⟨some p75, (.load false 1), [(.tmp p74)], none⟩,
  ⟨some p76, .lenL, [(.tmp p75)], none⟩,
  ⟨some p77, .move, [(.const (.int .i64 (.ofNat 0)))], none⟩])
 (.block 0 [] (.loop [p1, p2, p3, p4, p12, p75, p76, p77] (.seq (.reg [
  ⟨some p78, (.bin .lss), [(.tmp p77), (.tmp p76)], none⟩])
 (.seq (.cond (.tmp p78)
 .skip
 (.exit 0 []))
 (.seq (.block 1 [p1, p2, p3, p4, p12, p75, p76, p77] (.seq (.reg [
  ⟨some p79, (.idxSlice 1), [(.tmp p75), (.tmp p77)], none⟩,
  ⟨some p80, (.load false 1), [(.tmp p79)], none⟩,
  ⟨some p15, .move, [(.tmp p80)], none⟩])
 (.seq (.reg [
  ⟨some p81, .move, [(.tmp p15)], none⟩,
  ⟨some p82, .move, [(.tmp p1)], none⟩,
  ⟨some p83, (.bin .add), [(.tmp p82), (.const (.int .i64 (.ofNat 1)))], none⟩,
  ⟨some p84, .move, [(.tmp p2)], none⟩,
  ⟨some p85, .move, [(.tmp p3)], none⟩,
  ⟨some p86, .move, [(.tmp p4)], none⟩,
  ⟨some p87, .call, [(.const (.fn 193 [] [])), (.tmp p81), (.tmp p83), (.tmp p84), (.tmp p85), (.tmp p86)], none⟩])
 (.seq (.reg [
  ⟨some p88, .move, [(.tmp p12)], none⟩,
  ⟨some p89, .nilCheck, [(.tmp p88)], none⟩,
  ⟨some p90, (.fieldAddr 4), [(.tmp p89)], none⟩,
  ⟨some p91, (.load false 1), [(.tmp p90)], none⟩,
  ⟨some p92, (.eql (.base .int) false), [(.tmp p91), (.const (.int .i64 (.ofNat 2)))], none⟩])
 (.cond (.tmp p92)
 (.reg [
  ⟨some p93, .move, [(.tmp p2)], none⟩,
  ⟨some p94, .move, [(.tmp p15)], none⟩,
  ⟨some p95, (.invoke 0), [(.tmp p94)], none⟩,
  ⟨some p96, .nilCheck, [(.tmp p95)], none⟩,
  ⟨some p97, (.fieldAddr 2), [(.tmp p96)], none⟩,
  ⟨some p98, (.load false 1), [(.tmp p97)], none⟩,
  ⟨some p99, (.bin .add), [(.tmp p98), (.const (.int .i64 (.ofNat 1)))], none⟩,
  ⟨some p100, (.bin .add), [(.tmp p93), (.tmp p99)], none⟩,
  ⟨some p2, .move, [(.tmp p100)], none⟩])
 (.reg [
  ⟨some p101, .move, [(.tmp p3)], none⟩,
  ⟨some p102, .move, [(.tmp p15)], none⟩,
  ⟨some p103, (.invoke 0), [(.tmp p102)], none⟩,
  ⟨some p104, .nilCheck, [(.tmp p103)], none⟩,
  ⟨some p105, (.fieldAddr 3), [(.tmp p104)], none⟩,
  ⟨some p106, (.load false 1), [(.tmp p105)], none⟩,
  ⟨some p107, (.bin .add), [(.tmp p106), (.const (.int .i64 (.ofNat 1)))], none⟩,
  ⟨some p108, (.bin .add), [(.tmp p101), (.tmp p107)], none⟩,
  ⟨some p3, .move, [(.tmp p108)], none⟩]))))))
 (.reg [
  ⟨some p109, (.bin .add), [(.tmp p77), (.const (.int .i64 (.ofNat 1)))], none⟩,
  ⟨some p77, .move, [(.tmp p109)], none⟩])))))))))))))),
 []⟩
def F194 : IFn := ⟨2,
(.seq (.reg [
  ⟨some p4, .move, [(.tmp p0)], none⟩,
  ⟨some p5, .move, [(.tmp p1)], none⟩,
  ⟨some p6, (.slSlice 6 false true false), [(.tmp p4), (.tmp p5)], none⟩,
  ⟨some p7, .call, [(.const (.fn 222 [] [])), (.tmp p6)], none⟩])
 (.seq (.reg [
  ⟨some p8, .move, [(.tmp p0)], none⟩,
  ⟨some p9, .move, [(.tmp p1)], none⟩,
  ⟨some p10, (.slSlice 6 true false false), [(.tmp p8), (.tmp p9)], none⟩,
  ⟨some p11, .call, [(.const (.fn 222 [] [])), (.tmp p10)], none⟩])
 (.reg [
  ⟨some p12, .move, [(.tmp p0)], none⟩,
  ⟨some p13, .call, [(.const (.fn 222 [] [])), (.tmp p12)], none⟩]))),
 []⟩
def F195 : IFn := ⟨2,
(.seq (.reg [
  ⟨some p4, .move, [(.tmp p0)], none⟩,
  ⟨some p5, .move, [(.tmp p1)], none⟩,
  ⟨some p6, (.slSlice 5 false true false), [(.tmp p4), (.tmp p5)], none⟩,
  ⟨some p7, .call, [(.const (.fn 223 [] [])), (.tmp p6)], none⟩])
 (.seq (.reg [
  ⟨some p8, .move, [(.tmp p0)], none⟩,
  ⟨some p9, .move, [(.tmp p1)], none⟩,
  ⟨some p10, (.slSlice 5 true false false), [(.tmp p8), (.tmp p9)], none⟩,
  ⟨some p11, .call, [(.const (.fn 223 [] [])), (.tmp p10)], none⟩])
 (.reg [
  ⟨some p12, .move, [(.tmp p0)], none⟩,
  ⟨some p13, .call, [(.const (.fn 223 [] [])), (.tmp p12)], none⟩]))),
 []⟩
def F196 : IFn := ⟨2,
(.seq (.reg [
  ⟨some p5, .never, [], none⟩,
  ⟨some p2, .move, [(.tmp p5)], none⟩])
 (.seq (.reg [
  ⟨some p6, .move, [(.tmp p2)], none⟩,
  ⟨some p7, (.eql (.iface true) true), [(.tmp p6), (.const .inil)], none⟩])
 (.cond (.tmp p7)
 (.seq (.seq (.reg [
  ⟨some p9, .move, [(.tmp p2)], none⟩,
  ⟨some p10, (.assertT 255 (.agg []) true), [(.tmp p9)], none⟩,
  ⟨some p8, .move, [(.tmp p10)], none⟩,
  ⟨some p11, (.extract 0), [(.tmp p8)], none⟩,
  ⟨some p12, (.extract 1), [(.tmp p8)], none⟩,
  ⟨some p3, (.alloc 255 []), [], none⟩,
  ⟨none, (.store 0), [(.tmp p3), (.tmp p11)], none⟩,
  ⟨some p4, .move, [(.tmp p12)], none⟩])
 (.seq (.reg [
  ⟨some p13, .move, [(.tmp p4)], none⟩,
  ⟨some p14, .not, [(.tmp p13)], none⟩])
 (.cond (.tmp p14)
 (.reg [
  ⟨some p15, .move, [(.tmp p2)], none⟩,
  ⟨none, .panic, [(.tmp p15)], none⟩])
 .skip)))
 (.reg [
  ⟨none, (.store 1), [(.tmp p0), (.const .snil)], none⟩,
  ⟨none, (.store 1), [(.tmp p1), (.const (.bool false))], none⟩]))
 .skip))),
 []⟩
def F197 : IFn := ⟨2,
(.seq (.reg [
  ⟨some p8, .move, [(.tmp p1)], none⟩,
  ⟨some p9, (.build [(.int .i64 (.ofNat 0)), (.int .i64 (.ofNat 0)), (.int .i64 (.ofNat 0)), (.int .i64 (.ofNat 0)), (.int .i64 (.ofNat 0)), (.int .i64 (.ofNat 0)), (.int .i64 (.ofNat 0))] [(0, 1)]), [(.tmp p8)], none⟩,
  ⟨some p4, (.alloc 82 [(.int .i64 (.ofNat 0)), (.int .i64 (.ofNat 0)), (.int .i64 (.ofNat 0)), (.int .i64 (.ofNat 0)), (.int .i64 (.ofNat 0)), (.int .i64 (.ofNat 0)), (.int .i64 (.ofNat 0))]), [], none⟩,
  ⟨none, (.store 7), [(.tmp p4), (.tmp p9)], none⟩])
 (.seq (.reg [
  ⟨some p10, .move, [(.tmp p0)], none⟩,
  ⟨some p11, .call, [(.const (.fn 224 [] [])), (.tmp p10)], none⟩,
  ⟨some p12, (.fieldAddr 4), [(.tmp p4)], none⟩,
  ⟨none, (.store 1), [(.tmp p12), (.tmp p11)], none⟩])
 (.seq (.reg [
  ⟨some p13, .move, [(.tmp p0)], none⟩,
  ⟨some p14, .call, [(.const (.fn 225 [] [])), (.tmp p13), (.const (.int .u8 (.ofNat 120)))], none⟩])
 (.seq (.reg [
  ⟨some p15, .move, [(.tmp p0)], none⟩,
  ⟨some p16, .call, [(.const (.fn 224 [] [])), (.tmp p15)], none⟩,
  ⟨some p17, (.fieldAddr 5), [(.tmp p4)], none⟩,
  ⟨none, (.store 1), [(.tmp p17), (.tmp p16)], none⟩])
 (.seq (.reg [
  ⟨some p18, .move, [(.tmp p0)], none⟩,
  ⟨some p19, .call, [(.const (.fn 225 [] [])), (.tmp p18), (.const (.int .u8 (.ofNat 44)))], none⟩])
 (.seq (.reg [
  ⟨some p20, .move, [(.tmp p0)], none⟩,
  ⟨some p21, .call, [(.const (.fn 224 [] [])), (.tmp p20)], none⟩,
  ⟨some p22, (.fieldAddr 2), [(.tmp p4)], none⟩,
  ⟨none, (.store 1), [(.tmp p22), (.tmp p21)], none⟩])
 (.seq (.reg [
  ⟨some p23, .move, [(.tmp p0)], none⟩,
  ⟨some p24, .call, [(.const (.fn 225 [] [])), (.tmp p23), (.const (.int .u8 (.ofNat 44)))], none⟩])
 (.seq (.reg [
  ⟨some p25, .move, [(.tmp p0)], none⟩,
  ⟨some p26, .call, [(.const (.fn 224 [] [])), (.tmp p25)], none⟩,
  ⟨some p27, (.fieldAddr 3), [(.tmp p4)], none⟩,
  ⟨none, (.store 1), [(.tmp p27), (.tmp p26)], none⟩])
 (.seq (.reg [
  ⟨some p28, .move, [(.tmp p0)], none⟩,
  ⟨some p29, .nilCheck, [(.tmp p28)], none⟩,
  ⟨some p30, (.fieldAddr 2), [(.tmp p29)], none⟩,
  ⟨some p31, (.load false 1), [(.tmp p30)], none⟩,
  ⟨some p32, .lenL, [(.tmp p31)], none⟩,
  ⟨some p5, .move, [(.tmp p32)], none⟩])
 (.seq (.drawn [
  ⟨0, ⟨some p33, .move, [(.tmp p0)], none⟩, .pure, []⟩,
  ⟨1, ⟨some p34, .move, [(.tmp p0)], none⟩, .pure, []⟩,
  ⟨2, ⟨some p35, .nilCheck, [(.tmp p34)], none⟩, .pure, [1]⟩,
  ⟨3, ⟨some p36, (.fieldAddr 2), [(.tmp p35)], none⟩, .pure, [2]⟩,
  ⟨4, ⟨some p37, (.load false 1), [(.tmp p36)], none⟩, (.read 0 1), [3]⟩,
  ⟨5, ⟨some p38, (.load true 7), [(.tmp p4)], none⟩, (.read 0 0), []⟩,
  ⟨6, ⟨some p39, (.buildSlice 82 7 [(.int .i64 (.ofNat 0)), (.int .i64 (.ofNat 0)), (.int .i64 (.ofNat 0)), (.int .i64 (.ofNat 0)), (.int .i64 (.ofNat 0)), (.int .i64 (.ofNat 0)), (.int .i64 (.ofNat 0))] 1 [(0, 7)]), [(.tmp p38)], none⟩, .eff, [5]⟩,
  ⟨7, ⟨some p40, (.append 82 7 56), [(.tmp p37), (.tmp p39)], none⟩, .eff, [4, 6]⟩,
  ⟨8, ⟨some p41, .nilCheck, [(.tmp p33)], none⟩, .pure, [0, 0, 1, 2, 3, 4, 5, 6, 7]⟩,
  ⟨9, ⟨some p42, (.fieldAddr 2), [(.tmp p41)], none⟩, .pure, [8, 0, 1, 2, 3, 4, 5, 6, 7]⟩,
  ⟨10, ⟨none, (.store 1), [(.tmp p42), (.tmp p40)], none⟩, .eff, [9, 7, 7, 0, 1, 2, 3, 4, 5, 6, 7]⟩])
 (.seq (.reg [
  ⟨some p6, .move, [(.const (.int .u8 (.ofNat 125)))], none⟩])
 (.seq (.seq (.reg [
  ⟨some p43, .move, [(.tmp p0)], none⟩,
  ⟨some p44, .call, [(.const (.fn 226 [] [])), (.tmp p43)], none⟩])
 (.block 0 [p0, p1, p6] (.seq (.reg [
  ⟨some p48, (.eql (.base .int) false), [(.tmp p44), (.const (.int .u8 (.ofNat 44)))], none⟩,
  ⟨some p47, .move, [(.tmp p48)], none⟩])
 (.cond (.tmp p47)
 (.seq (.reg [
  ⟨some p49, .move, [(.tmp p0)], none⟩,
  ⟨some p50, .nilCheck, [(.tmp p49)], none⟩,
  ⟨some p51, (.fieldAddr 2), [(.tmp p50)], none⟩,
  ⟨some p52, (.load false 1), [(.tmp p51)], none⟩,
  ⟨some p53, .move, [(.tmp p5)], none⟩,
  ⟨some p54, (.idxSlice 7), [(.tmp p52), (.tmp p53)], none⟩,
  ⟨some p55, (.fieldAddr 1), [(.tmp p54)], none⟩,
  ⟨none, (.store 1), [(.tmp p55), (.const (.int .i64 (.ofNat 1)))], none⟩])
 (.seq (.drawn [
  ⟨0, ⟨some p56, .move, [(.tmp p0)], none⟩, .pure, []⟩,
  ⟨1, ⟨some p57, .nilCheck, [(.tmp p56)], none⟩, .pure, [0]⟩,
  ⟨2, ⟨some p58, (.fieldAddr 2), [(.tmp p57)], none⟩, .pure, [1]⟩,
  ⟨3, ⟨some p59, (.load false 1), [(.tmp p58)], none⟩, (.read 0 1), [2]⟩,
  ⟨4, ⟨some p60, .move, [(.tmp p5)], none⟩, .pure, []⟩,
  ⟨5, ⟨some p61, .move, [(.tmp p0)], none⟩, .pure, []⟩,
  ⟨6, ⟨some p62, .call, [(.const (.fn 224 [] [])), (.tmp p61)], none⟩, .eff, [5]⟩,
  ⟨7, ⟨some p63, (.idxSlice 7), [(.tmp p59), (.tmp p60)], none⟩, .pure, [3, 4, 0, 1, 2, 3, 4, 5, 6]⟩,
  ⟨8, ⟨some p64, (.fieldAddr 6), [(.tmp p63)], none⟩, .pure, [7, 0, 1, 2, 3, 4, 5, 6]⟩,
  ⟨9, ⟨none, (.store 1), [(.tmp p64), (.tmp p62)], none⟩, .eff, [8, 6, 6, 0, 1, 2, 3, 4, 5, 6]⟩])
 (.ret [])))
 (.seq (.reg [
  ⟨some p66, (.eql (.base .int) false), [(.tmp p44), (.const (.int .u8 (.ofNat 123)))], none⟩,
  ⟨some p65, .move, [(.tmp p66)], none⟩])
 (.cond (.tmp p65)
 (.reg [
  ⟨some p67, .move, [(.tmp p0)], none⟩,
  ⟨some p68, .nilCheck, [(.tmp p67)], none⟩,
  ⟨some p69, (.fieldAddr 2), [(.tmp p68)], none⟩,
  ⟨some p70, (.load false 1), [(.tmp p69)], none⟩,
  ⟨some p71, .move, [(.tmp p5)], none⟩,
  ⟨some p72, (.idxSlice 7), [(.tmp p70), (.tmp p71)], none⟩,
  ⟨some p73, (.fieldAddr 1), [(.tmp p72)], none⟩,
  ⟨none, (.store 1), [(.tmp p73), (.const (.int .i64 (.ofNat 2)))], none⟩])
 (.seq (.reg [
  ⟨some p75, (.eql (.base .int) false), [(.tmp p44), (.const (.int .u8 (.ofNat 91)))], none⟩,
  ⟨some p74, .move, [(.tmp p75)], none⟩])
 (.cond (.tmp p74)
 (.seq (.reg [
  ⟨some p76, .move, [(.tmp p0)], none⟩,
  ⟨some p77, .nilCheck, [(.tmp p76)], none⟩,
  ⟨some p78, (.fieldAddr 2), [(.tmp p77)], none⟩,
  ⟨some p79, (.load false 1), [(.tmp p78)], none⟩,
  ⟨some p80, .move, [(.tmp p5)], none⟩,
  ⟨some p81, (.idxSlice 7), [(.tmp p79), (.tmp p80)], none⟩,
  ⟨some p82, (.fieldAddr 1), [(.tmp p81)], none⟩,
  ⟨none, (.store 1), [(.tmp p82), (.const (.int .i64 (.ofNat 3)))], none⟩])
 (.reg [
  ⟨some p6, .move, [(.const (.int .u8 (.ofNat 93)))], none⟩]))
 (.reg [
  ⟨some p45, .move, [(.tmp p0)], none⟩,
  ⟨some p46, .call, [(.const (.fn 198 [] [])), (.tmp p45)], none⟩])))))))))
 (.block 1 [] (.loop [p0, p1, p6] (.block 2 [p0, p1, p6] (.seq (.reg [
  ⟨some p83, .move, [(.tmp p0)], none⟩,
  ⟨some p84, .move, [(.tmp p1)], none⟩,
  ⟨some p85, (.bin .add), [(.tmp p84), (.const (.int .i64 (.ofNat 1)))], none⟩,
  ⟨some p86, .call, [(.const (.fn 197 [] [])), (.tmp p83), (.tmp p85)], none⟩])
 (.seq (.reg [
  ⟨some p87, .move, [(.tmp p0)], none⟩,
  ⟨some p88, .call, [(.const (.fn 226 [] [])), (.tmp p87)], none⟩,
  ⟨some p7, .move, [(.tmp p88)], none⟩])
 (.seq (.seq (.reg [
  ⟨some p89, .move, [(.tmp p7)], none⟩,
  ⟨some p90, .move, [(.tmp p6)], none⟩,
  ⟨some p91, (.eql (.base .int) false), [(.tmp p89), (.tmp p90)], none⟩])
 (.cond (.tmp p91)
 (.ret [])
 .skip))
 (.seq (.reg [
  ⟨some p92, .move, [(.tmp p7)], none⟩,
  ⟨some p93, (.eql (.base .int) true), [(.tmp p92), (.const (.int .u8 (.ofNat 44)))], none⟩])
 (.cond (.tmp p93)
 (.reg [
  ⟨some p94, .move, [(.tmp p0)], none⟩,
  ⟨some p95, .call, [(.const (.fn 198 [] [])), (.tmp p94)], none⟩])
 .skip)))))))))))))))))))),
 []⟩
def F198 : IFn := ⟨1,
(.reg [
  ⟨some p2, (.build [] []), [], none⟩,
  ⟨some p3, (.mkIface 255), [(.tmp p2)], none⟩,
  ⟨none, .panic, [(.tmp p3)], none⟩]),
 []⟩
def F200 : IFn := ⟨2,
(.reg [
  ⟨some p4, .move, [(.tmp p0)], none⟩,
  ⟨some p5, .move, [(.tmp p0)], none⟩,
  ⟨some p6, .lenL, [(.tmp p5)], none⟩,
  ⟨some p7, .move, [(.tmp p1)], none⟩,
  ⟨some p8, (.bin .sub), [(.tmp p6), (.tmp p7)], none⟩,
  ⟨some p9, .call, [(.const (.fn 227 [] [])), (.tmp p4), (.tmp p8)], none⟩]),
 []⟩
def F213 : IFn := ⟨4,
(.seq (.reg [
  ⟨some p10, .move, [(.tmp p1)], none⟩,
  ⟨some p8, .move, [(.tmp p10)], none⟩])
 (.block 0 [] (.loop [p0, p2, p3, p8] (.block 1 [p0, p2, p3, p8] (.seq (.reg [
  ⟨some p11, .move, [(.tmp p8)], none⟩,
  ⟨some p12, (.bin .mul), [(.const (.int .i64 (.ofNat 2))), (.tmp p11)], none⟩,
  ⟨some p13, (.bin .add), [(.tmp p12), (.const (.int .i64 (.ofNat 1)))], none⟩,
  ⟨some p9, .move, [(.tmp p13)], none⟩])
 (.seq (.seq (.reg [
  ⟨some p14, .move, [(.tmp p9)], none⟩,
  ⟨some p15, .move, [(.tmp p2)], none⟩,
  ⟨some p16, (.bin .geq), [(.tmp p14), (.tmp p15)], none⟩])
 (.cond (.tmp p16)
 (.exit 0 [])
 .skip))
 (.seq (.seq (.drawn [
  ⟨0, ⟨some p17, .move, [(.tmp p9)], none⟩, .pure, []⟩,
  ⟨1, ⟨some p18, (.bin .add), [(.tmp p17), (.const (.int .i64 (.ofNat 1)))], none⟩, .pure, [0]⟩,
  ⟨2, ⟨some p19, .move, [(.tmp p2)], none⟩, .pure, []⟩,
  ⟨3, ⟨some p20, (.bin .lss), [(.tmp p18), (.tmp p19)], none⟩, .pure, [1, 2]⟩,
  ⟨4, ⟨some p21, .move, [(.tmp p20)], none⟩, .pure, [3]⟩,
  ⟨5, ⟨some p22, .move, [(.tmp p0)], some (p21, true)⟩, .pure, [4]⟩,
  ⟨6, ⟨some p23, .move, [(.tmp p3)], some (p21, true)⟩, .pure, [4]⟩,
  ⟨7, ⟨some p24, .move, [(.tmp p9)], some (p21, true)⟩, .pure, [4]⟩,
  ⟨8, ⟨some p25, (.bin .add), [(.tmp p23), (.tmp p24)], some (p21, true)⟩, .pure, [6, 7, 4]⟩,
  ⟨9, ⟨some p26, (.idxSlice 1), [(.tmp p22), (.tmp p25)], some (p21, true)⟩, .pure, [5, 8, 4]⟩,
  ⟨10, ⟨some p27, (.load false 1), [(.tmp p26)], some (p21, true)⟩, (.read 0 0), [9, 4]⟩,
  ⟨11, ⟨some p28, .move, [(.tmp p0)], some (p21, true)⟩, .pure, [4]⟩,
  ⟨12, ⟨some p29, .move, [(.tmp p3)], some (p21, true)⟩, .pure, [4]⟩,
  ⟨13, ⟨some p30, .move, [(.tmp p9)], some (p21, true)⟩, .pure, [4]⟩,
  ⟨14, ⟨some p31, (.bin .add), [(.tmp p29), (.tmp p30)], some (p21, true)⟩, .pure, [12, 13, 4]⟩,
  ⟨15, ⟨some p32, (.bin .add), [(.tmp p31), (.const (.int .i64 (.ofNat 1)))], some (p21, true)⟩, .pure, [14, 4]⟩,
  ⟨16, ⟨some p33, (.idxSlice 1), [(.tmp p28), (.tmp p32)], some (p21, true)⟩, .pure, [11, 15, 4]⟩,
  ⟨17, ⟨some p34, (.load false 1), [(.tmp p33)], some (p21, true)⟩, (.read 0 0), [16, 4]⟩,
  ⟨18, ⟨some p35, .call, [(.const (.fn 183 [] [])), (.tmp p27), (.tmp p34)], some (p21, true)⟩, .eff, [10, 17, 4, 4]⟩,
  ⟨19, ⟨some p36, .pick, [(.tmp p21), (.tmp p35), (.const (.bool false))], none⟩, .pure, [4, 18]⟩])
 (.cond (.tmp p36)
 (.reg [
  ⟨some p37, .move, [(.tmp p9)], none⟩,
  ⟨some p38, (.bin .add), [(.tmp p37), (.const (.int .i64 (.ofNat 1)))], none⟩,
  ⟨some p9, .move, [(.tmp p38)], none⟩])
 .skip))
 (.seq (.seq (.drawn [
  ⟨0, ⟨some p39, .move, [(.tmp p0)], none⟩, .pure, []⟩,
  ⟨1, ⟨some p40, .move, [(.tmp p3)], none⟩, .pure, []⟩,
  ⟨2, ⟨some p41, .move, [(.tmp p8)], none⟩, .pure, []⟩,
  ⟨3, ⟨some p42, (.bin .add), [(.tmp p40), (.tmp p41)], none⟩, .pure, [1, 2]⟩,
  ⟨4, ⟨some p43, (.idxSlice 1), [(.tmp p39), (.tmp p42)], none⟩, .pure, [0, 3]⟩,
  ⟨5, ⟨some p44, (.load false 1), [(.tmp p43)], none⟩, (.read 0 0), [4]⟩,
  ⟨6, ⟨some p45, .move, [(.tmp p0)], none⟩, .pure, []⟩,
  ⟨7, ⟨some p46, .move, [(.tmp p3)], none⟩, .pure, []⟩,
  ⟨8, ⟨some p47, .move, [(.tmp p9)], none⟩, .pure, []⟩,
  ⟨9, ⟨some p48, (.bin .add), [(.tmp p46), (.tmp p47)], none⟩, .pure, [7, 8]⟩,
  ⟨10, ⟨some p49, (.idxSlice 1), [(.tmp p45), (.tmp p48)], none⟩, .pure, [6, 9]⟩,
  ⟨11, ⟨some p50, (.load false 1), [(.tmp p49)], none⟩, (.read 0 0), [10]⟩,
  ⟨12, ⟨some p51, .call, [(.const (.fn 183 [] [])), (.tmp p44), (.tmp p50)], none⟩, .eff, [5, 11]⟩,
  ⟨13, ⟨some p52, .not, [(.tmp p51)], none⟩, .pure, [12]⟩])
 (.cond (.tmp p52)
 (.ret [])
 .skip))
 (.seq (.drawn [
  ⟨0, ⟨some p53, .move, [(.tmp p0)], none⟩, .pure, []⟩,
  ⟨1, ⟨some p54, .move, [(.tmp p3)], none⟩, .pure, []⟩,
  ⟨2, ⟨some p55, .move, [(.tmp p8)], none⟩, .pure, []⟩,
  ⟨3, ⟨some p56, (.bin .add), [(.tmp p54), (.tmp p55)], none⟩, .pure, [1, 2]⟩,
  ⟨4, ⟨some p57, .move, [(.tmp p0)], none⟩, .pure, []⟩,
  ⟨5, ⟨some p58, .move, [(.tmp p3)], none⟩, .pure, []⟩,
  ⟨6, ⟨some p59, .move, [(.tmp p9)], none⟩, .pure, []⟩,
  ⟨7, ⟨some p60, (.bin .add), [(.tmp p58), (.tmp p59)], none⟩, .pure, [5, 6]⟩,
  ⟨8, ⟨some p61, .move, [(.tmp p0)], none⟩, .pure, []⟩,
  ⟨9, ⟨some p62, .move, [(.tmp p3)], none⟩, .pure, []⟩,
  ⟨10, ⟨some p63, .move, [(.tmp p9)], none⟩, .pure, []⟩,
  ⟨11, ⟨some p64, (.bin .add), [(.tmp p62), (.tmp p63)], none⟩, .pure, [9, 10]⟩,
  ⟨12, ⟨some p65, (.idxSlice 1), [(.tmp p61), (.tmp p64)], none⟩, .pure, [8, 11]⟩,
  ⟨13, ⟨some p66, (.load false 1), [(.tmp p65)], none⟩, (.read 0 0), [12]⟩,
  ⟨14, ⟨some p67, .move, [(.tmp p0)], none⟩, .pure, []⟩,
  ⟨15, ⟨some p68, .move, [(.tmp p3)], none⟩, .pure, []⟩,
  ⟨16, ⟨some p69, .move, [(.tmp p8)], none⟩, .pure, []⟩,
  ⟨17, ⟨some p70, (.bin .add), [(.tmp p68), (.tmp p69)], none⟩, .pure, [15, 16]⟩,
  ⟨18, ⟨some p71, (.idxSlice 1), [(.tmp p67), (.tmp p70)], none⟩, .pure, [14, 17]⟩,
  ⟨19, ⟨some p72, (.load false 1), [(.tmp p71)], none⟩, (.read 0 0), [18]⟩,
  ⟨20, ⟨some p73, (.idxSlice 1), [(.tmp p53), (.tmp p56)], none⟩, .pure, [0, 3, 0, 1, 2, 3, 8, 9, 10, 11, 12, 13, 19]⟩,
  ⟨21, ⟨none, (.store 1), [(.tmp p73), (.tmp p66)], none⟩, .eff, [20, 13, 0, 1, 2, 3, 8, 9, 10, 11, 12, 13, 19]⟩,
  ⟨22, ⟨some p74, (.idxSlice 1), [(.tmp p57), (.tmp p60)], none⟩, .pure, [4, 7, 0, 1, 2, 3, 4, 5, 6, 7, 8, 9, 10, 11, 12, 13, 14, 15, 16, 17, 18, 19, 20, 21]⟩,
  ⟨23, ⟨none, (.store 1), [(.tmp p74), (.tmp p72)], none⟩, .eff, [22, 19, 21, 0, 1, 2, 3, 4, 5, 6, 7, 8, 9, 10, 11, 12, 13, 14, 15, 16, 17, 18, 19, 20, 21]⟩])
 (.reg [
  ⟨some p75, .move, [(.tmp p9)], none⟩,
  ⟨some p8, .move, [(.tmp p75)], none⟩])))))))))),
 []⟩
def F214 : IFn := ⟨1,
(.seq (.reg [
  ⟨some p2, .move, [(.const (.int .u64 (.ofNat 0)))], none⟩])
 (.seq (.reg [
  ⟨some p3, .move, [(.tmp p0)], none⟩,
  ⟨some p4, (.convInt .u64), [(.tmp p3)], none⟩,
  ⟨some p5, .call, [(.const (.fn 136 [] [])), (.tmp p4)], none⟩,
  ⟨some p6, (.bin .shl), [(.const (.int .u64 (.ofNat 1))), (.tmp p5)], none⟩,
  ⟨some p2, .move, [(.tmp p6)], none⟩])
 (.ret [.tmp p2]))),
 [.tmp p2]⟩
def F215 : IFn := ⟨1,
(.seq (.reg [
  ⟨some p2, .move, [(.const (.int .u64 (.ofNat 0)))], none⟩])
 (.seq (.drawn [
  ⟨0, ⟨some p3, .move, [(.tmp p0)], none⟩, .pure, []⟩,
  ⟨1, ⟨some p4, .nilCheck, [(.tmp p3)], none⟩, .pure, [0]⟩,
  ⟨2, ⟨some p5, (.load false 1), [(.tmp p4)], none⟩, (.read 0 0), [1]⟩,
  ⟨3, ⟨some p6, .move, [(.tmp p0)], none⟩, .pure, []⟩,
  ⟨4, ⟨some p7, .nilCheck, [(.tmp p6)], none⟩, .pure, [3]⟩,
  ⟨5, ⟨some p8, (.load false 1), [(.tmp p7)], none⟩, (.read 0 0), [4]⟩,
  ⟨6, ⟨some p9, (.bin .shl), [(.tmp p8), (.const (.int .u64 (.ofNat 13)))], none⟩, .pure, [5]⟩,
  ⟨7, ⟨some p10, (.bin .xor), [(.tmp p5), (.tmp p9)], none⟩, .pure, [2, 6]⟩,
  ⟨8, ⟨some p11, .nilCheck, [(.tmp p3)], none⟩, .pure, [0, 0, 1, 2, 3, 4, 5, 6, 7]⟩,
  ⟨9, ⟨none, (.store 1), [(.tmp p11), (.tmp p10)], none⟩, .eff, [8, 7, 0, 1, 2, 3, 4, 5, 6, 7]⟩])
 (.seq (.drawn [
  ⟨0, ⟨some p12, .move, [(.tmp p0)], none⟩, .pure, []⟩,
  ⟨1, ⟨some p13, .nilCheck, [(.tmp p12)], none⟩, .pure, [0]⟩,
  ⟨2, ⟨some p14, (.load false 1), [(.tmp p13)], none⟩, (.read 0 0), [1]⟩,
  ⟨3, ⟨some p15, .move, [(.tmp p0)], none⟩, .pure, []⟩,
  ⟨4, ⟨some p16, .nilCheck, [(.tmp p15)], none⟩, .pure, [3]⟩,
  ⟨5, ⟨some p17, (.load false 1), [(.tmp p16)], none⟩, (.read 0 0), [4]⟩,
  ⟨6, ⟨some p18, (.bin .shr), [(.tmp p17), (.const (.int .u64 (.ofNat 7)))], none⟩, .pure, [5]⟩,
  ⟨7, ⟨some p19, (.bin .xor), [(.tmp p14), (.tmp p18)], none⟩, .pure, [2, 6]⟩,
  ⟨8, ⟨some p20, .nilCheck, [(.tmp p12)], none⟩, .pure, [0, 0, 1, 2, 3, 4, 5, 6, 7]⟩,
  ⟨9, ⟨none, (.store 1), [(.tmp p20), (.tmp p19)], none⟩, .eff, [8, 7, 0, 1, 2, 3, 4, 5, 6, 7]⟩])
 (.seq (.drawn [
  ⟨0, ⟨some p21, .move, [(.tmp p0)], none⟩, .pure, []⟩,
  ⟨1, ⟨some p22, .nilCheck, [(.tmp p21)], none⟩, .pure, [0]⟩,
  ⟨2, ⟨some p23, (.load false 1), [(.tmp p22)], none⟩, (.read 0 0), [1]⟩,
  ⟨3, ⟨some p24, .move, [(.tmp p0)], none⟩, .pure, []⟩,
  ⟨4, ⟨some p25, .nilCheck, [(.tmp p24)], none⟩, .pure, [3]⟩,
  ⟨5, ⟨some p26, (.load false 1), [(.tmp p25)], none⟩, (.read 0 0), [4]⟩,
  ⟨6, ⟨some p27, (.bin .shl), [(.tmp p26), (.const (.int .u64 (.ofNat 17)))], none⟩, .pure, [5]⟩,
  ⟨7, ⟨some p28, (.bin .xor), [(.tmp p23), (.tmp p27)], none⟩, .pure, [2, 6]⟩,
  ⟨8, ⟨some p29, .nilCheck, [(.tmp p21)], none⟩, .pure, [0, 0, 1, 2, 3, 4, 5, 6, 7]⟩,
  ⟨9, ⟨none, (.store 1), [(.tmp p29), (.tmp p28)], none⟩, .eff, [8, 7, 0, 1, 2, 3, 4, 5, 6, 7]⟩])
 (.seq (.reg [
  ⟨some p30, .move, [(.tmp p0)], none⟩,
  ⟨some p31, .nilCheck, [(.tmp p30)], none⟩,
  ⟨some p32, (.load false 1), [(.tmp p31)], none⟩,
  ⟨some p2, .move, [(.tmp p32)], none⟩])
 (.ret [.tmp p2])))))),
 [.tmp p2]⟩
def F216 : IFn := ⟨3,
(.seq (.reg [
  ⟨some p6, .move, [(.const (.int .i64 (.ofNat 0)))], none⟩])
 (.seq (.reg [
  ⟨some p7, .move, [(.tmp p0)], none⟩,
  ⟨some p8, .move, [(.tmp p1)], none⟩,
  ⟨some p9, (.bin .sub), [(.tmp p8), (.const (.int .i64 (.ofNat 1)))], none⟩,
  ⟨some p10, .move, [(.tmp p1)], none⟩,
  ⟨some p11, .move, [(.tmp p1)], none⟩,
  ⟨some p12, (.bin .add), [(.tmp p11), (.const (.int .i64 (.ofNat 1)))], none⟩,
  ⟨some p13, .move, [(.tmp p2)], none⟩,
  ⟨some p14, .call, [(.const (.fn 217 [] [])), (.tmp p7), (.tmp p9), (.tmp p10), (.tmp p12), (.tmp p13)], none⟩,
  ⟨some p6, .move, [(.tmp p14)], none⟩])
 (.ret [.tmp p6]))),
 [.tmp p6]⟩
def F217 : IFn := ⟨5,
(.seq (.reg [
  ⟨some p10, .move, [(.const (.int .i64 (.ofNat 0)))], none⟩])
 (.seq (.reg [
  ⟨some p12, .move, [(.tmp p0)], none⟩,
  ⟨some p13, .move, [(.tmp p1)], none⟩,
  ⟨some p14, .move, [(.tmp p2)], none⟩,
  ⟨some p15, .move, [(.tmp p4)], none⟩,
  ⟨some p16, .call, [(.const (.fn 228 [] [])), (.tmp p12), (.tmp p13), (.tmp p14), (.tmp p15)], none⟩,
  ⟨some p11, .move, [(.tmp p16)], none⟩,
  ⟨some p17, (.extract 0), [(.tmp p11)], none⟩,
  ⟨some p18, (.extract 1), [(.tmp p11)], none⟩,
  ⟨some p1, .move, [(.tmp p17)], none⟩,
  ⟨some p2, .move, [(.tmp p18)], none⟩])
 (.seq (.reg [
  ⟨some p20, .move, [(.tmp p0)], none⟩,
  ⟨some p21, .move, [(.tmp p2)], none⟩,
  ⟨some p22, .move, [(.tmp p3)], none⟩,
  ⟨some p23, .move, [(.tmp p4)], none⟩,
  ⟨some p24, .call, [(.const (.fn 228 [] [])), (.tmp p20), (.tmp p21), (.tmp p22), (.tmp p23)], none⟩,
  ⟨some p19, .move, [(.tmp p24)], none⟩,
  ⟨some p25, (.extract 0), [(.tmp p19)], none⟩,
  ⟨some p26, (.extract 1), [(.tmp p19)], none⟩,
  ⟨some p2, .move, [(.tmp p25)], none⟩,
  ⟨some p3, .move, [(.tmp p26)], none⟩])
 (.seq (.reg [
  ⟨some p28, .move, [(.tmp p0)], none⟩,
  ⟨some p29, .move, [(.tmp p1)], none⟩,
  ⟨some p30, .move, [(.tmp p2)], none⟩,
  ⟨some p31, .move, [(.tmp p4)], none⟩,
  ⟨some p32, .call, [(.const (.fn 228 [] [])), (.tmp p28), (.tmp p29), (.tmp p30), (.tmp p31)], none⟩,
  ⟨some p27, .move, [(.tmp p32)], none⟩,
  ⟨some p33, (.extract 0), [(.tmp p27)], none⟩,
  ⟨some p34, (.extract 1), [(.tmp p27)], none⟩,
  ⟨some p1, .move, [(.tmp p33)], none⟩,
  ⟨some p2, .move, [(.tmp p34)], none⟩])
 (.seq (.reg [
  ⟨some p35, .move, [(.tmp p2)], none⟩,
  ⟨some p10, .move, [(.tmp p35)], none⟩])
 (.ret [.tmp p10])))))),
 [.tmp p10]⟩
def F218 : IFn := ⟨1,
(.seq (.reg [
  ⟨some p2, .move, [(.const (.bool false))], none⟩])
 (.seq (.reg [
  ⟨some p3, .move, [(.tmp p0)], none⟩,
  ⟨some p4, .move, [(.tmp p0)], none⟩,
  ⟨some p5, (.eql (.base .int) true), [(.tmp p3), (.tmp p4)], none⟩,
  ⟨some p2, .move, [(.tmp p5)], none⟩])
 (.ret [.tmp p2]))),
 [.tmp p2]⟩
def F219 : IFn := ⟨1,
(.seq (.reg [
  ⟨some p2, .move, [(.tmp p0)], none⟩,
  ⟨some p3, .nilCheck, [(.tmp p2)], none⟩,
  ⟨some p4, (.fieldAddr 0), [(.tmp p3)], none⟩,
  ⟨some p5, (.load false 1), [(.tmp p4)], none⟩,
  ⟨some p6, (.eql .ptr false), [(.tmp p5), (.const .pnil)], none⟩])
 (.cond (.tmp p6)
 (.reg [
  ⟨some p7, .move, [(.tmp p0)], none⟩,
  ⟨some p8, .move, [(.tmp p0)], none⟩,
  ⟨some p9, .toUns, [(.tmp p8)], none⟩,
  ⟨some p10, .call, [(.const (.fn 229 [] [])), (.tmp p9)], none⟩,
  ⟨some p11, (.fromUns 180), [(.tmp p10)], none⟩,
  ⟨some p12, .nilCheck, [(.tmp p7)], none⟩,
  ⟨some p13, (.fieldAddr 0), [(.tmp p12)], none⟩,
  ⟨none, (.store 1), [(.tmp p13), (.tmp p11)], none⟩])
 (.seq (.reg [
  ⟨some p14, .move, [(.tmp p0)], none⟩,
  ⟨some p15, .nilCheck, [(.tmp p14)], none⟩,
  ⟨some p16, (.fieldAddr 0), [(.tmp p15)], none⟩,
  ⟨some p17, (.load false 1), [(.tmp p16)], none⟩,
  ⟨some p18, .move, [(.tmp p0)], none⟩,
  ⟨some p19, (.eql .ptr true), [(.tmp p17), (.tmp p18)], none⟩])
 (.cond (.tmp p19)
 .never
 .skip)))),
 []⟩
def F220 : IFn := ⟨1,
(.seq (.reg [
  ⟨some p2, .move, [(.const (.str []))], none⟩])
 (.seq (.reg [
  ⟨some p3, .move, [(.tmp p0)], none⟩,
  ⟨some p4, .call, [(.const (.fn 230 [] [])), (.tmp p3)], none⟩,
  ⟨some p2, .move, [(.tmp p4)], none⟩])
 (.ret [.tmp p2]))),
 [.tmp p2]⟩
def F222 : IFn := ⟨1,
(.seq (.reg [
  ⟨some p4, .move, [(.tmp p0)], none⟩,
  ⟨some p5, .lenL, [(.tmp p4)], none⟩,
  ⟨some p6, (.bin .sub), [(.tmp p5), (.const (.int .i64 (.ofNat 1)))], none⟩,
  ⟨some p2, .move, [(.const (.int .i64 (.ofNat 0)))], none⟩,
  ⟨some p3, .move, [(.tmp p6)], none⟩])
 (.block 0 [] (.loop [p0, p2, p3] (.seq (.seq (.reg [
  ⟨some p7, .move, [(.tmp p2)], none⟩,
  ⟨some p8, .move, [(.tmp p3)], none⟩,
  ⟨some p9, (.bin .lss), [(.tmp p7), (.tmp p8)], none⟩])
 (.cond (.tmp p9)
 .skip
 (.exit 0 [])))
 (.seq (.block 1 [p0, p2, p3] (.drawn [
  ⟨0, ⟨some p14, .move, [(.tmp p0)], none⟩, .pure, []⟩,
  ⟨1, ⟨some p15, .move, [(.tmp p2)], none⟩, .pure, []⟩,
  ⟨2, ⟨some p16, .move, [(.tmp p0)], none⟩, .pure, []⟩,
  ⟨3, ⟨some p17, .move, [(.tmp p3)], none⟩, .pure, []⟩,
  ⟨4, ⟨some p18, .move, [(.tmp p0)], none⟩, .pure, []⟩,
  ⟨5, ⟨some p19, .move, [(.tmp p3)], none⟩, .pure, []⟩,
  ⟨6, ⟨some p20, (.idxSlice 6), [(.tmp p18), (.tmp p19)], none⟩, .pure, [4, 5]⟩,
  ⟨7, ⟨some p21, (.load true 6), [(.tmp p20)], none⟩, (.read 0 0), [6]⟩,
  ⟨8, ⟨some p22, .move, [(.tmp p0)], none⟩, .pure, []⟩,
  ⟨9, ⟨some p23, .move, [(.tmp p2)], none⟩, .pure, []⟩,
  ⟨10, ⟨some p24, (.idxSlice 6), [(.tmp p22), (.tmp p23)], none⟩, .pure, [8, 9]⟩,
  ⟨11, ⟨some p25, (.load true 6), [(.tmp p24)], none⟩, (.read 0 0), [10]⟩,
  ⟨12, ⟨some p26, (.idxSlice 6), [(.tmp p14), (.tmp p15)], none⟩, .pure, [0, 1, 0, 1, 4, 5, 6, 7, 11]⟩,
  ⟨13, ⟨none, (.store 6), [(.tmp p26), (.tmp p21)], none⟩, .eff, [12, 7, 0, 1, 4, 5, 6, 7, 11]⟩,
  ⟨14, ⟨some p27, (.idxSlice 6), [(.tmp p16), (.tmp p17)], none⟩, .pure, [2, 3, 0, 1, 2, 3, 4, 5, 6, 7, 8, 9, 10, 11, 12, 13]⟩,
  ⟨15, ⟨none, (.store 6), [(.tmp p27), (.tmp p25)], none⟩, .eff, [14, 11, 13, 0, 1, 2, 3, 4, 5, 6, 7, 8, 9, 10, 11, 12, 13]⟩]))
 (.reg [
  ⟨some p10, .move, [(.tmp p2)], none⟩,
  ⟨some p11, (.bin .add), [(.tmp p10), (.const (.int .i64 (.ofNat 1)))], none⟩,
  ⟨some p12, .move, [(.tmp p3)], none⟩,
  ⟨some p13, (.bin .sub), [(.tmp p12), (.const (.int .i64 (.ofNat 1)))], none⟩,
  ⟨some p2, .move, [(.tmp p11)], none⟩,
  ⟨some p3, .move, [(.tmp p13)], none⟩])))))),
 []⟩
def F223 : IFn := ⟨1,
(.seq (.reg [
  ⟨some p4, .move, [(.tmp p0)], none⟩,
  ⟨some p5, .lenL, [(.tmp p4)], none⟩,
  ⟨some p6, (.bin .sub), [(.tmp p5), (.const (.int .i64 (.ofNat 1)))], none⟩,
  ⟨some p2, .move, [(.const (.int .i64 (.ofNat 0)))], none⟩,
  ⟨some p3, .move, [(.tmp p6)], none⟩])
 (.block 0 [] (.loop [p0, p2, p3] (.seq (.seq (.reg [
  ⟨some p7, .move, [(.tmp p2)], none⟩,
  ⟨some p8, .move, [(.tmp p3)], none⟩,
  ⟨some p9, (.bin .lss), [(.tmp p7), (.tmp p8)], none⟩])
 (.cond (.tmp p9)
 .skip
 (.exit 0 [])))
 (.seq (.block 1 [p0, p2, p3] (.drawn [
  ⟨0, ⟨some p14, .move, [(.tmp p0)], none⟩, .pure, []⟩,
  ⟨1, ⟨some p15, .move, [(.tmp p2)], none⟩, .pure, []⟩,
  ⟨2, ⟨some p16, .move, [(.tmp p0)], none⟩, .pure, []⟩,
  ⟨3, ⟨some p17, .move, [(.tmp p3)], none⟩, .pure, []⟩,
  ⟨4, ⟨some p18, .move, [(.tmp p0)], none⟩, .pure, []⟩,
  ⟨5, ⟨some p19, .move, [(.tmp p3)], none⟩, .pure, []⟩,
  ⟨6, ⟨some p20, (.idxSlice 5), [(.tmp p18), (.tmp p19)], none⟩, .pure, [4, 5]⟩,
  ⟨7, ⟨some p21, (.load true 5), [(.tmp p20)], none⟩, (.read 0 0), [6]⟩,
  ⟨8, ⟨some p22, .move, [(.tmp p0)], none⟩, .pure, []⟩,
  ⟨9, ⟨some p23, .move, [(.tmp p2)], none⟩, .pure, []⟩,
  ⟨10, ⟨some p24, (.idxSlice 5), [(.tmp p22), (.tmp p23)], none⟩, .pure, [8, 9]⟩,
  ⟨11, ⟨some p25, (.load true 5), [(.tmp p24)], none⟩, (.read 0 0), [10]⟩,
  ⟨12, ⟨some p26, (.idxSlice 5), [(.tmp p14), (.tmp p15)], none⟩, .pure, [0, 1, 0, 1, 4, 5, 6, 7, 11]⟩,
  ⟨13, ⟨none, (.store 5), [(.tmp p26), (.tmp p21)], none⟩, .eff, [12, 7, 0, 1, 4, 5, 6, 7, 11]⟩,
  ⟨14, ⟨some p27, (.idxSlice 5), [(.tmp p16), (.tmp p17)], none⟩, .pure, [2, 3, 0, 1, 2, 3, 4, 5, 6, 7, 8, 9, 10, 11, 12, 13]⟩,
  ⟨15, ⟨none, (.store 5), [(.tmp p27), (.tmp p25)], none⟩, .eff, [14, 11, 13, 0, 1, 2, 3, 4, 5, 6, 7, 8, 9, 10, 11, 12, 13]⟩]))
 (.reg [
  ⟨some p10, .move, [(.tmp p2)], none⟩,
  ⟨some p11, (.bin .add), [(.tmp p10), (.const (.int .i64 (.ofNat 1)))], none⟩,
  ⟨some p12, .move, [(.tmp p3)], none⟩,
  ⟨some p13, (.bin .sub), [(.tmp p12), (.const (.int .i64 (.ofNat 1)))], none⟩,
  ⟨some p2, .move, [(.tmp p11)], none⟩,
  ⟨some p3, .move, [(.tmp p13)], none⟩])))))),
 []⟩
def F224 : IFn := ⟨1,
(.seq (.reg [
  ⟨some p2, .move, [(.const (.int .i64 (.ofNat 0)))], none⟩])
 (.seq (.reg [
  ⟨some p6, .move, [(.tmp p0)], none⟩,
  ⟨some p7, .nilCheck, [(.tmp p6)], none⟩,
  ⟨some p8, (.fieldAddr 1), [(.tmp p7)], none⟩,
  ⟨some p9, (.load false 1), [(.tmp p8)], none⟩,
  ⟨some p3, .move, [(.tmp p9)], none⟩])
 (.seq (.block 0 [p0, p3] (.loop [p0, p3] (.seq (.seq (.drawn [
  ⟨0, ⟨some p10, .move, [(.tmp p0)], none⟩, .pure, []⟩,
  ⟨1, ⟨some p11, .nilCheck, [(.tmp p10)], none⟩, .pure, [0]⟩,
  ⟨2, ⟨some p12, (.fieldAddr 1), [(.tmp p11)], none⟩, .pure, [1]⟩,
  ⟨3, ⟨some p13, (.load false 1), [(.tmp p12)], none⟩, (.read 0 0), [2]⟩,
  ⟨4, ⟨some p14, .move, [(.tmp p0)], none⟩, .pure, []⟩,
  ⟨5, ⟨some p15, .nilCheck, [(.tmp p14)], none⟩, .pure, [4]⟩,
  ⟨6, ⟨some p16, (.fieldAddr 0), [(.tmp p15)], none⟩, .pure, [5]⟩,
  ⟨7, ⟨some p17, (.load false 1), [(.tmp p16)], none⟩, (.read 0 0), [6]⟩,
  ⟨8, ⟨some p18, .lenS, [(.tmp p17)], none⟩, .pure, [7]⟩,
  ⟨9, ⟨some p19, (.bin .lss), [(.tmp p13), (.tmp p18)], none⟩, .pure, [3, 8]⟩,
  ⟨10, ⟨some p20, .move, [(.tmp p19)], none⟩, .pure, [9]⟩,
  ⟨11, ⟨some p21, .move, [(.tmp p0)], some (p20, true)⟩, .pure, [10]⟩,
  ⟨12, ⟨some p22, .nilCheck, [(.tmp p21)], some (p20, true)⟩, .pure, [11, 10]⟩,
  ⟨13, ⟨some p23, (.fieldAddr 0), [(.tmp p22)], some (p20, true)⟩, .pure, [12, 10]⟩,
  ⟨14, ⟨some p24, (.load false 1), [(.tmp p23)], some (p20, true)⟩, (.read 0 0), [13, 10]⟩,
  ⟨15, ⟨some p25, .move, [(.tmp p0)], some (p20, true)⟩, .pure, [10]⟩,
  ⟨16, ⟨some p26, .nilCheck, [(.tmp p25)], some (p20, true)⟩, .pure, [15, 10]⟩,
  ⟨17, ⟨some p27, (.fieldAddr 1), [(.tmp p26)], some (p20, true)⟩, .pure, [16, 10]⟩,
  ⟨18, ⟨some p28, (.load false 1), [(.tmp p27)], some (p20, true)⟩, (.read 0 0), [17, 10]⟩,
  ⟨19, ⟨some p29, .idxStr, [(.tmp p24), (.tmp p28)], some (p20, true)⟩, .pure, [14, 18, 10]⟩,
  ⟨20, ⟨some p30, (.bin .geq), [(.tmp p29), (.const (.int .u8 (.ofNat 48)))], some (p20, true)⟩, .pure, [19, 10]⟩,
  ⟨21, ⟨some p31, .pick, [(.tmp p20), (.tmp p30), (.const (.bool false))], none⟩, .pure, [10, 20]⟩,
  ⟨22, ⟨some p32, .move, [(.tmp p31)], none⟩, .pure, [21, 10]⟩,
  ⟨23, ⟨some p33, .move, [(.tmp p0)], some (p32, true)⟩, .pure, [22]⟩,
  ⟨24, ⟨some p34, .nilCheck, [(.tmp p33)], some (p32, true)⟩, .pure, [23, 22]⟩,
  ⟨25, ⟨some p35, (.fieldAddr 0), [(.tmp p34)], some (p32, true)⟩, .pure, [24, 22]⟩,
  ⟨26, ⟨some p36, (.load false 1), [(.tmp p35)], some (p32, true)⟩, (.read 0 0), [25, 22]⟩,
  ⟨27, ⟨some p37, .move, [(.tmp p0)], some (p32, true)⟩, .pure, [22]⟩,
  ⟨28, ⟨some p38, .nilCheck, [(.tmp p37)], some (p32, true)⟩, .pure, [27, 22]⟩,
  ⟨29, ⟨some p39, (.fieldAddr 1), [(.tmp p38)], some (p32, true)⟩, .pure, [28, 22]⟩,
  ⟨30, ⟨some p40, (.load false 1), [(.tmp p39)], some (p32, true)⟩, (.read 0 0), [29, 22]⟩,
  ⟨31, ⟨some p41, .idxStr, [(.tmp p36), (.tmp p40)], some (p32, true)⟩, .pure, [26, 30, 22]⟩,
  ⟨32, ⟨some p42, (.bin .leq), [(.tmp p41), (.const (.int .u8 (.ofNat 57)))], some (p32, true)⟩, .pure, [31, 22]⟩,
  ⟨33, ⟨some p43, .pick, [(.tmp p32), (.tmp p42), (.const (.bool false))], none⟩, .pure, [22, 32]⟩])
 (.cond (.tmp p43)
 .skip
 (.exit 0 [p0, p3])))
 (.block 1 [p0, p3] (.reg [
  ⟨some p44, .move, [(.tmp p0)], none⟩,
  ⟨some p45, .nilCheck, [(.tmp p44)], none⟩,
  ⟨some p46, (.fieldAddr 1), [(.tmp p45)], none⟩,
  ⟨some p47, (.load false 1), [(.tmp p46)], none⟩,
  ⟨some p48, (.bin .add), [(.tmp p47), (.const (.int .i64 (.ofNat 1)))], none⟩,
  ⟨some p49, .nilCheck, [(.tmp p44)], none⟩,
  ⟨some p50, (.fieldAddr 1), [(.tmp p49)], none⟩,
  ⟨none, (.store 1), [(.tmp p50), (.tmp p48)], none⟩])))))
 (.seq (.drawn [
  ⟨0, ⟨some p52, .move, [(.tmp p0)], none⟩, .pure, []⟩,
  ⟨1, ⟨some p53, .nilCheck, [(.tmp p52)], none⟩, .pure, [0]⟩,
  ⟨2, ⟨some p54, (.fieldAddr 0), [(.tmp p53)], none⟩, .pure, [1]⟩,
  ⟨3, ⟨some p55, (.load false 1), [(.tmp p54)], none⟩, (.read 0 0), [2]⟩,
  ⟨4, ⟨some p56, .move, [(.tmp p3)], none⟩, .pure, []⟩,
  ⟨5, ⟨some p57, .move, [(.tmp p0)], none⟩, .pure, []⟩,
  ⟨6, ⟨some p58, .nilCheck, [(.tmp p57)], none⟩, .pure, [5]⟩,
  ⟨7, ⟨some p59, (.fieldAddr 1), [(.tmp p58)], none⟩, .pure, [6]⟩,
  ⟨8, ⟨some p60, (.load false 1), [(.tmp p59)], none⟩, (.read 0 0), [7]⟩,
  ⟨9, ⟨some p61, (.slStr true true), [(.tmp p55), (.tmp p56), (.tmp p60)], none⟩, .pure, [3, 4, 8]⟩,
  ⟨10, ⟨some p62, .call, [(.const (.fn 231 [] [])), (.tmp p61)], none⟩, .eff, [9]⟩,
  ⟨11, ⟨some p51, .move, [(.tmp p62)], none⟩, .pure, [10]⟩,
  ⟨12, ⟨some p63, (.extract 0), [(.tmp p51)], none⟩, .pure, [11]⟩,
  ⟨13, ⟨some p64, (.extract 1), [(.tmp p51)], none⟩, .pure, [11]⟩,
  ⟨14, ⟨some p4, .move, [(.tmp p63)], none⟩, .pure, [12, 10, 0, 1, 2, 3, 4, 5, 6, 7, 8, 9, 10, 11, 12]⟩,
  ⟨15, ⟨some p5, .move, [(.tmp p64)], none⟩, .pure, [13, 14, 0, 1, 2, 3, 4, 5, 6, 7, 8, 9, 10, 11, 12, 13, 14]⟩])
 (.seq (.seq (.reg [
  ⟨some p65, .move, [(.tmp p5)], none⟩,
  ⟨some p66, .not, [(.tmp p65)], none⟩])
 (.cond (.tmp p66)
 (.reg [
  ⟨some p67, .move, [(.tmp p0)], none⟩,
  ⟨some p68, .call, [(.const (.fn 198 [] [])), (.tmp p67)], none⟩])
 .skip))
 (.seq (.reg [
  ⟨some p69, .move, [(.tmp p4)], none⟩,
  ⟨some p2, .move, [(.tmp p69)], none⟩])
 (.ret [.tmp p2]))))))),
 [.tmp p2]⟩
def F225 : IFn := ⟨2,
(.seq (.reg [
  ⟨some p4, .move, [(.tmp p0)], none⟩,
  ⟨some p5, .call, [(.const (.fn 226 [] [])), (.tmp p4)], none⟩,
  ⟨some p6, .move, [(.tmp p1)], none⟩,
  ⟨some p7, (.eql (.base .int) true), [(.tmp p5), (.tmp p6)], none⟩])
 (.cond (.tmp p7)
 (.reg [
  ⟨some p8, .move, [(.tmp p0)], none⟩,
  ⟨some p9, .call, [(.const (.fn 198 [] [])), (.tmp p8)], none⟩])
 .skip)),
 []⟩
def F226 : IFn := ⟨1,
(.seq (.reg [
  ⟨some p2, .move, [(.const (.int .u8 (.ofNat 0)))], none⟩])
 (.seq (.seq (.drawn [
  ⟨0, ⟨some p3, .move, [(.tmp p0)], none⟩, .pure, []⟩,
  ⟨1, ⟨some p4, .nilCheck, [(.tmp p3)], none⟩, .pure, [0]⟩,
  ⟨2, ⟨some p5, (.fieldAddr 1), [(.tmp p4)], none⟩, .pure, [1]⟩,
  ⟨3, ⟨some p6, (.load false 1), [(.tmp p5)], none⟩, (.read 0 0), [2]⟩,
  ⟨4, ⟨some p7, .move, [(.tmp p0)], none⟩, .pure, []⟩,
  ⟨5, ⟨some p8, .nilCheck, [(.tmp p7)], none⟩, .pure, [4]⟩,
  ⟨6, ⟨some p9, (.fieldAddr 0), [(.tmp p8)], none⟩, .pure, [5]⟩,
  ⟨7, ⟨some p10, (.load false 1), [(.tmp p9)], none⟩, (.read 0 0), [6]⟩,
  ⟨8, ⟨some p11, .lenS, [(.tmp p10)], none⟩, .pure, [7]⟩,
  ⟨9, ⟨some p12, (.bin .geq), [(.tmp p6), (.tmp p11)], none⟩, .pure, [3, 8]⟩])
 (.cond (.tmp p12)
 (.reg [
  ⟨some p13, .move, [(.tmp p0)], none⟩,
  ⟨some p14, .call, [(.const (.fn 198 [] [])), (.tmp p13)], none⟩])
 .skip))
 (.seq (.reg [
  ⟨some p15, .move, [(.tmp p0)], none⟩,
  ⟨some p16, .nilCheck, [(.tmp p15)], none⟩,
  ⟨some p17, (.fieldAddr 1), [(.tmp p16)], none⟩,
  ⟨some p18, (.load false 1), [(.tmp p17)], none⟩,
  ⟨some p19, (.bin .add), [(.tmp p18), (.const (.int .i64 (.ofNat 1)))], none⟩,
  ⟨some p20, .nilCheck, [(.tmp p15)], none⟩,
  ⟨some p21, (.fieldAddr 1), [(.tmp p20)], none⟩,
  ⟨none, (.store 1), [(.tmp p21), (.tmp p19)], none⟩])
 (.seq (.drawn [
  ⟨0, ⟨some p22, .move, [(.tmp p0)], none⟩, .pure, []⟩,
  ⟨1, ⟨some p23, .nilCheck, [(.tmp p22)], none⟩, .pure, [0]⟩,
  ⟨2, ⟨some p24, (.fieldAddr 0), [(.tmp p23)], none⟩, .pure, [1]⟩,
  ⟨3, ⟨some p25, (.load false 1), [(.tmp p24)], none⟩, (.read 0 0), [2]⟩,
  ⟨4, ⟨some p26, .move, [(.tmp p0)], none⟩, .pure, []⟩,
  ⟨5, ⟨some p27, .nilCheck, [(.tmp p26)], none⟩, .pure, [4]⟩,
  ⟨6, ⟨some p28, (.fieldAddr 1), [(.tmp p27)], none⟩, .pure, [5]⟩,
  ⟨7, ⟨some p29, (.load false 1), [(.tmp p28)], none⟩, (.read 0 0), [6]⟩,
  ⟨8, ⟨some p30, (.bin .sub), [(.tmp p29), (.const (.int .i64 (.ofNat 1)))], none⟩, .pure, [7]⟩,
  ⟨9, ⟨some p31, .idxStr, [(.tmp p25), (.tmp p30)], none⟩, .pure, [3, 8]⟩,
  ⟨10, ⟨some p2, .move, [(.tmp p31)], none⟩, .pure, [9, 0, 1, 2, 3, 4, 5, 6, 7, 8, 9]⟩])
 (.ret [.tmp p2]))))),
 [.tmp p2]⟩
def F227 : IFn := ⟨2,
(.seq (.reg [
  ⟨some p4, .move, [(.tmp p0)], none⟩,
  ⟨some p5, .move, [(.tmp p1)], none⟩,
  ⟨some p6, (.slSlice 2 false true false), [(.tmp p4), (.tmp p5)], none⟩,
  ⟨some p7, .call, [(.const (.fn 232 [] [])), (.tmp p6)], none⟩])
 (.seq (.reg [
  ⟨some p8, .move, [(.tmp p0)], none⟩,
  ⟨some p9, .move, [(.tmp p1)], none⟩,
  ⟨some p10, (.slSlice 2 true false false), [(.tmp p8), (.tmp p9)], none⟩,
  ⟨some p11, .call, [(.const (.fn 232 [] [])), (.tmp p10)], none⟩])
 (.reg [
  ⟨some p12, .move, [(.tmp p0)], none⟩,
  ⟨some p13, .call, [(.const (.fn 232 [] [])), (.tmp p12)], none⟩]))),
 []⟩
def F228 : IFn := ⟨4,
(.seq (.reg [
  ⟨some p8, .move, [(.const (.int .i64 (.ofNat 0)))], none⟩,
  ⟨some p9, .move, [(.const (.int .i64 (.ofNat 0)))], none⟩])
 (.seq (.seq (.drawn [
  ⟨0, ⟨some p10, .move, [(.tmp p0)], none⟩, .pure, []⟩,
  ⟨1, ⟨some p11, .move, [(.tmp p2)], none⟩, .pure, []⟩,
  ⟨2, ⟨some p12, (.idxSlice 1), [(.tmp p10), (.tmp p11)], none⟩, .pure, [0, 1]⟩,
  ⟨3, ⟨some p13, (.load false 1), [(.tmp p12)], none⟩, (.read 0 0), [2]⟩,
  ⟨4, ⟨some p14, .move, [(.tmp p0)], none⟩, .pure, []⟩,
  ⟨5, ⟨some p15, .move, [(.tmp p1)], none⟩, .pure, []⟩,
  ⟨6, ⟨some p16, (.idxSlice 1), [(.tmp p14), (.tmp p15)], none⟩, .pure, [4, 5]⟩,
  ⟨7, ⟨some p17, (.load false 1), [(.tmp p16)], none⟩, (.read 0 0), [6]⟩,
  ⟨8, ⟨some p18, .call, [(.const (.fn 183 [] [])), (.tmp p13), (.tmp p17)], none⟩, .eff, [3, 7]⟩])
 (.cond (.tmp p18)
 (.seq (.reg [
  ⟨some p19, .move, [(.tmp p3)], none⟩,
  ⟨some p20, .nilCheck, [(.tmp p19)], none⟩,
  ⟨some p21, (.load false 1), [(.tmp p20)], none⟩,
  ⟨some p22, (.bin .add), [(.tmp p21), (.const (.int .i64 (.ofNat 1)))], none⟩,
  ⟨some p23, .nilCheck, [(.tmp p19)], none⟩,
  ⟨none, (.store 1), [(.tmp p23), (.tmp p22)], none⟩])
 (.seq (.reg [
  ⟨some p24, .move, [(.tmp p2)], none⟩,
  ⟨some p25, .move, [(.tmp p1)], none⟩,
  ⟨some p8, .move, [(.tmp p24)], none⟩,
  ⟨some p9, .move, [(.tmp p25)], none⟩])
 (.ret [.tmp p8, .tmp p9])))
 .skip))
 (.seq (.reg [
  ⟨some p26, .move, [(.tmp p1)], none⟩,
  ⟨some p27, .move, [(.tmp p2)], none⟩,
  ⟨some p8, .move, [(.tmp p26)], none⟩,
  ⟨some p9, .move, [(.tmp p27)], none⟩])
 (.ret [.tmp p8, .tmp p9])))),
 [.tmp p8, .tmp p9]⟩
def F230 : IFn := ⟨1,
(.seq (.reg [
  ⟨some p2, .move, [(.const (.str []))], none⟩])
 (.seq (.reg [
  ⟨some p3, .move, [(.tmp p0)], none⟩,
  ⟨some p4, .call, [(.const (.fn 233 [] [])), (.tmp p3), (.const (.int .i64 (.ofNat 10)))], none⟩,
  ⟨some p2, .move, [(.tmp p4)], none⟩])
 (.ret [.tmp p2]))),
 [.tmp p2]⟩
def F231 : IFn := ⟨1,
(.seq (.reg [
  ⟨some p2, .move, [(.const (.int .i64 (.ofNat 0)))], none⟩,
  ⟨some p3, .move, [(.const (.bool false))], none⟩])
 (.seq (.reg [
  ⟨some p7, .move, [(.tmp p0)], none⟩,
  ⟨some p8, .call, [(.const (.fn 234 [] [])), (.tmp p7)], none⟩,
  ⟨some p6, .move, [(.tmp p8)], none⟩,
  ⟨some p9, (.extract 0), [(.tmp p6)], none⟩,
  ⟨some p10, (.extract 1), [(.tmp p6)], none⟩,
  ⟨some p4, .move, [(.tmp p9)], none⟩,
  ⟨some p5, .move, [(.tmp p10)], none⟩])
 (.seq (.seq (.reg [
  ⟨some p11, .move, [(.tmp p5)], none⟩,
  ⟨some p12, (.eql (.iface true) true), [(.tmp p11), (.const .inil)], none⟩,
  ⟨some p13, .move, [(.tmp p12)], none⟩,
  ⟨some p14, .move, [(.tmp p4)], some (p13, false)⟩,
  ⟨some p15, (.bin .lss), [(.tmp p14), (.const (.int .i64 (.ofNat 0)))], some (p13, false)⟩,
  ⟨some p16, .pick, [(.tmp p13), (.const (.bool true)), (.tmp p15)], none⟩,
  ⟨some p17, .move, [(.tmp p16)], none⟩,
  ⟨some p18, .move, [(.tmp p0)], some (p17, false)⟩,
  ⟨some p19, .move, [(.tmp p4)], some (p17, false)⟩,
  ⟨some p20, .call, [(.const (.fn 189 [] [])), (.tmp p19)], some (p17, false)⟩,
  ⟨some p21, (.eql (.base .str) true), [(.tmp p18), (.tmp p20)], some (p17, false)⟩,
  ⟨some p22, .pick, [(.tmp p17), (.const (.bool true)), (.tmp p21)], none⟩])
 (.cond (.tmp p22)
 (.seq (.reg [
  ⟨some p2, .move, [(.const (.int .i64 (.ofNat 0)))], none⟩,
  ⟨some p3, .move, [(.const (.bool false))], none⟩])
 (.ret [.tmp p2, .tmp p3]))
 .skip))
 (.seq (.reg [
  ⟨some p23, .move, [(.tmp p4)], none⟩,
  ⟨some p2, .move, [(.tmp p23)], none⟩,
  ⟨some p3, .move, [(.const (.bool true))], none⟩])
 (.ret [.tmp p2, .tmp p3]))))),
 [.tmp p2, .tmp p3]⟩
def F232 : IFn := ⟨1,
(.seq (.reg [
  ⟨some p4, .move, [(.tmp p0)], none⟩,
  ⟨some p5, .lenL, [(.tmp p4)], none⟩,
  ⟨some p6, (.bin .sub), [(.tmp p5), (.const (.int .i64 (.ofNat 1)))], none⟩,
  ⟨some p2, .move, [(.const (.int .i64 (.ofNat 0)))], none⟩,
  ⟨some p3, .move, [(.tmp p6)], none⟩])
 (.block 0 [] (.loop [p0, p2, p3] (.seq (.seq (.reg [
  ⟨some p7, .move, [(.tmp p2)], none⟩,
  ⟨some p8, .move, [(.tmp p3)], none⟩,
  ⟨some p9, (.bin .lss), [(.tmp p7), (.tmp p8)], none⟩])
 (.cond (.tmp p9)
 .skip
 (.exit 0 [])))
 (.seq (.block 1 [p0, p2, p3] (.drawn [
  ⟨0, ⟨some p14, .move, [(.tmp p0)], none⟩, .pure, []⟩,
  ⟨1, ⟨some p15, .move, [(.tmp p2)], none⟩, .pure, []⟩,
  ⟨2, ⟨some p16, .move, [(.tmp p0)], none⟩, .pure, []⟩,
  ⟨3, ⟨some p17, .move, [(.tmp p3)], none⟩, .pure, []⟩,
  ⟨4, ⟨some p18, .move, [(.tmp p0)], none⟩, .pure, []⟩,
  ⟨5, ⟨some p19, .move, [(.tmp p3)], none⟩, .pure, []⟩,
  ⟨6, ⟨some p20, (.idxSlice 2), [(.tmp p18), (.tmp p19)], none⟩, .pure, [4, 5]⟩,
  ⟨7, ⟨some p21, (.load true 2), [(.tmp p20)], none⟩, (.read 0 0), [6]⟩,
  ⟨8, ⟨some p22, .move, [(.tmp p0)], none⟩, .pure, []⟩,
  ⟨9, ⟨some p23, .move, [(.tmp p2)], none⟩, .pure, []⟩,
  ⟨10, ⟨some p24, (.idxSlice 2), [(.tmp p22), (.tmp p23)], none⟩, .pure, [8, 9]⟩,
  ⟨11, ⟨some p25, (.load true 2), [(.tmp p24)], none⟩, (.read 0 0), [10]⟩,
  ⟨12, ⟨some p26, (.idxSlice 2), [(.tmp p14), (.tmp p15)], none⟩, .pure, [0, 1, 0, 1, 4, 5, 6, 7, 11]⟩,
  ⟨13, ⟨none, (.store 2), [(.tmp p26), (.tmp p21)], none⟩, .eff, [12, 7, 0, 1, 4, 5, 6, 7, 11]⟩,
  ⟨14, ⟨some p27, (.idxSlice 2), [(.tmp p16), (.tmp p17)], none⟩, .pure, [2, 3, 0, 1, 2, 3, 4, 5, 6, 7, 8, 9, 10, 11, 12, 13]⟩,
  ⟨15, ⟨none, (.store 2), [(.tmp p27), (.tmp p25)], none⟩, .eff, [14, 11, 13, 0, 1, 2, 3, 4, 5, 6, 7, 8, 9, 10, 11, 12, 13]⟩]))
 (.reg [
  ⟨some p10, .move, [(.tmp p2)], none⟩,
  ⟨some p11, (.bin .add), [(.tmp p10), (.const (.int .i64 (.ofNat 1)))], none⟩,
  ⟨some p12, .move, [(.tmp p3)], none⟩,
  ⟨some p13, (.bin .sub), [(.tmp p12), (.const (.int .i64 (.ofNat 1)))], none⟩,
  ⟨some p2, .move, [(.tmp p11)], none⟩,
  ⟨some p3, .move, [(.tmp p13)], none⟩])))))),
 []⟩
def F233 : IFn := ⟨2,
(.seq (.reg [
  ⟨some p4, .move, [(.const (.str []))], none⟩])
 (.seq (.seq (.reg [
  ⟨some p10, .move, [(.tmp p1)], none⟩,
  ⟨some p11, (.eql (.base .int) false), [(.tmp p10), (.const (.int .i64 (.ofNat 10)))], none⟩])
 (.cond (.tmp p11)
 (.seq (.seq (.reg [
  ⟨some p12, .move, [(.tmp p0)], none⟩,
  ⟨some p13, (.bin .leq), [(.const (.int .i64 (.ofNat 0))), (.tmp p12)], none⟩,
  ⟨some p14, .move, [(.tmp p13)], none⟩,
  ⟨some p15, .move, [(.tmp p0)], some (p14, true)⟩,
  ⟨some p16, (.bin .lss), [(.tmp p15), (.const (.int .i64 (.ofNat 100)))], some (p14, true)⟩,
  ⟨some p17, .pick, [(.tmp p14), (.tmp p16), (.const (.bool false))], none⟩])
 (.cond (.tmp p17)
 (.seq (.reg [
  ⟨some p18, .move, [(.tmp p0)], none⟩,
  ⟨some p19, .call, [(.const (.fn 235 [] [])), (.tmp p18)], none⟩,
  ⟨some p4, .move, [(.tmp p19)], none⟩])
 (.ret [.tmp p4]))
 .skip))
 (.seq (.reg [
  ⟨some p5, (.alloc 288 [(.int .u8 (.ofNat 0)), (.int .u8 (.ofNat 0)), (.int .u8 (.ofNat 0)), (.int .u8 (.ofNat 0)), (.int .u8 (.ofNat 0)), (.int .u8 (.ofNat 0)), (.int .u8 (.ofNat 0)), (.int .u8 (.ofNat 0)), (.int .u8 (.ofNat 0)), (.int .u8 (.ofNat 0)), (.int .u8 (.ofNat 0)), (.int .u8 (.ofNat 0)), (.int .u8 (.ofNat 0)), (.int .u8 (.ofNat 0)), (.int .u8 (.ofNat 0)), (.int .u8 (.ofNat 0)), (.int .u8 (.ofNat 0)), (.int .u8 (.ofNat 0)), (.int .u8 (.ofNat 0)), (.int .u8 (.ofNat 0)), (.int .u8 (.ofNat 0)), (.int .u8 (.ofNat 0)), (.int .u8 (.ofNat 0)), (.int .u8 (.ofNat 0))]), [], none⟩])
 (.seq (.reg [
  ⟨some p20, .move, [(.tmp p0)], none⟩,
  ⟨some p21, (.convInt .u64), [(.tmp p20)], none⟩,
  ⟨some p6, .move, [(.tmp p21)], none⟩])
 (.seq (.seq (.reg [
  ⟨some p22, .move, [(.tmp p0)], none⟩,
  ⟨some p23, (.bin .lss), [(.tmp p22), (.const (.int .i64 (.ofNat 0)))], none⟩])
 (.cond (.tmp p23)
 (.reg [
  ⟨some p24, .move, [(.tmp p6)], none⟩,
  ⟨some p25, .never, [], none⟩,
  ⟨some p6, .move, [(.tmp p25)], none⟩])
 .skip))
 (.seq (.reg [
  ⟨some p26, .move, [(.tmp p6)], none⟩,
  ⟨some p27, .call, [(.const (.fn 236 [] [])), (.tmp p26)], none⟩,
  ⟨some p7, .move, [(.tmp p27)], none⟩])
 (.seq (.reg [
  ⟨some p28, .move, [(.tmp p7)], none⟩,
  ⟨some p29, (.bin .add), [(.const (.int .i64 (.ofNat 1))), (.tmp p28)], none⟩,
  ⟨some p30, (.slArr 1 24 true true), [(.tmp p5), (.const (.int .i64 (.ofNat 1))), (.tmp p29)], none⟩,
  ⟨some p31, .move, [(.tmp p6)], none⟩,
  ⟨some p32, .call, [(.const (.fn 237 [] [])), (.tmp p30), (.tmp p31)], none⟩])
 (.seq (.seq (.reg [
  ⟨some p33, .move, [(.tmp p0)], none⟩,
  ⟨some p34, (.bin .lss), [(.tmp p33), (.const (.int .i64 (.ofNat 0)))], none⟩])
 (.cond (.tmp p34)
 (.seq (.reg [
  ⟨some p35, (.idxArr 1 24), [(.tmp p5), (.const (.int .i64 (.ofNat 0)))], none⟩,
  ⟨none, (.store 1), [(.tmp p35), (.const (.int .u8 (.ofNat 45)))], none⟩])
 (.seq (.reg [
  ⟨some p36, .move, [(.tmp p7)], none⟩,
  ⟨some p37, (.bin .add), [(.const (.int .i64 (.ofNat 1))), (.tmp p36)], none⟩,
  ⟨some p38, (.slArr 1 24 false true), [(.tmp p5), (.tmp p37)], none⟩,
  ⟨some p39, .convBytesStr, [(.tmp p38)], none⟩,
  ⟨some p4, .move, [(.tmp p39)], none⟩])
 (.ret [.tmp p4])))
 .skip))
 (.seq (.reg [
  ⟨some p40, .move, [(.tmp p7)], none⟩,
  ⟨some p41, (.bin .add), [(.const (.int .i64 (.ofNat 1))), (.tmp p40)], none⟩,
  ⟨some p42, (.slArr 1 24 true true), [(.tmp p5), (.const (.int .i64 (.ofNat 1))), (.tmp p41)], none⟩,
  ⟨some p43, .convBytesStr, [(.tmp p42)], none⟩,
  ⟨some p4, .move, [(.tmp p43)], none⟩])
 (.ret [.tmp p4])))))))))
 .skip))
 (.seq (.reg [
  ⟨some p45, .move, [(.tmp p0)], none⟩,
  ⟨some p46, (.convInt .u64), [(.tmp p45)], none⟩,
  ⟨some p47, .move, [(.tmp p1)], none⟩,
  ⟨some p48, .move, [(.tmp p0)], none⟩,
  ⟨some p49, (.bin .lss), [(.tmp p48), (.const (.int .i64 (.ofNat 0)))], none⟩,
  ⟨some p50, .call, [(.const (.fn 238 [] [])), (.const .snil), (.tmp p46), (.tmp p47), (.tmp p49), (.const (.bool false))], none⟩,
  ⟨some p44, .move, [(.tmp p50)], none⟩,
  ⟨some p51, (.extract 0), [(.tmp p44)], none⟩,
  ⟨some p52, (.extract 1), [(.tmp p44)], none⟩,
  ⟨some p8, .move, [(.tmp p51)], none⟩,
  ⟨some p9, .move, [(.tmp p52)], none⟩])
 (.seq (.reg [
  ⟨some p53, .move, [(.tmp p9)], none⟩,
  ⟨some p4, .move, [(.tmp p53)], none⟩])
 (.ret [.tmp p4]))))),
 [.tmp p4]⟩
def F234 : IFn := ⟨1,
(.seq (.reg [
  ⟨some p2, .move, [(.const (.int .i64 (.ofNat 0)))], none⟩,
  ⟨some p3, .move, [(.const .inil)], none⟩])
 (.seq (.reg [
  ⟨some p7, .move, [(.tmp p0)], none⟩,
  ⟨some p8, .call, [(.const (.fn 239 [] [])), (.tmp p7)], none⟩,
  ⟨some p6, .move, [(.tmp p8)], none⟩,
  ⟨some p9, (.extract 0), [(.tmp p6)], none⟩,
  ⟨some p10, (.extract 1), [(.tmp p6)], none⟩,
  ⟨some p4, .move, [(.tmp p9)], none⟩,
  ⟨some p5, .move, [(.tmp p10)], none⟩])
 (.seq (.seq (.reg [
  ⟨some p11, .move, [(.tmp p5)], none⟩,
  ⟨some p12, (.eql (.iface true) true), [(.tmp p11), (.const .inil)], none⟩])
 (.cond (.tmp p12)
 (.seq (.reg [
  ⟨some p13, .move, [(.tmp p4)], none⟩,
  ⟨some p14, .move, [(.tmp p0)], none⟩,
  ⟨some p15, .move, [(.tmp p5)], none⟩,
  ⟨some p16, .call, [(.const (.fn 240 [] [])), (.const (.str [65, 116, 111, 105])), (.tmp p14), (.const (.int .i64 (.ofNat 0))), (.const (.int .i64 (.ofNat 0))), (.tmp p15)], none⟩,
  ⟨some p2, .move, [(.tmp p13)], none⟩,
  ⟨some p3, .move, [(.tmp p16)], none⟩])
 (.ret [.tmp p2, .tmp p3]))
 .skip))
 (.seq (.reg [
  ⟨some p17, .move, [(.tmp p4)], none⟩,
  ⟨some p2, .move, [(.tmp p17)], none⟩,
  ⟨some p3, .move, [(.const .inil)], none⟩])
 (.ret [.tmp p2, .tmp p3]))))),
 [.tmp p2, .tmp p3]⟩
def F235 : IFn := ⟨1,
(.seq (.reg [
  ⟨some p2, .move, [(.const (.str []))], none⟩])
 (.seq (.seq (.reg [
  ⟨some p3, .move, [(.tmp p0)], none⟩,
  ⟨some p4, (.bin .lss), [(.tmp p3), (.const (.int .i64 (.ofNat 10)))], none⟩])
 (.cond (.tmp p4)
 (.seq (.reg [
  ⟨some p5, .move, [(.tmp p0)], none⟩,
  ⟨some p6, .move, [(.tmp p0)], none⟩,
  ⟨some p7, (.bin .add), [(.tmp p6), (.const (.int .i64 (.ofNat 1)))], none⟩,
  ⟨some p8, (.slStr true true), [(.const (.str [48, 49, 50, 51, 52, 53, 54, 55, 56, 57, 97, 98, 99, 100, 101, 102, 103, 104, 105, 106, 107, 108, 109, 110, 111, 112, 113, 114, 115, 116, 117, 118, 119, 120, 121, 122])), (.tmp p5), (.tmp p7)], none⟩,
  ⟨some p2, .move, [(.tmp p8)], none⟩])
 (.ret [.tmp p2]))
 .skip))
 (.seq (.reg [
  ⟨some p9, .move, [(.tmp p0)], none⟩,
  ⟨some p10, (.bin .mul), [(.tmp p9), (.const (.int .i64 (.ofNat 2)))], none⟩,
  ⟨some p11, .move, [(.tmp p0)], none⟩,
  ⟨some p12, (.bin .mul), [(.tmp p11), (.const (.int .i64 (.ofNat 2)))], none⟩,
  ⟨some p13, (.bin .add), [(.tmp p12), (.const (.int .i64 (.ofNat 2)))], none⟩,
  ⟨some p14, (.slStr true true), [(.const (.str [48, 48, 48, 49, 48, 50, 48, 51, 48, 52, 48, 53, 48, 54, 48, 55, 48, 56, 48, 57, 49, 48, 49, 49, 49, 50, 49, 51, 49, 52, 49, 53, 49, 54, 49, 55, 49, 56, 49, 57, 50, 48, 50, 49, 50, 50, 50, 51, 50, 52, 50, 53, 50, 54, 50, 55, 50, 56, 50, 57, 51, 48, 51, 49, 51, 50, 51, 51, 51, 52, 51, 53, 51, 54, 51, 55, 51, 56, 51, 57, 52, 48, 52, 49, 52, 50, 52, 51, 52, 52, 52, 53, 52, 54, 52, 55, 52, 56, 52, 57, 53, 48, 53, 49, 53, 50, 53, 51, 53, 52, 53, 53, 53, 54, 53, 55, 53, 56, 53, 57, 54, 48, 54, 49, 54, 50, 54, 51, 54, 52, 54, 53, 54, 54, 54, 55, 54, 56, 54, 57, 55, 48, 55, 49, 55, 50, 55, 51, 55, 52, 55, 53, 55, 54, 55, 55, 55, 56, 55, 57, 56, 48, 56, 49, 56, 50, 56, 51, 56, 52, 56, 53, 56, 54, 56, 55, 56, 56, 56, 57, 57, 48, 57, 49, 57, 50, 57, 51, 57, 52, 57, 53, 57, 54, 57, 55, 57, 56, 57, 57])), (.tmp p10), (.tmp p13)], none⟩,
  ⟨some p2, .move, [(.tmp p14)], none⟩])
 (.ret [.tmp p2])))),
 [.tmp p2]⟩
def F236 : IFn := ⟨1,
(.seq (.reg [
  ⟨some p2, .move, [(.const (.int .i64 (.ofNat 0)))], none⟩])
 (.seq (.reg [
  ⟨some p4, .move, [(.tmp p0)], none⟩,
  ⟨some p5, .call, [(.const (.fn 187 [] [])), (.tmp p4)], none⟩,
  ⟨some p6, .call, [(.const (.fn 241 [] [])), (.tmp p5)], none⟩,
  ⟨some p3, .move, [(.tmp p6)], none⟩])
 (.seq (.reg [
  ⟨some p7, .move, [(.tmp p3)], none⟩,
  ⟨some p8, .move, [(.tmp p0)], none⟩,
  ⟨some p9, .move, [(.tmp p3)], none⟩,
  ⟨some p10, .never, [], none⟩,
  ⟨some p11, (.load false 1), [(.tmp p10)], none⟩,
  ⟨some p12, (.bin .geq), [(.tmp p8), (.tmp p11)], none⟩,
  ⟨some p13, .call, [(.const (.fn 242 [] [])), (.tmp p12)], none⟩,
  ⟨some p14, (.bin .add), [(.tmp p7), (.tmp p13)], none⟩,
  ⟨some p2, .move, [(.tmp p14)], none⟩])
 (.ret [.tmp p2])))),
 [.tmp p2]⟩
def F237 : IFn := ⟨2,
(.seq (.reg [
  ⟨some p17, .move, [(.tmp p0)], none⟩,
  ⟨some p18, .lenL, [(.tmp p17)], none⟩,
  ⟨some p4, .move, [(.tmp p18)], none⟩])
 (.seq (.block 0 [p0, p1, p4] (.loop [p0, p1, p4] (.seq (.seq (.reg [
  ⟨some p19, .move, [(.tmp p4)], none⟩,
  ⟨some p20, (.bin .geq), [(.tmp p19), (.const (.int .i64 (.ofNat 8)))], none⟩])
 (.cond (.tmp p20)
 .skip
 (.exit 0 [p0, p1, p4])))
 (.block 1 [p0, p1, p4] (.seq (.reg [
  ⟨some p21, .move, [(.tmp p1)], none⟩,
  ⟨some p22, (.bin .rem), [(.tmp p21), (.const (.int .u64 (.ofNat 100000000)))], none⟩,
  ⟨some p23, (.convInt .u32), [(.tmp p22)], none⟩,
  ⟨some p5, .move, [(.tmp p23)], none⟩])
 (.seq (.reg [
  ⟨some p24, .move, [(.tmp p1)], none⟩,
  ⟨some p25, (.bin .quo), [(.tmp p24), (.const (.int .u64 (.ofNat 100000000)))], none⟩,
  ⟨some p1, .move, [(.tmp p25)], none⟩])
 (.seq (.reg [
  ⟨some p26, .move, [(.tmp p5)], none⟩,
  ⟨some p27, (.bin .quo), [(.tmp p26), (.const (.int .u32 (.ofNat 10000)))], none⟩,
  ⟨some p28, .move, [(.tmp p5)], none⟩,
  ⟨some p29, (.bin .rem), [(.tmp p28), (.const (.int .u32 (.ofNat 10000)))], none⟩,
  ⟨some p6, .move, [(.tmp p27)], none⟩,
  ⟨some p7, .move, [(.tmp p29)], none⟩])
 (.seq (.reg [
  ⟨some p30, .move, [(.tmp p7)], none⟩,
  ⟨some p31, (.bin .quo), [(.tmp p30), (.const (.int .u32 (.ofNat 100)))], none⟩,
  ⟨some p32, (.bin .mul), [(.tmp p31), (.const (.int .u32 (.ofNat 2)))], none⟩,
  ⟨some p33, .move, [(.tmp p7)], none⟩,
  ⟨some p34, (.bin .rem), [(.tmp p33), (.const (.int .u32 (.ofNat 100)))], none⟩,
  ⟨some p35, (.bin .mul), [(.tmp p34), (.const (.int .u32 (.ofNat 2)))], none⟩,
  ⟨some p8, .move, [(.tmp p32)], none⟩,
  ⟨some p9, .move, [(.tmp p35)], none⟩])
 (.seq (.reg [
  ⟨some p36, .move, [(.tmp p6)], none⟩,
  ⟨some p37, (.bin .quo), [(.tmp p36), (.const (.int .u32 (.ofNat 100)))], none⟩,
  ⟨some p38, (.bin .mul), [(.tmp p37), (.const (.int .u32 (.ofNat 2)))], none⟩,
  ⟨some p39, .move, [(.tmp p6)], none⟩,
  ⟨some p40, (.bin .rem), [(.tmp p39), (.const (.int .u32 (.ofNat 100)))], none⟩,
  ⟨some p41, (.bin .mul), [(.tmp p40), (.const (.int .u32 (.ofNat 2)))], none⟩,
  ⟨some p10, .move, [(.tmp p38)], none⟩,
  ⟨some p11, .move, [(.tmp p41)], none⟩])
 (.seq (.drawn [
  ⟨0, ⟨some p42, .move, [(.tmp p0)], none⟩, .pure, []⟩,
  ⟨1, ⟨some p43, .move, [(.tmp p4)], none⟩, .pure, []⟩,
  ⟨2, ⟨some p44, (.bin .sub), [(.tmp p43), (.const (.int .i64 (.ofNat 1)))], none⟩, .pure, [1]⟩,
  ⟨3, ⟨some p45, .move, [(.tmp p0)], none⟩, .pure, []⟩,
  ⟨4, ⟨some p46, .move, [(.tmp p4)], none⟩, .pure, []⟩,
  ⟨5, ⟨some p47, (.bin .sub), [(.tmp p46), (.const (.int .i64 (.ofNat 2)))], none⟩, .pure, [4]⟩,
  ⟨6, ⟨some p48, .move, [(.tmp p9)], none⟩, .pure, []⟩,
  ⟨7, ⟨some p49, (.bin .add), [(.tmp p48), (.const (.int .u32 (.ofNat 1)))], none⟩, .pure, [6]⟩,
  ⟨8, ⟨some p50, .idxStr, [(.const (.str [48, 48, 48, 49, 48, 50, 48, 51, 48, 52, 48, 53, 48, 54, 48, 55, 48, 56, 48, 57, 49, 48, 49, 49, 49, 50, 49, 51, 49, 52, 49, 53, 49, 54, 49, 55, 49, 56, 49, 57, 50, 48, 50, 49, 50, 50, 50, 51, 50, 52, 50, 53, 50, 54, 50, 55, 50, 56, 50, 57, 51, 48, 51, 49, 51, 50, 51, 51, 51, 52, 51, 53, 51, 54, 51, 55, 51, 56, 51, 57, 52, 48, 52, 49, 52, 50, 52, 51, 52, 52, 52, 53, 52, 54, 52, 55, 52, 56, 52, 57, 53, 48, 53, 49, 53, 50, 53, 51, 53, 52, 53, 53, 53, 54, 53, 55, 53, 56, 53, 57, 54, 48, 54, 49, 54, 50, 54, 51, 54, 52, 54, 53, 54, 54, 54, 55, 54, 56, 54, 57, 55, 48, 55, 49, 55, 50, 55, 51, 55, 52, 55, 53, 55, 54, 55, 55, 55, 56, 55, 57, 56, 48, 56, 49, 56, 50, 56, 51, 56, 52, 56, 53, 56, 54, 56, 55, 56, 56, 56, 57, 57, 48, 57, 49, 57, 50, 57, 51, 57, 52, 57, 53, 57, 54, 57, 55, 57, 56, 57, 57])), (.tmp p49)], none⟩, .pure, [7]⟩,
  ⟨9, ⟨some p51, .move, [(.tmp p9)], none⟩, .pure, []⟩,
  ⟨10, ⟨some p52, .idxStr, [(.const (.str [48, 48, 48, 49, 48, 50, 48, 51, 48, 52, 48, 53, 48, 54, 48, 55, 48, 56, 48, 57, 49, 48, 49, 49, 49, 50, 49, 51, 49, 52, 49, 53, 49, 54, 49, 55, 49, 56, 49, 57, 50, 48, 50, 49, 50, 50, 50, 51, 50, 52, 50, 53, 50, 54, 50, 55, 50, 56, 50, 57, 51, 48, 51, 49, 51, 50, 51, 51, 51, 52, 51, 53, 51, 54, 51, 55, 51, 56, 51, 57, 52, 48, 52, 49, 52, 50, 52, 51, 52, 52, 52, 53, 52, 54, 52, 55, 52, 56, 52, 57, 53, 48, 53, 49, 53, 50, 53, 51, 53, 52, 53, 53, 53, 54, 53, 55, 53, 56, 53, 57, 54, 48, 54, 49, 54, 50, 54, 51, 54, 52, 54, 53, 54, 54, 54, 55, 54, 56, 54, 57, 55, 48, 55, 49, 55, 50, 55, 51, 55, 52, 55, 53, 55, 54, 55, 55, 55, 56, 55, 57, 56, 48, 56, 49, 56, 50, 56, 51, 56, 52, 56, 53, 56, 54, 56, 55, 56, 56, 56, 57, 57, 48, 57, 49, 57, 50, 57, 51, 57, 52, 57, 53, 57, 54, 57, 55, 57, 56, 57, 57])), (.tmp p51)], none⟩, .pure, [9]⟩,
  ⟨11, ⟨some p53, (.idxSlice 1), [(.tmp p42), (.tmp p44)], none⟩, .pure, [0, 2, 0, 1, 2, 6, 7, 8]⟩,
  ⟨12, ⟨none, (.store 1), [(.tmp p53), (.tmp p50)], none⟩, .eff, [11, 8, 0, 1, 2, 6, 7, 8]⟩,
  ⟨13, ⟨some p54, (.idxSlice 1), [(.tmp p45), (.tmp p47)], none⟩, .pure, [3, 5, 0, 1, 2, 3, 4, 5, 6, 7, 8, 9, 10, 11, 12]⟩,
  ⟨14, ⟨none, (.store 1), [(.tmp p54), (.tmp p52)], none⟩, .eff, [13, 10, 12, 0, 1, 2, 3, 4, 5, 6, 7, 8, 9, 10, 11, 12]⟩])
 (.seq (.drawn [
  ⟨0, ⟨some p55, .move, [(.tmp p0)], none⟩, .pure, []⟩,
  ⟨1, ⟨some p56, .move, [(.tmp p4)], none⟩, .pure, []⟩,
  ⟨2, ⟨some p57, (.bin .sub), [(.tmp p56), (.const (.int .i64 (.ofNat 3)))], none⟩, .pure, [1]⟩,
  ⟨3, ⟨some p58, .move, [(.tmp p0)], none⟩, .pure, []⟩,
  ⟨4, ⟨some p59, .move, [(.tmp p4)], none⟩, .pure, []⟩,
  ⟨5, ⟨some p60, (.bin .sub), [(.tmp p59), (.const (.int .i64 (.ofNat 4)))], none⟩, .pure, [4]⟩,
  ⟨6, ⟨some p61, .move, [(.tmp p8)], none⟩, .pure, []⟩,
  ⟨7, ⟨some p62, (.bin .add), [(.tmp p61), (.const (.int .u32 (.ofNat 1)))], none⟩, .pure, [6]⟩,
  ⟨8, ⟨some p63, .idxStr, [(.const (.str [48, 48, 48, 49, 48, 50, 48, 51, 48, 52, 48, 53, 48, 54, 48, 55, 48, 56, 48, 57, 49, 48, 49, 49, 49, 50, 49, 51, 49, 52, 49, 53, 49, 54, 49, 55, 49, 56, 49, 57, 50, 48, 50, 49, 50, 50, 50, 51, 50, 52, 50, 53, 50, 54, 50, 55, 50, 56, 50, 57, 51, 48, 51, 49, 51, 50, 51, 51, 51, 52, 51, 53, 51, 54, 51, 55, 51, 56, 51, 57, 52, 48, 52, 49, 52, 50, 52, 51, 52, 52, 52, 53, 52, 54, 52, 55, 52, 56, 52, 57, 53, 48, 53, 49, 53, 50, 53, 51, 53, 52, 53, 53, 53, 54, 53, 55, 53, 56, 53, 57, 54, 48, 54, 49, 54, 50, 54, 51, 54, 52, 54, 53, 54, 54, 54, 55, 54, 56, 54, 57, 55, 48, 55, 49, 55, 50, 55, 51, 55, 52, 55, 53, 55, 54, 55, 55, 55, 56, 55, 57, 56, 48, 56, 49, 56, 50, 56, 51, 56, 52, 56, 53, 56, 54, 56, 55, 56, 56, 56, 57, 57, 48, 57, 49, 57, 50, 57, 51, 57, 52, 57, 53, 57, 54, 57, 55, 57, 56, 57, 57])), (.tmp p62)], none⟩, .pure, [7]⟩,
  ⟨9, ⟨some p64, .move, [(.tmp p8)], none⟩, .pure, []⟩,
  ⟨10, ⟨some p65, .idxStr, [(.const (.str [48, 48, 48, 49, 48, 50, 48, 51, 48, 52, 48, 53, 48, 54, 48, 55, 48, 56, 48, 57, 49, 48, 49, 49, 49, 50, 49, 51, 49, 52, 49, 53, 49, 54, 49, 55, 49, 56, 49, 57, 50, 48, 50, 49, 50, 50, 50, 51, 50, 52, 50, 53, 50, 54, 50, 55, 50, 56, 50, 57, 51, 48, 51, 49, 51, 50, 51, 51, 51, 52, 51, 53, 51, 54, 51, 55, 51, 56, 51, 57, 52, 48, 52, 49, 52, 50, 52, 51, 52, 52, 52, 53, 52, 54, 52, 55, 52, 56, 52, 57, 53, 48, 53, 49, 53, 50, 53, 51, 53, 52, 53, 53, 53, 54, 53, 55, 53, 56, 53, 57, 54, 48, 54, 49, 54, 50, 54, 51, 54, 52, 54, 53, 54, 54, 54, 55, 54, 56, 54, 57, 55, 48, 55, 49, 55, 50, 55, 51, 55, 52, 55, 53, 55, 54, 55, 55, 55, 56, 55, 57, 56, 48, 56, 49, 56, 50, 56, 51, 56, 52, 56, 53, 56, 54, 56, 55, 56, 56, 56, 57, 57, 48, 57, 49, 57, 50, 57, 51, 57, 52, 57, 53, 57, 54, 57, 55, 57, 56, 57, 57])), (.tmp p64)], none⟩, .pure, [9]⟩,
  ⟨11, ⟨some p66, (.idxSlice 1), [(.tmp p55), (.tmp p57)], none⟩, .pure, [0, 2, 0, 1, 2, 6, 7, 8]⟩,
  ⟨12, ⟨none, (.store 1), [(.tmp p66), (.tmp p63)], none⟩, .eff, [11, 8, 0, 1, 2, 6, 7, 8]⟩,
  ⟨13, ⟨some p67, (.idxSlice 1), [(.tmp p58), (.tmp p60)], none⟩, .pure, [3, 5, 0, 1, 2, 3, 4, 5, 6, 7, 8, 9, 10, 11, 12]⟩,
  ⟨14, ⟨none, (.store 1), [(.tmp p67), (.tmp p65)], none⟩, .eff, [13, 10, 12, 0, 1, 2, 3, 4, 5, 6, 7, 8, 9, 10, 11, 12]⟩])
 (.seq (.drawn [
  ⟨0, ⟨some p68, .move, [(.tmp p0)], none⟩, .pure, []⟩,
  ⟨1, ⟨some p69, .move, [(.tmp p4)], none⟩, .pure, []⟩,
  ⟨2, ⟨some p70, (.bin .sub), [(.tmp p69), (.const (.int .i64 (.ofNat 5)))], none⟩, .pure, [1]⟩,
  ⟨3, ⟨some p71, .move, [(.tmp p0)], none⟩, .pure, []⟩,
  ⟨4, ⟨some p72, .move, [(.tmp p4)], none⟩, .pure, []⟩,
  ⟨5, ⟨some p73, (.bin .sub), [(.tmp p72), (.const (.int .i64 (.ofNat 6)))], none⟩, .pure, [4]⟩,
  ⟨6, ⟨some p74, .move, [(.tmp p11)], none⟩, .pure, []⟩,
  ⟨7, ⟨some p75, (.bin .add), [(.tmp p74), (.const (.int .u32 (.ofNat 1)))], none⟩, .pure, [6]⟩,
  ⟨8, ⟨some p76, .idxStr, [(.const (.str [48, 48, 48, 49, 48, 50, 48, 51, 48, 52, 48, 53, 48, 54, 48, 55, 48, 56, 48, 57, 49, 48, 49, 49, 49, 50, 49, 51, 49, 52, 49, 53, 49, 54, 49, 55, 49, 56, 49, 57, 50, 48, 50, 49, 50, 50, 50, 51, 50, 52, 50, 53, 50, 54, 50, 55, 50, 56, 50, 57, 51, 48, 51, 49, 51, 50, 51, 51, 51, 52, 51, 53, 51, 54, 51, 55, 51, 56, 51, 57, 52, 48, 52, 49, 52, 50, 52, 51, 52, 52, 52, 53, 52, 54, 52, 55, 52, 56, 52, 57, 53, 48, 53, 49, 53, 50, 53, 51, 53, 52, 53, 53, 53, 54, 53, 55, 53, 56, 53, 57, 54, 48, 54, 49, 54, 50, 54, 51, 54, 52, 54, 53, 54, 54, 54, 55, 54, 56, 54, 57, 55, 48, 55, 49, 55, 50, 55, 51, 55, 52, 55, 53, 55, 54, 55, 55, 55, 56, 55, 57, 56, 48, 56, 49, 56, 50, 56, 51, 56, 52, 56, 53, 56, 54, 56, 55, 56, 56, 56, 57, 57, 48, 57, 49, 57, 50, 57, 51, 57, 52, 57, 53, 57, 54, 57, 55, 57, 56, 57, 57])), (.tmp p75)], none⟩, .pure, [7]⟩,
  ⟨9, ⟨some p77, .move, [(.tmp p11)], none⟩, .pure, []⟩,
  ⟨10, ⟨some p78, .idxStr, [(.const (.str [48, 48, 48, 49, 48, 50, 48, 51, 48, 52, 48, 53, 48, 54, 48, 55, 48, 56, 48, 57, 49, 48, 49, 49, 49, 50, 49, 51, 49, 52, 49, 53, 49, 54, 49, 55, 49, 56, 49, 57, 50, 48, 50, 49, 50, 50, 50, 51, 50, 52, 50, 53, 50, 54, 50, 55, 50, 56, 50, 57, 51, 48, 51, 49, 51, 50, 51, 51, 51, 52, 51, 53, 51, 54, 51, 55, 51, 56, 51, 57, 52, 48, 52, 49, 52, 50, 52, 51, 52, 52, 52, 53, 52, 54, 52, 55, 52, 56, 52, 57, 53, 48, 53, 49, 53, 50, 53, 51, 53, 52, 53, 53, 53, 54, 53, 55, 53, 56, 53, 57, 54, 48, 54, 49, 54, 50, 54, 51, 54, 52, 54, 53, 54, 54, 54, 55, 54, 56, 54, 57, 55, 48, 55, 49, 55, 50, 55, 51, 55, 52, 55, 53, 55, 54, 55, 55, 55, 56, 55, 57, 56, 48, 56, 49, 56, 50, 56, 51, 56, 52, 56, 53, 56, 54, 56, 55, 56, 56, 56, 57, 57, 48, 57, 49, 57, 50, 57, 51, 57, 52, 57, 53, 57, 54, 57, 55, 57, 56, 57, 57])), (.tmp p77)], none⟩, .pure, [9]⟩,
  ⟨11, ⟨some p79, (.idxSlice 1), [(.tmp p68), (.tmp p70)], none⟩, .pure, [0, 2, 0, 1, 2, 6, 7, 8]⟩,
  ⟨12, ⟨none, (.store 1), [(.tmp p79), (.tmp p76)], none⟩, .eff, [11, 8, 0, 1, 2, 6, 7, 8]⟩,
  ⟨13, ⟨some p80, (.idxSlice 1), [(.tmp p71), (.tmp p73)], none⟩, .pure, [3, 5, 0, 1, 2, 3, 4, 5, 6, 7, 8, 9, 10, 11, 12]⟩,
  ⟨14, ⟨none, (.store 1), [(.tmp p80), (.tmp p78)], none⟩, .eff, [13, 10, 12, 0, 1, 2, 3, 4, 5, 6, 7, 8, 9, 10, 11, 12]⟩])
 (.seq (.drawn [
  ⟨0, ⟨some p81, .move, [(.tmp p0)], none⟩, .pure, []⟩,
  ⟨1, ⟨some p82, .move, [(.tmp p4)], none⟩, .pure, []⟩,
  ⟨2, ⟨some p83, (.bin .sub), [(.tmp p82), (.const (.int .i64 (.ofNat 7)))], none⟩, .pure, [1]⟩,
  ⟨3, ⟨some p84, .move, [(.tmp p0)], none⟩, .pure, []⟩,
  ⟨4, ⟨some p85, .move, [(.tmp p4)], none⟩, .pure, []⟩,
  ⟨5, ⟨some p86, (.bin .sub), [(.tmp p85), (.const (.int .i64 (.ofNat 8)))], none⟩, .pure, [4]⟩,
  ⟨6, ⟨some p87, .move, [(.tmp p10)], none⟩, .pure, []⟩,
  ⟨7, ⟨some p88, (.bin .add), [(.tmp p87), (.const (.int .u32 (.ofNat 1)))], none⟩, .pure, [6]⟩,
  ⟨8, ⟨some p89, .idxStr, [(.const (.str [48, 48, 48, 49, 48, 50, 48, 51, 48, 52, 48, 53, 48, 54, 48, 55, 48, 56, 48, 57, 49, 48, 49, 49, 49, 50, 49, 51, 49, 52, 49, 53, 49, 54, 49, 55, 49, 56, 49, 57, 50, 48, 50, 49, 50, 50, 50, 51, 50, 52, 50, 53, 50, 54, 50, 55, 50, 56, 50, 57, 51, 48, 51, 49, 51, 50, 51, 51, 51, 52, 51, 53, 51, 54, 51, 55, 51, 56, 51, 57, 52, 48, 52, 49, 52, 50, 52, 51, 52, 52, 52, 53, 52, 54, 52, 55, 52, 56, 52, 57, 53, 48, 53, 49, 53, 50, 53, 51, 53, 52, 53, 53, 53, 54, 53, 55, 53, 56, 53, 57, 54, 48, 54, 49, 54, 50, 54, 51, 54, 52, 54, 53, 54, 54, 54, 55, 54, 56, 54, 57, 55, 48, 55, 49, 55, 50, 55, 51, 55, 52, 55, 53, 55, 54, 55, 55, 55, 56, 55, 57, 56, 48, 56, 49, 56, 50, 56, 51, 56, 52, 56, 53, 56, 54, 56, 55, 56, 56, 56, 57, 57, 48, 57, 49, 57, 50, 57, 51, 57, 52, 57, 53, 57, 54, 57, 55, 57, 56, 57, 57])), (.tmp p88)], none⟩, .pure, [7]⟩,
  ⟨9, ⟨some p90, .move, [(.tmp p10)], none⟩, .pure, []⟩,
  ⟨10, ⟨some p91, .idxStr, [(.const (.str [48, 48, 48, 49, 48, 50, 48, 51, 48, 52, 48, 53, 48, 54, 48, 55, 48, 56, 48, 57, 49, 48, 49, 49, 49, 50, 49, 51, 49, 52, 49, 53, 49, 54, 49, 55, 49, 56, 49, 57, 50, 48, 50, 49, 50, 50, 50, 51, 50, 52, 50, 53, 50, 54, 50, 55, 50, 56, 50, 57, 51, 48, 51, 49, 51, 50, 51, 51, 51, 52, 51, 53, 51, 54, 51, 55, 51, 56, 51, 57, 52, 48, 52, 49, 52, 50, 52, 51, 52, 52, 52, 53, 52, 54, 52, 55, 52, 56, 52, 57, 53, 48, 53, 49, 53, 50, 53, 51, 53, 52, 53, 53, 53, 54, 53, 55, 53, 56, 53, 57, 54, 48, 54, 49, 54, 50, 54, 51, 54, 52, 54, 53, 54, 54, 54, 55, 54, 56, 54, 57, 55, 48, 55, 49, 55, 50, 55, 51, 55, 52, 55, 53, 55, 54, 55, 55, 55, 56, 55, 57, 56, 48, 56, 49, 56, 50, 56, 51, 56, 52, 56, 53, 56, 54, 56, 55, 56, 56, 56, 57, 57, 48, 57, 49, 57, 50, 57, 51, 57, 52, 57, 53, 57, 54, 57, 55, 57, 56, 57, 57])), (.tmp p90)], none⟩, .pure, [9]⟩,
  ⟨11, ⟨some p92, (.idxSlice 1), [(.tmp p81), (.tmp p83)], none⟩, .pure, [0, 2, 0, 1, 2, 6, 7, 8]⟩,
  ⟨12, ⟨none, (.store 1), [(.tmp p92), (.tmp p89)], none⟩, .eff, [11, 8, 0, 1, 2, 6, 7, 8]⟩,
  ⟨13, ⟨some p93, (.idxSlice 1), [(.tmp p84), (.tmp p86)], none⟩, .pure, [3, 5, 0, 1, 2, 3, 4, 5, 6, 7, 8, 9, 10, 11, 12]⟩,
  ⟨14, ⟨none, (.store 1), [(.tmp p93), (.tmp p91)], none⟩, .eff, [13, 10, 12, 0, 1, 2, 3, 4, 5, 6, 7, 8, 9, 10, 11, 12]⟩])
 (.reg [
  ⟨some p94, .move, [(.tmp p4)], none⟩,
  ⟨some p95, (.bin .sub), [(.tmp p94), (.const (.int .i64 (.ofNat 8)))], none⟩,
  ⟨some p4, .move, [(.tmp p95)], none⟩]))))))))))))))
 (.seq (.reg [
  ⟨some p96, .move, [(.tmp p1)], none⟩,
  ⟨some p97, (.convInt .u32), [(.tmp p96)], none⟩,
  ⟨some p12, .move, [(.tmp p97)], none⟩])
 (.seq (.seq (.reg [
  ⟨some p98, .move, [(.tmp p4)], none⟩,
  ⟨some p99, (.bin .geq), [(.tmp p98), (.const (.int .i64 (.ofNat 4)))], none⟩])
 (.cond (.tmp p99)
 (.seq (.reg [
  ⟨some p100, .move, [(.tmp p12)], none⟩,
  ⟨some p101, (.bin .rem), [(.tmp p100), (.const (.int .u32 (.ofNat 10000)))], none⟩,
  ⟨some p13, .move, [(.tmp p101)], none⟩])
 (.seq (.reg [
  ⟨some p102, .move, [(.tmp p12)], none⟩,
  ⟨some p103, (.bin .quo), [(.tmp p102), (.const (.int .u32 (.ofNat 10000)))], none⟩,
  ⟨some p12, .move, [(.tmp p103)], none⟩])
 (.seq (.reg [
  ⟨some p104, .move, [(.tmp p13)], none⟩,
  ⟨some p105, (.bin .quo), [(.tmp p104), (.const (.int .u32 (.ofNat 100)))], none⟩,
  ⟨some p106, (.bin .mul), [(.tmp p105), (.const (.int .u32 (.ofNat 2)))], none⟩,
  ⟨some p107, .move, [(.tmp p13)], none⟩,
  ⟨some p108, (.bin .rem), [(.tmp p107), (.const (.int .u32 (.ofNat 100)))], none⟩,
  ⟨some p109, (.bin .mul), [(.tmp p108), (.const (.int .u32 (.ofNat 2)))], none⟩,
  ⟨some p14, .move, [(.tmp p106)], none⟩,
  ⟨some p15, .move, [(.tmp p109)], none⟩])
 (.seq (.drawn [
  ⟨0, ⟨some p110, .move, [(.tmp p0)], none⟩, .pure, []⟩,
  ⟨1, ⟨some p111, .move, [(.tmp p4)], none⟩, .pure, []⟩,
  ⟨2, ⟨some p112, (.bin .sub), [(.tmp p111), (.const (.int .i64 (.ofNat 1)))], none⟩, .pure, [1]⟩,
  ⟨3, ⟨some p113, .move, [(.tmp p0)], none⟩, .pure, []⟩,
  ⟨4, ⟨some p114, .move, [(.tmp p4)], none⟩, .pure, []⟩,
  ⟨5, ⟨some p115, (.bin .sub), [(.tmp p114), (.const (.int .i64 (.ofNat 2)))], none⟩, .pure, [4]⟩,
  ⟨6, ⟨some p116, .move, [(.tmp p15)], none⟩, .pure, []⟩,
  ⟨7, ⟨some p117, (.bin .add), [(.tmp p116), (.const (.int .u32 (.ofNat 1)))], none⟩, .pure, [6]⟩,
  ⟨8, ⟨some p118, .idxStr, [(.const (.str [48, 48, 48, 49, 48, 50, 48, 51, 48, 52, 48, 53, 48, 54, 48, 55, 48, 56, 48, 57, 49, 48, 49, 49, 49, 50, 49, 51, 49, 52, 49, 53, 49, 54, 49, 55, 49, 56, 49, 57, 50, 48, 50, 49, 50, 50, 50, 51, 50, 52, 50, 53, 50, 54, 50, 55, 50, 56, 50, 57, 51, 48, 51, 49, 51, 50, 51, 51, 51, 52, 51, 53, 51, 54, 51, 55, 51, 56, 51, 57, 52, 48, 52, 49, 52, 50, 52, 51, 52, 52, 52, 53, 52, 54, 52, 55, 52, 56, 52, 57, 53, 48, 53, 49, 53, 50, 53, 51, 53, 52, 53, 53, 53, 54, 53, 55, 53, 56, 53, 57, 54, 48, 54, 49, 54, 50, 54, 51, 54, 52, 54, 53, 54, 54, 54, 55, 54, 56, 54, 57, 55, 48, 55, 49, 55, 50, 55, 51, 55, 52, 55, 53, 55, 54, 55, 55, 55, 56, 55, 57, 56, 48, 56, 49, 56, 50, 56, 51, 56, 52, 56, 53, 56, 54, 56, 55, 56, 56, 56, 57, 57, 48, 57, 49, 57, 50, 57, 51, 57, 52, 57, 53, 57, 54, 57, 55, 57, 56, 57, 57])), (.tmp p117)], none⟩, .pure, [7]⟩,
  ⟨9, ⟨some p119, .move, [(.tmp p15)], none⟩, .pure, []⟩,
  ⟨10, ⟨some p120, .idxStr, [(.const (.str [48, 48, 48, 49, 48, 50, 48, 51, 48, 52, 48, 53, 48, 54, 48, 55, 48, 56, 48, 57, 49, 48, 49, 49, 49, 50, 49, 51, 49, 52, 49, 53, 49, 54, 49, 55, 49, 56, 49, 57, 50, 48, 50, 49, 50, 50, 50, 51, 50, 52, 50, 53, 50, 54, 50, 55, 50, 56, 50, 57, 51, 48, 51, 49, 51, 50, 51, 51, 51, 52, 51, 53, 51, 54, 51, 55, 51, 56, 51, 57, 52, 48, 52, 49, 52, 50, 52, 51, 52, 52, 52, 53, 52, 54, 52, 55, 52, 56, 52, 57, 53, 48, 53, 49, 53, 50, 53, 51, 53, 52, 53, 53, 53, 54, 53, 55, 53, 56, 53, 57, 54, 48, 54, 49, 54, 50, 54, 51, 54, 52, 54, 53, 54, 54, 54, 55, 54, 56, 54, 57, 55, 48, 55, 49, 55, 50, 55, 51, 55, 52, 55, 53, 55, 54, 55, 55, 55, 56, 55, 57, 56, 48, 56, 49, 56, 50, 56, 51, 56, 52, 56, 53, 56, 54, 56, 55, 56, 56, 56, 57, 57, 48, 57, 49, 57, 50, 57, 51, 57, 52, 57, 53, 57, 54, 57, 55, 57, 56, 57, 57])), (.tmp p119)], none⟩, .pure, [9]⟩,
  ⟨11, ⟨some p121, (.idxSlice 1), [(.tmp p110), (.tmp p112)], none⟩, .pure, [0, 2, 0, 1, 2, 6, 7, 8]⟩,
  ⟨12, ⟨none, (.store 1), [(.tmp p121), (.tmp p118)], none⟩, .eff, [11, 8, 0, 1, 2, 6, 7, 8]⟩,
  ⟨13, ⟨some p122, (.idxSlice 1), [(.tmp p113), (.tmp p115)], none⟩, .pure, [3, 5, 0, 1, 2, 3, 4, 5, 6, 7, 8, 9, 10, 11, 12]⟩,
  ⟨14, ⟨none, (.store 1), [(.tmp p122), (.tmp p120)], none⟩, .eff, [13, 10, 12, 0, 1, 2, 3, 4, 5, 6, 7, 8, 9, 10, 11, 12]⟩])
 (.seq (.drawn [
  ⟨0, ⟨some p123, .move, [(.tmp p0)], none⟩, .pure, []⟩,
  ⟨1, ⟨some p124, .move, [(.tmp p4)], none⟩, .pure, []⟩,
  ⟨2, ⟨some p125, (.bin .sub), [(.tmp p124), (.const (.int .i64 (.ofNat 3)))], none⟩, .pure, [1]⟩,
  ⟨3, ⟨some p126, .move, [(.tmp p0)], none⟩, .pure, []⟩,
  ⟨4, ⟨some p127, .move, [(.tmp p4)], none⟩, .pure, []⟩,
  ⟨5, ⟨some p128, (.bin .sub), [(.tmp p127), (.const (.int .i64 (.ofNat 4)))], none⟩, .pure, [4]⟩,
  ⟨6, ⟨some p129, .move, [(.tmp p14)], none⟩, .pure, []⟩,
  ⟨7, ⟨some p130, (.bin .add), [(.tmp p129), (.const (.int .u32 (.ofNat 1)))], none⟩, .pure, [6]⟩,
  ⟨8, ⟨some p131, .idxStr, [(.const (.str [48, 48, 48, 49, 48, 50, 48, 51, 48, 52, 48, 53, 48, 54, 48, 55, 48, 56, 48, 57, 49, 48, 49, 49, 49, 50, 49, 51, 49, 52, 49, 53, 49, 54, 49, 55, 49, 56, 49, 57, 50, 48, 50, 49, 50, 50, 50, 51, 50, 52, 50, 53, 50, 54, 50, 55, 50, 56, 50, 57, 51, 48, 51, 49, 51, 50, 51, 51, 51, 52, 51, 53, 51, 54, 51, 55, 51, 56, 51, 57, 52, 48, 52, 49, 52, 50, 52, 51, 52, 52, 52, 53, 52, 54, 52, 55, 52, 56, 52, 57, 53, 48, 53, 49, 53, 50, 53, 51, 53, 52, 53, 53, 53, 54, 53, 55, 53, 56, 53, 57, 54, 48, 54, 49, 54, 50, 54, 51, 54, 52, 54, 53, 54, 54, 54, 55, 54, 56, 54, 57, 55, 48, 55, 49, 55, 50, 55, 51, 55, 52, 55, 53, 55, 54, 55, 55, 55, 56, 55, 57, 56, 48, 56, 49, 56, 50, 56, 51, 56, 52, 56, 53, 56, 54, 56, 55, 56, 56, 56, 57, 57, 48, 57, 49, 57, 50, 57, 51, 57, 52, 57, 53, 57, 54, 57, 55, 57, 56, 57, 57])), (.tmp p130)], none⟩, .pure, [7]⟩,
  ⟨9, ⟨some p132, .move, [(.tmp p14)], none⟩, .pure, []⟩,
  ⟨10, ⟨some p133, .idxStr, [(.const (.str [48, 48, 48, 49, 48, 50, 48, 51, 48, 52, 48, 53, 48, 54, 48, 55, 48, 56, 48, 57, 49, 48, 49, 49, 49, 50, 49, 51, 49, 52, 49, 53, 49, 54, 49, 55, 49, 56, 49, 57, 50, 48, 50, 49, 50, 50, 50, 51, 50, 52, 50, 53, 50, 54, 50, 55, 50, 56, 50, 57, 51, 48, 51, 49, 51, 50, 51, 51, 51, 52, 51, 53, 51, 54, 51, 55, 51, 56, 51, 57, 52, 48, 52, 49, 52, 50, 52, 51, 52, 52, 52, 53, 52, 54, 52, 55, 52, 56, 52, 57, 53, 48, 53, 49, 53, 50, 53, 51, 53, 52, 53, 53, 53, 54, 53, 55, 53, 56, 53, 57, 54, 48, 54, 49, 54, 50, 54, 51, 54, 52, 54, 53, 54, 54, 54, 55, 54, 56, 54, 57, 55, 48, 55, 49, 55, 50, 55, 51, 55, 52, 55, 53, 55, 54, 55, 55, 55, 56, 55, 57, 56, 48, 56, 49, 56, 50, 56, 51, 56, 52, 56, 53, 56, 54, 56, 55, 56, 56, 56, 57, 57, 48, 57, 49, 57, 50, 57, 51, 57, 52, 57, 53, 57, 54, 57, 55, 57, 56, 57, 57])), (.tmp p132)], none⟩, .pure, [9]⟩,
  ⟨11, ⟨some p134, (.idxSlice 1), [(.tmp p123), (.tmp p125)], none⟩, .pure, [0, 2, 0, 1, 2, 6, 7, 8]⟩,
  ⟨12, ⟨none, (.store 1), [(.tmp p134), (.tmp p131)], none⟩, .eff, [11, 8, 0, 1, 2, 6, 7, 8]⟩,
  ⟨13, ⟨some p135, (.idxSlice 1), [(.tmp p126), (.tmp p128)], none⟩, .pure, [3, 5, 0, 1, 2, 3, 4, 5, 6, 7, 8, 9, 10, 11, 12]⟩,
  ⟨14, ⟨none, (.store 1), [(.tmp p135), (.tmp p133)], none⟩, .eff, [13, 10, 12, 0, 1, 2, 3, 4, 5, 6, 7, 8, 9, 10, 11, 12]⟩])
 (.reg [
  ⟨some p136, .move, [(.tmp p4)], none⟩,
  ⟨some p137, (.bin .sub), [(.tmp p136), (.const (.int .i64 (.ofNat 4)))], none⟩,
  ⟨some p4, .move, [(.tmp p137)], none⟩]))))))
 .skip))
 (.seq (.seq (.reg [
  ⟨some p138, .move, [(.tmp p4)], none⟩,
  ⟨some p139, (.bin .geq), [(.tmp p138), (.const (.int .i64 (.ofNat 2)))], none⟩])
 (.cond (.tmp p139)
 (.seq (.reg [
  ⟨some p140, .move, [(.tmp p12)], none⟩,
  ⟨some p141, (.bin .rem), [(.tmp p140), (.const (.int .u32 (.ofNat 100)))], none⟩,
  ⟨some p142, (.bin .mul), [(.tmp p141), (.const (.int .u32 (.ofNat 2)))], none⟩,
  ⟨some p16, .move, [(.tmp p142)], none⟩])
 (.seq (.reg [
  ⟨some p143, .move, [(.tmp p12)], none⟩,
  ⟨some p144, (.bin .quo), [(.tmp p143), (.const (.int .u32 (.ofNat 100)))], none⟩,
  ⟨some p12, .move, [(.tmp p144)], none⟩])
 (.seq (.drawn [
  ⟨0, ⟨some p145, .move, [(.tmp p0)], none⟩, .pure, []⟩,
  ⟨1, ⟨some p146, .move, [(.tmp p4)], none⟩, .pure, []⟩,
  ⟨2, ⟨some p147, (.bin .sub), [(.tmp p146), (.const (.int .i64 (.ofNat 1)))], none⟩, .pure, [1]⟩,
  ⟨3, ⟨some p148, .move, [(.tmp p0)], none⟩, .pure, []⟩,
  ⟨4, ⟨some p149, .move, [(.tmp p4)], none⟩, .pure, []⟩,
  ⟨5, ⟨some p150, (.bin .sub), [(.tmp p149), (.const (.int .i64 (.ofNat 2)))], none⟩, .pure, [4]⟩,
  ⟨6, ⟨some p151, .move, [(.tmp p16)], none⟩, .pure, []⟩,
  ⟨7, ⟨some p152, (.bin .add), [(.tmp p151), (.const (.int .u32 (.ofNat 1)))], none⟩, .pure, [6]⟩,
  ⟨8, ⟨some p153, .idxStr, [(.const (.str [48, 48, 48, 49, 48, 50, 48, 51, 48, 52, 48, 53, 48, 54, 48, 55, 48, 56, 48, 57, 49, 48, 49, 49, 49, 50, 49, 51, 49, 52, 49, 53, 49, 54, 49, 55, 49, 56, 49, 57, 50, 48, 50, 49, 50, 50, 50, 51, 50, 52, 50, 53, 50, 54, 50, 55, 50, 56, 50, 57, 51, 48, 51, 49, 51, 50, 51, 51, 51, 52, 51, 53, 51, 54, 51, 55, 51, 56, 51, 57, 52, 48, 52, 49, 52, 50, 52, 51, 52, 52, 52, 53, 52, 54, 52, 55, 52, 56, 52, 57, 53, 48, 53, 49, 53, 50, 53, 51, 53, 52, 53, 53, 53, 54, 53, 55, 53, 56, 53, 57, 54, 48, 54, 49, 54, 50, 54, 51, 54, 52, 54, 53, 54, 54, 54, 55, 54, 56, 54, 57, 55, 48, 55, 49, 55, 50, 55, 51, 55, 52, 55, 53, 55, 54, 55, 55, 55, 56, 55, 57, 56, 48, 56, 49, 56, 50, 56, 51, 56, 52, 56, 53, 56, 54, 56, 55, 56, 56, 56, 57, 57, 48, 57, 49, 57, 50, 57, 51, 57, 52, 57, 53, 57, 54, 57, 55, 57, 56, 57, 57])), (.tmp p152)], none⟩, .pure, [7]⟩,
  ⟨9, ⟨some p154, .move, [(.tmp p16)], none⟩, .pure, []⟩,
  ⟨10, ⟨some p155, .idxStr, [(.const (.str [48, 48, 48, 49, 48, 50, 48, 51, 48, 52, 48, 53, 48, 54, 48, 55, 48, 56, 48, 57, 49, 48, 49, 49, 49, 50, 49, 51, 49, 52, 49, 53, 49, 54, 49, 55, 49, 56, 49, 57, 50, 48, 50, 49, 50, 50, 50, 51, 50, 52, 50, 53, 50, 54, 50, 55, 50, 56, 50, 57, 51, 48, 51, 49, 51, 50, 51, 51, 51, 52, 51, 53, 51, 54, 51, 55, 51, 56, 51, 57, 52, 48, 52, 49, 52, 50, 52, 51, 52, 52, 52, 53, 52, 54, 52, 55, 52, 56, 52, 57, 53, 48, 53, 49, 53, 50, 53, 51, 53, 52, 53, 53, 53, 54, 53, 55, 53, 56, 53, 57, 54, 48, 54, 49, 54, 50, 54, 51, 54, 52, 54, 53, 54, 54, 54, 55, 54, 56, 54, 57, 55, 48, 55, 49, 55, 50, 55, 51, 55, 52, 55, 53, 55, 54, 55, 55, 55, 56, 55, 57, 56, 48, 56, 49, 56, 50, 56, 51, 56, 52, 56, 53, 56, 54, 56, 55, 56, 56, 56, 57, 57, 48, 57, 49, 57, 50, 57, 51, 57, 52, 57, 53, 57, 54, 57, 55, 57, 56, 57, 57])), (.tmp p154)], none⟩, .pure, [9]⟩,
  ⟨11, ⟨some p156, (.idxSlice 1), [(.tmp p145), (.tmp p147)], none⟩, .pure, [0, 2, 0, 1, 2, 6, 7, 8]⟩,
  ⟨12, ⟨none, (.store 1), [(.tmp p156), (.tmp p153)], none⟩, .eff, [11, 8, 0, 1, 2, 6, 7, 8]⟩,
  ⟨13, ⟨some p157, (.idxSlice 1), [(.tmp p148), (.tmp p150)], none⟩, .pure, [3, 5, 0, 1, 2, 3, 4, 5, 6, 7, 8, 9, 10, 11, 12]⟩,
  ⟨14, ⟨none, (.store 1), [(.tmp p157), (.tmp p155)], none⟩, .eff, [13, 10, 12, 0, 1, 2, 3, 4, 5, 6, 7, 8, 9, 10, 11, 12]⟩])
 (.reg [
  ⟨some p158, .move, [(.tmp p4)], none⟩,
  ⟨some p159, (.bin .sub), [(.tmp p158), (.const (.int .i64 (.ofNat 2)))], none⟩,
  ⟨some p4, .move, [(.tmp p159)], none⟩]))))
 .skip))
 (.seq (.reg [
  ⟨some p160, .move, [(.tmp p4)], none⟩,
  ⟨some p161, (.bin .gtr), [(.tmp p160), (.const (.int .i64 (.ofNat 0)))], none⟩])
 (.cond (.tmp p161)
 (.reg [
  ⟨some p162, .move, [(.tmp p0)], none⟩,
  ⟨some p163, .move, [(.tmp p12)], none⟩,
  ⟨some p164, (.bin .add), [(.const (.int .u32 (.ofNat 48))), (.tmp p163)], none⟩,
  ⟨some p165, (.convInt .u8), [(.tmp p164)], none⟩,
  ⟨some p166, (.idxSlice 1), [(.tmp p162), (.const (.int .i64 (.ofNat 0)))], none⟩,
  ⟨none, (.store 1), [(.tmp p166), (.tmp p165)], none⟩])
 .skip))))))),
 []⟩
def F239 : IFn := ⟨1,
(.seq (.reg [
  ⟨some p2, .move, [(.const (.int .i64 (.ofNat 0)))], none⟩,
  ⟨some p3, .move, [(.const .inil)], none⟩])
 (.seq (.reg [
  ⟨some p11, .move, [(.tmp p0)], none⟩,
  ⟨some p12, .lenS, [(.tmp p11)], none⟩,
  ⟨some p4, .move, [(.tmp p12)], none⟩])
 (.seq (.seq (.reg [
  ⟨some p13, .move, [(.const (.bool false))], none⟩,
  ⟨some p14, .move, [(.tmp p4)], some (p13, true)⟩,
  ⟨some p15, (.bin .lss), [(.const (.int .i64 (.ofNat 0))), (.tmp p14)], some (p13, true)⟩,
  ⟨some p16, .move, [(.tmp p15)], some (p13, true)⟩,
  ⟨some p17, .move, [(.tmp p4)], some (p16, true)⟩,
  ⟨some p18, (.bin .lss), [(.tmp p17), (.const (.int .i64 (.ofNat 10)))], some (p16, true)⟩,
  ⟨some p19, .pick, [(.tmp p16), (.tmp p18), (.const (.bool false))], some (p13, true)⟩,
  ⟨some p20, .pick, [(.tmp p13), (.tmp p19), (.const (.bool false))], none⟩,
  ⟨some p21, .move, [(.tmp p20)], none⟩,
  ⟨some p22, .move, [(.const (.bool true))], some (p21, false)⟩,
  ⟨some p23, .move, [(.tmp p4)], some (p22, true)⟩,
  ⟨some p24, (.bin .lss), [(.const (.int .i64 (.ofNat 0))), (.tmp p23)], some (p22, true)⟩,
  ⟨some p25, .move, [(.tmp p24)], some (p22, true)⟩,
  ⟨some p26, .move, [(.tmp p4)], some (p25, true)⟩,
  ⟨some p27, (.bin .lss), [(.tmp p26), (.const (.int .i64 (.ofNat 19)))], some (p25, true)⟩,
  ⟨some p28, .pick, [(.tmp p25), (.tmp p27), (.const (.bool false))], some (p22, true)⟩,
  ⟨some p29, .pick, [(.tmp p22), (.tmp p28), (.const (.bool false))], some (p21, false)⟩,
  ⟨some p30, .pick, [(.tmp p21), (.const (.bool true)), (.tmp p29)], none⟩])
 (.cond (.tmp p30)
 (.seq (.reg [
  ⟨some p31, .move, [(.tmp p0)], none⟩,
  ⟨some p5, .move, [(.tmp p31)], none⟩])
 (.seq (.seq (.reg [
  ⟨some p32, .move, [(.tmp p0)], none⟩,
  ⟨some p33, .idxStr, [(.tmp p32), (.const (.int .i64 (.ofNat 0)))], none⟩,
  ⟨some p34, (.eql (.base .int) false), [(.tmp p33), (.const (.int .u8 (.ofNat 45)))], none⟩,
  ⟨some p35, .move, [(.tmp p34)], none⟩,
  ⟨some p36, .move, [(.tmp p0)], some (p35, false)⟩,
  ⟨some p37, .idxStr, [(.tmp p36), (.const (.int .i64 (.ofNat 0)))], some (p35, false)⟩,
  ⟨some p38, (.eql (.base .int) false), [(.tmp p37), (.const (.int .u8 (.ofNat 43)))], some (p35, false)⟩,
  ⟨some p39, .pick, [(.tmp p35), (.const (.bool true)), (.tmp p38)], none⟩])
 (.cond (.tmp p39)
 (.seq (.reg [
  ⟨some p40, .move, [(.tmp p0)], none⟩,
  ⟨some p41, (.slStr true false), [(.tmp p40), (.const (.int .i64 (.ofNat 1)))], none⟩,
  ⟨some p0, .move, [(.tmp p41)], none⟩])
 (.seq (.reg [
  ⟨some p42, .move, [(.tmp p0)], none⟩,
  ⟨some p43, .lenS, [(.tmp p42)], none⟩,
  ⟨some p44, (.bin .lss), [(.tmp p43), (.const (.int .i64 (.ofNat 1)))], none⟩])
 (.cond (.tmp p44)
 (.seq (.reg [
  ⟨some p45, (.mkIface 296), [(.const (.int .i64 (.ofNat 2)))], none⟩,
  ⟨some p2, .move, [(.const (.int .i64 (.ofNat 0)))], none⟩,
  ⟨some p3, .move, [(.tmp p45)], none⟩])
 (.ret [.tmp p2, .tmp p3]))
 .skip)))
 .skip))
 (.seq (.reg [
  ⟨some p6, .move, [(.const (.int .i64 (.ofNat 0)))], none⟩])
 (.seq (.seq (.reg [
  ⟨some p46, .move, [(.tmp p0)], none⟩,
  ⟨some p47, (.convStrBytes 5), [(.tmp p46)], none⟩,
  ⟨some p48, .lenL, [(.tmp p47)], none⟩,
  ⟨some p49, .move, [(.const (.int .i64 (.ofNat 0)))], none⟩])
 (.block 0 [p5, p6] (.loop [p5, p6, p47, p48, p49] (.seq (.reg [
  ⟨some p50, (.bin .lss), [(.tmp p49), (.tmp p48)], none⟩])
 (.seq (.cond (.tmp p50)
 .skip
 (.exit 0 [p5, p6]))
 (.seq (.block 1 [p5, p6, p47, p48, p49] (.seq (.reg [
  ⟨some p51, (.idxSlice 1), [(.tmp p47), (.tmp p49)], none⟩,
  ⟨some p52, (.load false 1), [(.tmp p51)], none⟩,
  ⟨some p8, .move, [(.tmp p52)], none⟩])
 (.seq (.reg [
  ⟨some p53, .move, [(.tmp p8)], none⟩,
  ⟨some p54, (.bin .sub), [(.tmp p53), (.const (.int .u8 (.ofNat 48)))], none⟩,
  ⟨some p8, .move, [(.tmp p54)], none⟩])
 (.seq (.seq (.reg [
  ⟨some p55, .move, [(.tmp p8)], none⟩,
  ⟨some p56, (.bin .gtr), [(.tmp p55), (.const (.int .u8 (.ofNat 9)))], none⟩])
 (.cond (.tmp p56)
 (.seq (.reg [
  ⟨some p57, (.mkIface 296), [(.const (.int .i64 (.ofNat 2)))], none⟩,
  ⟨some p2, .move, [(.const (.int .i64 (.ofNat 0)))], none⟩,
  ⟨some p3, .move, [(.tmp p57)], none⟩])
 (.ret [.tmp p2, .tmp p3]))
 .skip))
 (.reg [
  ⟨some p58, .move, [(.tmp p6)], none⟩,
  ⟨some p59, (.bin .mul), [(.tmp p58), (.const (.int .i64 (.ofNat 10)))], none⟩,
  ⟨some p60, .move, [(.tmp p8)], none⟩,
  ⟨some p61, (.convInt .i64), [(.tmp p60)], none⟩,
  ⟨some p62, (.bin .add), [(.tmp p59), (.tmp p61)], none⟩,
  ⟨some p6, .move, [(.tmp p62)], none⟩])))))
 (.reg [
  ⟨some p63, (.bin .add), [(.tmp p49), (.const (.int .i64 (.ofNat 1)))], none⟩,
  ⟨some p49, .move, [(.tmp p63)], none⟩])))))))
 (.seq (.seq (.reg [
  ⟨some p64, .move, [(.tmp p5)], none⟩,
  ⟨some p65, .idxStr, [(.tmp p64), (.const (.int .i64 (.ofNat 0)))], none⟩,
  ⟨some p66, (.eql (.base .int) false), [(.tmp p65), (.const (.int .u8 (.ofNat 45)))], none⟩])
 (.cond (.tmp p66)
 (.reg [
  ⟨some p67, .move, [(.tmp p6)], none⟩,
  ⟨some p68, .never, [], none⟩,
  ⟨some p6, .move, [(.tmp p68)], none⟩])
 .skip))
 (.seq (.reg [
  ⟨some p69, .move, [(.tmp p6)], none⟩,
  ⟨some p2, .move, [(.tmp p69)], none⟩,
  ⟨some p3, .move, [(.const .inil)], none⟩])
 (.ret [.tmp p2, .tmp p3])))))))
 .skip))
 (.seq (.reg [
  ⟨some p71, .move, [(.tmp p0)], none⟩,
  ⟨some p72, .call, [(.const (.fn 245 [] [])), (.tmp p71), (.const (.int .i64 (.ofNat 10))), (.const (.int .i64 (.ofNat 0)))], none⟩,
  ⟨some p70, .move, [(.tmp p72)], none⟩,
  ⟨some p73, (.extract 0), [(.tmp p70)], none⟩,
  ⟨some p74, (.extract 1), [(.tmp p70)], none⟩,
  ⟨some p9, .move, [(.tmp p73)], none⟩,
  ⟨some p10, .move, [(.tmp p74)], none⟩])
 (.seq (.reg [
  ⟨some p75, .move, [(.tmp p9)], none⟩,
  ⟨some p76, .move, [(.tmp p10)], none⟩,
  ⟨some p2, .move, [(.tmp p75)], none⟩,
  ⟨some p3, .move, [(.tmp p76)], none⟩])
 (.ret [.tmp p2, .tmp p3])))))),
 [.tmp p2, .tmp p3]⟩
def F240 : IFn := ⟨5,
(.seq (.reg [
  ⟨some p10, .move, [(.const .inil)], none⟩])
 (.seq (.seq (.reg [
  ⟨some p11, .move, [(.tmp p4)], none⟩])
 (.block 0 [p4] (.seq (.reg [
  ⟨some p13, (.mkIface 296), [(.const (.int .i64 (.ofNat 2)))], none⟩,
  ⟨some p14, (.eql (.iface false) false), [(.tmp p11), (.tmp p13)], none⟩,
  ⟨some p12, .move, [(.tmp p14)], none⟩])
 (.cond (.tmp p12)
 (.seq (.reg [
  ⟨some p15, .move, [(.tmp p0)], none⟩,
  ⟨some p16, .move, [(.tmp p1)], none⟩,
  ⟨some p17, .call, [(.const (.fn 246 [] [])), (.tmp p15), (.tmp p16)], none⟩,
  ⟨some p18, (.mkIface 299), [(.tmp p17)], none⟩,
  ⟨some p10, .move, [(.tmp p18)], none⟩])
 (.ret [.tmp p10]))
 (.seq (.reg [
  ⟨some p20, (.mkIface 296), [(.const (.int .i64 (.ofNat 1)))], none⟩,
  ⟨some p21, (.eql (.iface false) false), [(.tmp p11), (.tmp p20)], none⟩,
  ⟨some p19, .move, [(.tmp p21)], none⟩])
 (.cond (.tmp p19)
 (.seq (.reg [
  ⟨some p22, .move, [(.tmp p0)], none⟩,
  ⟨some p23, .move, [(.tmp p1)], none⟩,
  ⟨some p24, .call, [(.const (.fn 247 [] [])), (.tmp p22), (.tmp p23)], none⟩,
  ⟨some p25, (.mkIface 299), [(.tmp p24)], none⟩,
  ⟨some p10, .move, [(.tmp p25)], none⟩])
 (.ret [.tmp p10]))
 (.seq (.reg [
  ⟨some p27, (.mkIface 296), [(.const (.int .i64 (.ofNat 3)))], none⟩,
  ⟨some p28, (.eql (.iface false) false), [(.tmp p11), (.tmp p27)], none⟩,
  ⟨some p26, .move, [(.tmp p28)], none⟩])
 (.cond (.tmp p26)
 (.seq (.reg [
  ⟨some p29, .move, [(.tmp p0)], none⟩,
  ⟨some p30, .move, [(.tmp p1)], none⟩,
  ⟨some p31, .move, [(.tmp p2)], none⟩,
  ⟨some p32, .call, [(.const (.fn 248 [] [])), (.tmp p29), (.tmp p30), (.tmp p31)], none⟩,
  ⟨some p33, (.mkIface 299), [(.tmp p32)], none⟩,
  ⟨some p10, .move, [(.tmp p33)], none⟩])
 (.ret [.tmp p10]))
 (.seq (.reg [
  ⟨some p35, (.mkIface 296), [(.const (.int .i64 (.ofNat 4)))], none⟩,
  ⟨some p36, (.eql (.iface false) false), [(.tmp p11), (.tmp p35)], none⟩,
  ⟨some p34, .move, [(.tmp p36)], none⟩])
 (.cond (.tmp p34)
 (.seq (.reg [
  ⟨some p37, .move, [(.tmp p0)], none⟩,
  ⟨some p38, .move, [(.tmp p1)], none⟩,
  ⟨some p39, .move, [(.tmp p3)], none⟩,
  ⟨some p40, .call, [(.const (.fn 249 [] [])), (.tmp p37), (.tmp p38), (.tmp p39)], none⟩,
  ⟨some p41, (.mkIface 299), [(.tmp p40)], none⟩,
  ⟨some p10, .move, [(.tmp p41)], none⟩])
 (.ret [.tmp p10]))
 .skip))))))))))
 (.seq (.reg [
  ⟨some p42, .move, [(.tmp p4)], none⟩,
  ⟨some p10, .move, [(.tmp p42)], none⟩])
 (.ret [.tmp p10])))),
 [.tmp p10]⟩
def F241 : IFn := ⟨1,
(.seq (.reg [
  ⟨some p2, .move, [(.const (.int .i64 (.ofNat 0)))], none⟩])
 (.seq (.reg [
  ⟨some p3, .move, [(.tmp p0)], none⟩,
  ⟨some p4, (.bin .mul), [(.tmp p3), (.const (.int .i64 (.ofNat 78913)))], none⟩,
  ⟨some p5, (.bin .shr), [(.tmp p4), (.const (.int .u64 (.ofNat 18)))], none⟩,
  ⟨some p2, .move, [(.tmp p5)], none⟩])
 (.ret [.tmp p2]))),
 [.tmp p2]⟩
def F242 : IFn := ⟨1,
(.seq (.reg [
  ⟨some p2, .move, [(.const (.int .i64 (.ofNat 0)))], none⟩])
 (.seq (.seq (.reg [
  ⟨some p3, .move, [(.tmp p0)], none⟩])
 (.cond (.tmp p3)
 (.seq (.reg [
  ⟨some p2, .move, [(.const (.int .i64 (.ofNat 1)))], none⟩])
 (.ret [.tmp p2]))
 .skip))
 (.seq (.reg [
  ⟨some p2, .move, [(.const (.int .i64 (.ofNat 0)))], none⟩])
 (.ret [.tmp p2])))),
 [.tmp p2]⟩
def F245 : IFn := ⟨3,
(.seq (.reg [
  ⟨some p6, .move, [(.const (.int .i64 (.ofNat 0)))], none⟩,
  ⟨some p7, .move, [(.const .inil)], none⟩])
 (.seq (.seq (.reg [
  ⟨some p12, .move, [(.tmp p0)], none⟩,
  ⟨some p13, (.eql (.base .str) false), [(.tmp p12), (.const (.str []))], none⟩])
 (.cond (.tmp p13)
 (.seq (.reg [
  ⟨some p14, (.mkIface 296), [(.const (.int .i64 (.ofNat 2)))], none⟩,
  ⟨some p6, .move, [(.const (.int .i64 (.ofNat 0)))], none⟩,
  ⟨some p7, .move, [(.tmp p14)], none⟩])
 (.ret [.tmp p6, .tmp p7]))
 .skip))
 (.seq (.reg [
  ⟨some p8, .move, [(.const (.bool false))], none⟩])
 (.seq (.seq (.reg [
  ⟨some p15, .move, [(.tmp p0)], none⟩,
  ⟨some p16, .idxStr, [(.tmp p15), (.const (.int .i64 (.ofNat 0)))], none⟩])
 (.block 0 [p0, p1, p2, p8] (.seq (.reg [
  ⟨some p18, (.eql (.base .int) false), [(.tmp p16), (.const (.int .u8 (.ofNat 43)))], none⟩,
  ⟨some p17, .move, [(.tmp p18)], none⟩])
 (.cond (.tmp p17)
 (.reg [
  ⟨some p19, .move, [(.tmp p0)], none⟩,
  ⟨some p20, (.slStr true false), [(.tmp p19), (.const (.int .i64 (.ofNat 1)))], none⟩,
  ⟨some p0, .move, [(.tmp p20)], none⟩])
 (.seq (.reg [
  ⟨some p22, (.eql (.base .int) false), [(.tmp p16), (.const (.int .u8 (.ofNat 45)))], none⟩,
  ⟨some p21, .move, [(.tmp p22)], none⟩])
 (.cond (.tmp p21)
 (.seq (.reg [
  ⟨some p23, .move, [(.tmp p0)], none⟩,
  ⟨some p24, (.slStr true false), [(.tmp p23), (.const (.int .i64 (.ofNat 1)))], none⟩,
  ⟨some p0, .move, [(.tmp p24)], none⟩])
 (.reg [
  ⟨some p8, .move, [(.const (.bool true))], none⟩]))
 .skip))))))
 (.seq (.reg [
  ⟨some p9, .move, [(.const (.int .u64 (.ofNat 0)))], none⟩])
 (.seq (.reg [
  ⟨some p26, .move, [(.tmp p0)], none⟩,
  ⟨some p27, .move, [(.tmp p1)], none⟩,
  ⟨some p28, .move, [(.tmp p2)], none⟩,
  ⟨some p29, .call, [(.const (.fn 252 [] [])), (.tmp p26), (.tmp p27), (.tmp p28)], none⟩,
  ⟨some p25, .move, [(.tmp p29)], none⟩,
  ⟨some p30, (.extract 0), [(.tmp p25)], none⟩,
  ⟨some p31, (.extract 1), [(.tmp p25)], none⟩,
  ⟨some p9, .move, [(.tmp p30)], none⟩,
  ⟨some p7, .move, [(.tmp p31)], none⟩])
 (.seq (.seq (.reg [
  ⟨some p32, .move, [(.tmp p7)], none⟩,
  ⟨some p33, (.eql (.iface true) true), [(.tmp p32), (.const .inil)], none⟩,
  ⟨some p34, .move, [(.tmp p33)], none⟩,
  ⟨some p35, .move, [(.tmp p7)], some (p34, true)⟩,
  ⟨some p36, (.mkIface 296), [(.const (.int .i64 (.ofNat 1)))], some (p34, true)⟩,
  ⟨some p37, (.eql (.iface false) true), [(.tmp p35), (.tmp p36)], some (p34, true)⟩,
  ⟨some p38, .pick, [(.tmp p34), (.tmp p37), (.const (.bool false))], none⟩])
 (.cond (.tmp p38)
 (.seq (.reg [
  ⟨some p39, .move, [(.tmp p7)], none⟩,
  ⟨some p6, .move, [(.const (.int .i64 (.ofNat 0)))], none⟩,
  ⟨some p7, .move, [(.tmp p39)], none⟩])
 (.ret [.tmp p6, .tmp p7]))
 .skip))
 (.seq (.seq (.reg [
  ⟨some p40, .move, [(.tmp p2)], none⟩,
  ⟨some p41, (.eql (.base .int) false), [(.tmp p40), (.const (.int .i64 (.ofNat 0)))], none⟩])
 (.cond (.tmp p41)
 (.reg [
  ⟨some p2, .move, [(.const (.int .i64 (.ofNat 64)))], none⟩])
 .skip))
 (.seq (.reg [
  ⟨some p42, .move, [(.tmp p2)], none⟩,
  ⟨some p43, (.bin .sub), [(.tmp p42), (.const (.int .i64 (.ofNat 1)))], none⟩,
  ⟨some p44, (.convInt .u64), [(.tmp p43)], none⟩,
  ⟨some p45, (.bin .shl), [(.const (.int .u64 (.ofNat 1))), (.tmp p44)], none⟩,
  ⟨some p10, .move, [(.tmp p45)], none⟩])
 (.seq (.seq (.reg [
  ⟨some p46, .move, [(.tmp p8)], none⟩,
  ⟨some p47, .not, [(.tmp p46)], none⟩,
  ⟨some p48, .move, [(.tmp p47)], none⟩,
  ⟨some p49, .move, [(.tmp p9)], some (p48, true)⟩,
  ⟨some p50, .move, [(.tmp p10)], some (p48, true)⟩,
  ⟨some p51, (.bin .geq), [(.tmp p49), (.tmp p50)], some (p48, true)⟩,
  ⟨some p52, .pick, [(.tmp p48), (.tmp p51), (.const (.bool false))], none⟩])
 (.cond (.tmp p52)
 (.seq (.reg [
  ⟨some p53, .move, [(.tmp p10)], none⟩,
  ⟨some p54, (.bin .sub), [(.tmp p53), (.const (.int .u64 (.ofNat 1)))], none⟩,
  ⟨some p55, (.convInt .i64), [(.tmp p54)], none⟩,
  ⟨some p56, (.mkIface 296), [(.const (.int .i64 (.ofNat 1)))], none⟩,
  ⟨some p6, .move, [(.tmp p55)], none⟩,
  ⟨some p7, .move, [(.tmp p56)], none⟩])
 (.ret [.tmp p6, .tmp p7]))
 .skip))
 (.seq (.seq (.reg [
  ⟨some p57, .move, [(.tmp p8)], none⟩,
  ⟨some p58, .move, [(.tmp p57)], none⟩,
  ⟨some p59, .move, [(.tmp p9)], some (p58, true)⟩,
  ⟨some p60, .move, [(.tmp p10)], some (p58, true)⟩,
  ⟨some p61, (.bin .gtr), [(.tmp p59), (.tmp p60)], some (p58, true)⟩,
  ⟨some p62, .pick, [(.tmp p58), (.tmp p61), (.const (.bool false))], none⟩])
 (.cond (.tmp p62)
 (.seq (.reg [
  ⟨some p63, .move, [(.tmp p10)], none⟩,
  ⟨some p64, (.convInt .i64), [(.tmp p63)], none⟩,
  ⟨some p65, .never, [], none⟩,
  ⟨some p66, (.mkIface 296), [(.const (.int .i64 (.ofNat 1)))], none⟩,
  ⟨some p6, .move, [(.tmp p65)], none⟩,
  ⟨some p7, .move, [(.tmp p66)], none⟩])
 (.ret [.tmp p6, .tmp p7]))
 .skip))
 (.seq (.reg [
  ⟨some p67, .move, [(.tmp p9)], none⟩,
  ⟨some p68, (.convInt .i64), [(.tmp p67)], none⟩,
  ⟨some p11, .move, [(.tmp p68)], none⟩])
 (.seq (.seq (.reg [
  ⟨some p69, .move, [(.tmp p8)], none⟩])
 (.cond (.tmp p69)
 (.reg [
  ⟨some p70, .move, [(.tmp p11)], none⟩,
  ⟨some p71, .never, [], none⟩,
  ⟨some p11, .move, [(.tmp p71)], none⟩])
 .skip))
 (.seq (.reg [
  ⟨some p72, .move, [(.tmp p11)], none⟩,
  ⟨some p6, .move, [(.tmp p72)], none⟩,
  ⟨some p7, .move, [(.const .inil)], none⟩])
 (.ret [.tmp p6, .tmp p7]))))))))))))))),
 [.tmp p6, .tmp p7]⟩
def F248 : IFn := ⟨3,
(.seq (.reg [
  ⟨some p6, .move, [(.const .pnil)], none⟩])
 (.seq (.reg [
  ⟨some p7, .move, [(.tmp p0)], none⟩,
  ⟨some p8, .move, [(.tmp p1)], none⟩,
  ⟨some p9, .call, [(.const (.fn 253 [] [])), (.tmp p8)], none⟩,
  ⟨some p10, .move, [(.tmp p2)], none⟩,
  ⟨some p11, .call, [(.const (.fn 220 [] [])), (.tmp p10)], none⟩,
  ⟨some p12, (.bin .sadd), [(.const (.str [105, 110, 118, 97, 108, 105, 100, 32, 98, 97, 115, 101, 32])), (.tmp p11)], none⟩,
  ⟨some p13, .call, [(.const (.fn 254 [] [])), (.tmp p12)], none⟩,
  ⟨some p14, (.build [(.str []), (.str []), .inil] [(0, 1), (1, 1), (2, 1)]), [(.tmp p7), (.tmp p9), (.tmp p13)], none⟩,
  ⟨some p15, (.box 305 3), [(.tmp p14)], none⟩,
  ⟨some p6, .move, [(.tmp p15)], none⟩])
 (.ret [.tmp p6]))),
 [.tmp p6]⟩
def F249 : IFn := ⟨3,
(.seq (.reg [
  ⟨some p6, .move, [(.const .pnil)], none⟩])
 (.seq (.reg [
  ⟨some p7, .move, [(.tmp p0)], none⟩,
  ⟨some p8, .move, [(.tmp p1)], none⟩,
  ⟨some p9, .call, [(.const (.fn 253 [] [])), (.tmp p8)], none⟩,
  ⟨some p10, .move, [(.tmp p2)], none⟩,
  ⟨some p11, .call, [(.const (.fn 220 [] [])), (.tmp p10)], none⟩,
  ⟨some p12, (.bin .sadd), [(.const (.str [105, 110, 118, 97, 108, 105, 100, 32, 98, 105, 116, 32, 115, 105, 122, 101, 32])), (.tmp p11)], none⟩,
  ⟨some p13, .call, [(.const (.fn 254 [] [])), (.tmp p12)], none⟩,
  ⟨some p14, (.build [(.str []), (.str []), .inil] [(0, 1), (1, 1), (2, 1)]), [(.tmp p7), (.tmp p9), (.tmp p13)], none⟩,
  ⟨some p15, (.box 305 3), [(.tmp p14)], none⟩,
  ⟨some p6, .move, [(.tmp p15)], none⟩])
 (.ret [.tmp p6]))),
 [.tmp p6]⟩
end Go.Proofs.YtaepllhjnbencaaGreatDoor.Ir

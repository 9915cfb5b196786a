/- The functions of the program in the small code, part 1: printed by a program of this session (mkseat.py). -/
import Derived.Test.YtaepllhjnbencaaGreatDoorMuFn
import Derived.Test.YtaepllhjnbencaaGreatDoorMuPrims
set_option linter.unusedVariables false
namespace Go.Proofs.YtaepllhjnbencaaGreatDoor.Ir
open Mu
abbrev p0 : P := .h
abbrev p1 : P := (.o .h)
abbrev p2 : P := (.i .h)
abbrev p3 : P := (.o (.o .h))
abbrev p4 : P := (.i (.o .h))
abbrev p5 : P := (.o (.i .h))
abbrev p6 : P := (.i (.i .h))
abbrev p7 : P := (.o (.o (.o .h)))
abbrev p8 : P := (.i (.o (.o .h)))
abbrev p9 : P := (.o (.i (.o .h)))
abbrev p10 : P := (.i (.i (.o .h)))
abbrev p11 : P := (.o (.o (.i .h)))
abbrev p12 : P := (.i (.o (.i .h)))
abbrev p13 : P := (.o (.i (.i .h)))
abbrev p14 : P := (.i (.i (.i .h)))
abbrev p15 : P := (.o (.o (.o (.o .h))))
abbrev p16 : P := (.i (.o (.o (.o .h))))
abbrev p17 : P := (.o (.i (.o (.o .h))))
abbrev p18 : P := (.i (.i (.o (.o .h))))
abbrev p19 : P := (.o (.o (.i (.o .h))))
abbrev p20 : P := (.i (.o (.i (.o .h))))
abbrev p21 : P := (.o (.i (.i (.o .h))))
abbrev p22 : P := (.i (.i (.i (.o .h))))
abbrev p23 : P := (.o (.o (.o (.i .h))))
abbrev p24 : P := (.i (.o (.o (.i .h))))
abbrev p25 : P := (.o (.i (.o (.i .h))))
abbrev p26 : P := (.i (.i (.o (.i .h))))
abbrev p27 : P := (.o (.o (.i (.i .h))))
abbrev p28 : P := (.i (.o (.i (.i .h))))
abbrev p29 : P := (.o (.i (.i (.i .h))))
abbrev p30 : P := (.i (.i (.i (.i .h))))
abbrev p31 : P := (.o (.o (.o (.o (.o .h)))))
abbrev p32 : P := (.i (.o (.o (.o (.o .h)))))
abbrev p33 : P := (.o (.i (.o (.o (.o .h)))))
abbrev p34 : P := (.i (.i (.o (.o (.o .h)))))
abbrev p35 : P := (.o (.o (.i (.o (.o .h)))))
abbrev p36 : P := (.i (.o (.i (.o (.o .h)))))
abbrev p37 : P := (.o (.i (.i (.o (.o .h)))))
abbrev p38 : P := (.i (.i (.i (.o (.o .h)))))
abbrev p39 : P := (.o (.o (.o (.i (.o .h)))))
abbrev p40 : P := (.i (.o (.o (.i (.o .h)))))
abbrev p41 : P := (.o (.i (.o (.i (.o .h)))))
abbrev p42 : P := (.i (.i (.o (.i (.o .h)))))
abbrev p43 : P := (.o (.o (.i (.i (.o .h)))))
abbrev p44 : P := (.i (.o (.i (.i (.o .h)))))
abbrev p45 : P := (.o (.i (.i (.i (.o .h)))))
abbrev p46 : P := (.i (.i (.i (.i (.o .h)))))
abbrev p47 : P := (.o (.o (.o (.o (.i .h)))))
abbrev p48 : P := (.i (.o (.o (.o (.i .h)))))
abbrev p49 : P := (.o (.i (.o (.o (.i .h)))))
abbrev p50 : P := (.i (.i (.o (.o (.i .h)))))
abbrev p51 : P := (.o (.o (.i (.o (.i .h)))))
abbrev p52 : P := (.i (.o (.i (.o (.i .h)))))
abbrev p53 : P := (.o (.i (.i (.o (.i .h)))))
abbrev p54 : P := (.i (.i (.i (.o (.i .h)))))
abbrev p55 : P := (.o (.o (.o (.i (.i .h)))))
abbrev p56 : P := (.i (.o (.o (.i (.i .h)))))
abbrev p57 : P := (.o (.i (.o (.i (.i .h)))))
abbrev p58 : P := (.i (.i (.o (.i (.i .h)))))
abbrev p59 : P := (.o (.o (.i (.i (.i .h)))))
abbrev p60 : P := (.i (.o (.i (.i (.i .h)))))
abbrev p61 : P := (.o (.i (.i (.i (.i .h)))))
abbrev p62 : P := (.i (.i (.i (.i (.i .h)))))
abbrev p63 : P := (.o (.o (.o (.o (.o (.o .h))))))
abbrev p64 : P := (.i (.o (.o (.o (.o (.o .h))))))
abbrev p65 : P := (.o (.i (.o (.o (.o (.o .h))))))
abbrev p66 : P := (.i (.i (.o (.o (.o (.o .h))))))
abbrev p67 : P := (.o (.o (.i (.o (.o (.o .h))))))
abbrev p68 : P := (.i (.o (.i (.o (.o (.o .h))))))
abbrev p69 : P := (.o (.i (.i (.o (.o (.o .h))))))
abbrev p70 : P := (.i (.i (.i (.o (.o (.o .h))))))
abbrev p71 : P := (.o (.o (.o (.i (.o (.o .h))))))
abbrev p72 : P := (.i (.o (.o (.i (.o (.o .h))))))
abbrev p73 : P := (.o (.i (.o (.i (.o (.o .h))))))
abbrev p74 : P := (.i (.i (.o (.i (.o (.o .h))))))
abbrev p75 : P := (.o (.o (.i (.i (.o (.o .h))))))
abbrev p76 : P := (.i (.o (.i (.i (.o (.o .h))))))
abbrev p77 : P := (.o (.i (.i (.i (.o (.o .h))))))
abbrev p78 : P := (.i (.i (.i (.i (.o (.o .h))))))
abbrev p79 : P := (.o (.o (.o (.o (.i (.o .h))))))
abbrev p80 : P := (.i (.o (.o (.o (.i (.o .h))))))
abbrev p81 : P := (.o (.i (.o (.o (.i (.o .h))))))
abbrev p82 : P := (.i (.i (.o (.o (.i (.o .h))))))
abbrev p83 : P := (.o (.o (.i (.o (.i (.o .h))))))
abbrev p84 : P := (.i (.o (.i (.o (.i (.o .h))))))
abbrev p85 : P := (.o (.i (.i (.o (.i (.o .h))))))
abbrev p86 : P := (.i (.i (.i (.o (.i (.o .h))))))
abbrev p87 : P := (.o (.o (.o (.i (.i (.o .h))))))
abbrev p88 : P := (.i (.o (.o (.i (.i (.o .h))))))
abbrev p89 : P := (.o (.i (.o (.i (.i (.o .h))))))
abbrev p90 : P := (.i (.i (.o (.i (.i (.o .h))))))
abbrev p91 : P := (.o (.o (.i (.i (.i (.o .h))))))
abbrev p92 : P := (.i (.o (.i (.i (.i (.o .h))))))
abbrev p93 : P := (.o (.i (.i (.i (.i (.o .h))))))
abbrev p94 : P := (.i (.i (.i (.i (.i (.o .h))))))
abbrev p95 : P := (.o (.o (.o (.o (.o (.i .h))))))
abbrev p96 : P := (.i (.o (.o (.o (.o (.i .h))))))
abbrev p97 : P := (.o (.i (.o (.o (.o (.i .h))))))
abbrev p98 : P := (.i (.i (.o (.o (.o (.i .h))))))
abbrev p99 : P := (.o (.o (.i (.o (.o (.i .h))))))
abbrev p100 : P := (.i (.o (.i (.o (.o (.i .h))))))
abbrev p101 : P := (.o (.i (.i (.o (.o (.i .h))))))
abbrev p102 : P := (.i (.i (.i (.o (.o (.i .h))))))
abbrev p103 : P := (.o (.o (.o (.i (.o (.i .h))))))
abbrev p104 : P := (.i (.o (.o (.i (.o (.i .h))))))
abbrev p105 : P := (.o (.i (.o (.i (.o (.i .h))))))
abbrev p106 : P := (.i (.i (.o (.i (.o (.i .h))))))
abbrev p107 : P := (.o (.o (.i (.i (.o (.i .h))))))
abbrev p108 : P := (.i (.o (.i (.i (.o (.i .h))))))
abbrev p109 : P := (.o (.i (.i (.i (.o (.i .h))))))
abbrev p110 : P := (.i (.i (.i (.i (.o (.i .h))))))
abbrev p111 : P := (.o (.o (.o (.o (.i (.i .h))))))
abbrev p112 : P := (.i (.o (.o (.o (.i (.i .h))))))
abbrev p113 : P := (.o (.i (.o (.o (.i (.i .h))))))
abbrev p114 : P := (.i (.i (.o (.o (.i (.i .h))))))
abbrev p115 : P := (.o (.o (.i (.o (.i (.i .h))))))
abbrev p116 : P := (.i (.o (.i (.o (.i (.i .h))))))
abbrev p117 : P := (.o (.i (.i (.o (.i (.i .h))))))
abbrev p118 : P := (.i (.i (.i (.o (.i (.i .h))))))
abbrev p119 : P := (.o (.o (.o (.i (.i (.i .h))))))
abbrev p120 : P := (.i (.o (.o (.i (.i (.i .h))))))
abbrev p121 : P := (.o (.i (.o (.i (.i (.i .h))))))
abbrev p122 : P := (.i (.i (.o (.i (.i (.i .h))))))
abbrev p123 : P := (.o (.o (.i (.i (.i (.i .h))))))
abbrev p124 : P := (.i (.o (.i (.i (.i (.i .h))))))
abbrev p125 : P := (.o (.i (.i (.i (.i (.i .h))))))
abbrev p126 : P := (.i (.i (.i (.i (.i (.i .h))))))
abbrev p127 : P := (.o (.o (.o (.o (.o (.o (.o .h)))))))
abbrev p128 : P := (.i (.o (.o (.o (.o (.o (.o .h)))))))
abbrev p129 : P := (.o (.i (.o (.o (.o (.o (.o .h)))))))
abbrev p130 : P := (.i (.i (.o (.o (.o (.o (.o .h)))))))
abbrev p131 : P := (.o (.o (.i (.o (.o (.o (.o .h)))))))
abbrev p132 : P := (.i (.o (.i (.o (.o (.o (.o .h)))))))
abbrev p133 : P := (.o (.i (.i (.o (.o (.o (.o .h)))))))
abbrev p134 : P := (.i (.i (.i (.o (.o (.o (.o .h)))))))
abbrev p135 : P := (.o (.o (.o (.i (.o (.o (.o .h)))))))
abbrev p136 : P := (.i (.o (.o (.i (.o (.o (.o .h)))))))
abbrev p137 : P := (.o (.i (.o (.i (.o (.o (.o .h)))))))
abbrev p138 : P := (.i (.i (.o (.i (.o (.o (.o .h)))))))
abbrev p139 : P := (.o (.o (.i (.i (.o (.o (.o .h)))))))
abbrev p140 : P := (.i (.o (.i (.i (.o (.o (.o .h)))))))
abbrev p141 : P := (.o (.i (.i (.i (.o (.o (.o .h)))))))
abbrev p142 : P := (.i (.i (.i (.i (.o (.o (.o .h)))))))
abbrev p143 : P := (.o (.o (.o (.o (.i (.o (.o .h)))))))
abbrev p144 : P := (.i (.o (.o (.o (.i (.o (.o .h)))))))
abbrev p145 : P := (.o (.i (.o (.o (.i (.o (.o .h)))))))
abbrev p146 : P := (.i (.i (.o (.o (.i (.o (.o .h)))))))
abbrev p147 : P := (.o (.o (.i (.o (.i (.o (.o .h)))))))
abbrev p148 : P := (.i (.o (.i (.o (.i (.o (.o .h)))))))
abbrev p149 : P := (.o (.i (.i (.o (.i (.o (.o .h)))))))
abbrev p150 : P := (.i (.i (.i (.o (.i (.o (.o .h)))))))
abbrev p151 : P := (.o (.o (.o (.i (.i (.o (.o .h)))))))
abbrev p152 : P := (.i (.o (.o (.i (.i (.o (.o .h)))))))
abbrev p153 : P := (.o (.i (.o (.i (.i (.o (.o .h)))))))
abbrev p154 : P := (.i (.i (.o (.i (.i (.o (.o .h)))))))
abbrev p155 : P := (.o (.o (.i (.i (.i (.o (.o .h)))))))
abbrev p156 : P := (.i (.o (.i (.i (.i (.o (.o .h)))))))
abbrev p157 : P := (.o (.i (.i (.i (.i (.o (.o .h)))))))
abbrev p158 : P := (.i (.i (.i (.i (.i (.o (.o .h)))))))
abbrev p159 : P := (.o (.o (.o (.o (.o (.i (.o .h)))))))
abbrev p160 : P := (.i (.o (.o (.o (.o (.i (.o .h)))))))
abbrev p161 : P := (.o (.i (.o (.o (.o (.i (.o .h)))))))
abbrev p162 : P := (.i (.i (.o (.o (.o (.i (.o .h)))))))
abbrev p163 : P := (.o (.o (.i (.o (.o (.i (.o .h)))))))
abbrev p164 : P := (.i (.o (.i (.o (.o (.i (.o .h)))))))
abbrev p165 : P := (.o (.i (.i (.o (.o (.i (.o .h)))))))
abbrev p166 : P := (.i (.i (.i (.o (.o (.i (.o .h)))))))
abbrev p167 : P := (.o (.o (.o (.i (.o (.i (.o .h)))))))
abbrev p168 : P := (.i (.o (.o (.i (.o (.i (.o .h)))))))
abbrev p169 : P := (.o (.i (.o (.i (.o (.i (.o .h)))))))
abbrev p170 : P := (.i (.i (.o (.i (.o (.i (.o .h)))))))
abbrev p171 : P := (.o (.o (.i (.i (.o (.i (.o .h)))))))
abbrev p172 : P := (.i (.o (.i (.i (.o (.i (.o .h)))))))
abbrev p173 : P := (.o (.i (.i (.i (.o (.i (.o .h)))))))
abbrev p174 : P := (.i (.i (.i (.i (.o (.i (.o .h)))))))
abbrev p175 : P := (.o (.o (.o (.o (.i (.i (.o .h)))))))
def F7 : IFn := ⟨1,
(.seq (.reg [
  ⟨some p1, (.box 25 2), [(.tmp p0)], none⟩,
  ⟨some p2, .move, [(.const (.bool false))], none⟩])
 (.seq (.reg [
  ⟨some p4, (.load true 2), [(.tmp p1)], none⟩,
  ⟨some p5, .call, [(.const (.fn 14 [] [])), (.tmp p4)], none⟩,
  ⟨some p3, (.alloc 25 [.snil, .snil]), [], none⟩,
  ⟨none, (.store 2), [(.tmp p3), (.tmp p5)], none⟩])
 (.seq (.drawn [
  ⟨0, ⟨some p6, .call, [(.const (.fn 15 [] []))], none⟩, .eff, []⟩,
  ⟨1, ⟨some p7, .move, [(.tmp p6)], none⟩, .pure, [0, 0]⟩,
  ⟨2, ⟨some p8, (.load true 2), [(.tmp p3)], some (p7, true)⟩, (.read 1 1), [1]⟩,
  ⟨3, ⟨some p9, .call, [(.const (.fn 24 [] [])), (.tmp p8)], some (p7, true)⟩, .eff, [2, 1, 1]⟩,
  ⟨4, ⟨some p10, (.load true 2), [(.tmp p1)], some (p7, true)⟩, (.read 1 2), [1]⟩,
  ⟨5, ⟨some p11, .call, [(.const (.fn 25 [] [])), (.tmp p10)], some (p7, true)⟩, .eff, [4, 3, 1]⟩,
  ⟨6, ⟨some p12, .call, [(.const (.fn 18 [] [])), (.tmp p9), (.tmp p11)], some (p7, true)⟩, .eff, [3, 5, 5, 1]⟩,
  ⟨7, ⟨some p13, .pick, [(.tmp p7), (.tmp p12), (.const (.bool false))], none⟩, .pure, [1, 6]⟩,
  ⟨8, ⟨some p14, .move, [(.tmp p13)], none⟩, .pure, [7, 6]⟩,
  ⟨9, ⟨some p15, (.load true 2), [(.tmp p3)], some (p14, true)⟩, (.read 4 4), [8]⟩,
  ⟨10, ⟨some p16, (.load true 2), [(.tmp p1)], some (p14, true)⟩, (.read 4 4), [8]⟩,
  ⟨11, ⟨some p17, .call, [(.const (.fn 18 [] [])), (.tmp p15), (.tmp p16)], some (p14, true)⟩, .eff, [9, 10, 8, 8]⟩,
  ⟨12, ⟨some p18, .pick, [(.tmp p14), (.tmp p17), (.const (.bool false))], none⟩, .pure, [8, 11]⟩,
  ⟨13, ⟨some p2, .move, [(.tmp p18)], none⟩, .pure, [12, 11, 0, 1, 2, 3, 4, 5, 6, 7, 8, 9, 10, 11, 12]⟩])
 (.ret [.tmp p2])))),
 [.tmp p2]⟩
def F14 : IFn := ⟨1,
(.seq (.reg [
  ⟨some p1, (.box 25 2), [(.tmp p0)], none⟩,
  ⟨some p2, (.alloc 25 [.snil, .snil]), [], none⟩])
 (.seq (.reg [
  ⟨some p3, (.load true 2), [(.tmp p1)], none⟩,
  ⟨some p4, .call, [(.const (.fn 32 [] [])), (.tmp p3)], none⟩,
  ⟨none, (.store 2), [(.tmp p2), (.tmp p4)], none⟩])
 (.ret [.cell p2 true 2]))),
 [.cell p2 true 2]⟩
def F15 : IFn := ⟨0,
(.seq (.reg [
  ⟨some p0, .move, [(.const (.bool false))], none⟩])
 (.seq (.reg [
  ⟨some p8, (.build [.snil, .snil] []), [], none⟩,
  ⟨some p9, .call, [(.const (.fn 33 [] []))], none⟩,
  ⟨some p10, .call, [(.const (.fn 19 [] [])), (.tmp p8), (.tmp p9)], none⟩,
  ⟨some p7, .move, [(.tmp p10)], none⟩,
  ⟨some p11, (.extract 0), [(.tmp p7)], none⟩,
  ⟨some p12, (.extract 1), [(.tmp p7)], none⟩,
  ⟨some p1, .move, [(.tmp p11)], none⟩,
  ⟨some p2, .move, [(.tmp p12)], none⟩])
 (.seq (.seq (.reg [
  ⟨some p13, .call, [(.const (.fn 33 [] []))], none⟩,
  ⟨some p14, .call, [(.const (.fn 16 [] [])), (.tmp p13)], none⟩,
  ⟨some p15, .not, [(.tmp p14)], none⟩,
  ⟨some p16, .move, [(.tmp p15)], none⟩,
  ⟨some p17, .call, [(.const (.fn 33 [] []))], some (p16, false)⟩,
  ⟨some p18, (.field false 1 1), [(.tmp p17)], some (p16, false)⟩,
  ⟨some p19, (.build [.snil, .snil] [(1, 1)]), [(.tmp p18)], some (p16, false)⟩,
  ⟨some p20, .call, [(.const (.fn 16 [] [])), (.tmp p19)], some (p16, false)⟩,
  ⟨some p21, .pick, [(.tmp p16), (.const (.bool true)), (.tmp p20)], none⟩,
  ⟨some p22, .move, [(.tmp p21)], none⟩,
  ⟨some p23, .move, [(.tmp p2)], some (p22, false)⟩,
  ⟨some p24, (.eql (.base .int) true), [(.tmp p23), (.const (.int .i64 (.ofNat 0)))], some (p22, false)⟩,
  ⟨some p25, .pick, [(.tmp p22), (.const (.bool true)), (.tmp p24)], none⟩,
  ⟨some p26, .move, [(.tmp p25)], none⟩,
  ⟨some p27, .move, [(.tmp p1)], some (p26, false)⟩,
  ⟨some p28, .lenL, [(.tmp p27)], some (p26, false)⟩,
  ⟨some p29, (.eql (.base .int) true), [(.tmp p28), (.const (.int .i64 (.ofNat 7)))], some (p26, false)⟩,
  ⟨some p30, .pick, [(.tmp p26), (.const (.bool true)), (.tmp p29)], none⟩,
  ⟨some p31, .move, [(.tmp p30)], none⟩,
  ⟨some p32, .move, [(.tmp p1)], some (p31, false)⟩,
  ⟨some p33, (.idxSlice 14), [(.tmp p32), (.const (.int .i64 (.ofNat 0)))], some (p31, false)⟩,
  ⟨some p34, (.load true 14), [(.tmp p33)], some (p31, false)⟩,
  ⟨some p35, (.build [(.int .i64 (.ofNat 0)), (.int .i64 (.ofNat 0)), (.int .i64 (.ofNat 0)), (.int .i64 (.ofNat 0)), (.int .i64 (.ofNat 0)), (.int .i64 (.ofNat 0)), (.int .i64 (.ofNat 0)), (.int .i64 (.ofNat 0)), (.int .i64 (.ofNat 0)), (.str []), (.str []), (.str []), (.str []), (.bool false)] [(0, 1), (3, 1)]), [(.const (.int .i64 (.ofNat 8))), (.const (.int .i64 (.ofNat 1)))], some (p31, false)⟩,
  ⟨some p36, (.eql (.struct [(0, .int), (1, .int), (2, .int), (3, .int), (4, .int), (5, .int), (6, .int), (7, .int), (8, .int), (9, .str), (10, .str), (11, .str), (12, .str), (13, .bool)]) true), [(.tmp p34), (.tmp p35)], some (p31, false)⟩,
  ⟨some p37, .pick, [(.tmp p31), (.const (.bool true)), (.tmp p36)], none⟩,
  ⟨some p38, .move, [(.tmp p37)], none⟩,
  ⟨some p39, .move, [(.tmp p1)], some (p38, false)⟩,
  ⟨some p40, (.idxSlice 14), [(.tmp p39), (.const (.int .i64 (.ofNat 5)))], some (p38, false)⟩,
  ⟨some p41, (.load true 14), [(.tmp p40)], some (p38, false)⟩,
  ⟨some p42, (.build [(.int .i64 (.ofNat 0)), (.int .i64 (.ofNat 0)), (.int .i64 (.ofNat 0)), (.int .i64 (.ofNat 0)), (.int .i64 (.ofNat 0)), (.int .i64 (.ofNat 0)), (.int .i64 (.ofNat 0)), (.int .i64 (.ofNat 0)), (.int .i64 (.ofNat 0)), (.str []), (.str []), (.str []), (.str []), (.bool false)] [(0, 1), (1, 1), (2, 1)]), [(.const (.int .i64 (.ofNat 18))), (.const (.int .i64 (.ofNat 1))), (.const (.int .i64 (.ofNat 1)))], some (p38, false)⟩,
  ⟨some p43, (.eql (.struct [(0, .int), (1, .int), (2, .int), (3, .int), (4, .int), (5, .int), (6, .int), (7, .int), (8, .int), (9, .str), (10, .str), (11, .str), (12, .str), (13, .bool)]) true), [(.tmp p41), (.tmp p42)], some (p38, false)⟩,
  ⟨some p44, .pick, [(.tmp p38), (.const (.bool true)), (.tmp p43)], none⟩])
 (.cond (.tmp p44)
 (.seq (.reg [
  ⟨some p0, .move, [(.const (.bool false))], none⟩])
 (.ret [.tmp p0]))
 .skip))
 (.seq (.reg [
  ⟨some p45, (.build [.snil, .snil] []), [], none⟩,
  ⟨some p3, (.alloc 25 [.snil, .snil]), [], none⟩,
  ⟨none, (.store 2), [(.tmp p3), (.tmp p45)], none⟩])
 (.seq (.seq (.reg [
  ⟨some p4, .move, [(.const (.int .i64 (.ofNat 0)))], none⟩])
 (.block 0 [p3] (.loop [p1, p3, p4] (.seq (.seq (.reg [
  ⟨some p46, .move, [(.tmp p4)], none⟩,
  ⟨some p47, .move, [(.tmp p1)], none⟩,
  ⟨some p48, .lenL, [(.tmp p47)], none⟩,
  ⟨some p49, (.bin .lss), [(.tmp p46), (.tmp p48)], none⟩])
 (.cond (.tmp p49)
 .skip
 (.exit 0 [p3])))
 (.seq (.block 1 [p1, p3, p4] (.seq (.drawn [
  ⟨9, ⟨some p5, (.alloc 25 [.snil, .snil]), [], none⟩, (.alloc 1), []⟩,
  ⟨0, ⟨some p53, (.load true 2), [(.tmp p3)], none⟩, (.read 0 0), []⟩,
  ⟨1, ⟨some p54, .move, [(.tmp p1)], none⟩, .pure, []⟩,
  ⟨2, ⟨some p55, .move, [(.tmp p4)], none⟩, .pure, []⟩,
  ⟨3, ⟨some p56, (.idxSlice 14), [(.tmp p54), (.tmp p55)], none⟩, .pure, [1, 2]⟩,
  ⟨4, ⟨some p57, (.load true 14), [(.tmp p56)], none⟩, (.read 0 0), [3]⟩,
  ⟨5, ⟨some p58, .call, [(.const (.fn 22 [] [])), (.tmp p53), (.tmp p57)], none⟩, .eff, [0, 4]⟩,
  ⟨6, ⟨some p52, .move, [(.tmp p58)], none⟩, .pure, [5]⟩,
  ⟨7, ⟨some p59, (.extract 0), [(.tmp p52)], none⟩, .pure, [6]⟩,
  ⟨8, ⟨some p60, (.extract 1), [(.tmp p52)], none⟩, .pure, [6]⟩,
  ⟨10, ⟨none, (.store 2), [(.tmp p5), (.tmp p59)], none⟩, .eff, [9, 7, 5, 0, 1, 2, 3, 4, 5, 6, 7, 9]⟩,
  ⟨11, ⟨some p6, .move, [(.tmp p60)], none⟩, .pure, [8, 10, 0, 1, 2, 3, 4, 5, 6, 7, 8, 9, 10]⟩])
 (.seq (.seq (.reg [
  ⟨some p61, .move, [(.tmp p6)], none⟩,
  ⟨some p62, (.eql (.base .int) true), [(.tmp p61), (.const (.int .i64 (.ofNat 0)))], none⟩])
 (.cond (.tmp p62)
 (.seq (.reg [
  ⟨some p0, .move, [(.const (.bool false))], none⟩])
 (.ret [.tmp p0]))
 .skip))
 (.reg [
  ⟨some p63, (.load true 2), [(.tmp p5)], none⟩,
  ⟨none, (.store 2), [(.tmp p3), (.tmp p63)], none⟩]))))
 (.reg [
  ⟨some p50, .move, [(.tmp p4)], none⟩,
  ⟨some p51, (.bin .add), [(.tmp p50), (.const (.int .i64 (.ofNat 1)))], none⟩,
  ⟨some p4, .move, [(.tmp p51)], none⟩]))))))
 (.seq (.drawn [
  ⟨0, ⟨some p64, (.load true 2), [(.tmp p3)], none⟩, (.read 0 1), []⟩,
  ⟨1, ⟨some p65, .call, [(.const (.fn 33 [] []))], none⟩, .eff, []⟩,
  ⟨2, ⟨some p66, .call, [(.const (.fn 18 [] [])), (.tmp p64), (.tmp p65)], none⟩, .eff, [0, 1, 1]⟩,
  ⟨3, ⟨some p0, .move, [(.tmp p66)], none⟩, .pure, [2, 2, 0, 1, 2]⟩])
 (.ret [.tmp p0]))))))),
 [.tmp p0]⟩
def F16 : IFn := ⟨1,
(.seq (.reg [
  ⟨some p1, (.box 25 2), [(.tmp p0)], none⟩,
  ⟨some p2, .move, [(.const (.bool false))], none⟩])
 (.seq (.seq (.reg [
  ⟨some p12, (.fieldAddr 0), [(.tmp p1)], none⟩,
  ⟨some p13, (.load false 1), [(.tmp p12)], none⟩,
  ⟨some p14, .lenL, [(.tmp p13)], none⟩,
  ⟨some p15, (.bin .gtr), [(.tmp p14), (.const (.int .i64 (.ofNat 8)))], none⟩,
  ⟨some p16, .move, [(.tmp p15)], none⟩,
  ⟨some p17, (.fieldAddr 1), [(.tmp p1)], some (p16, false)⟩,
  ⟨some p18, (.load false 1), [(.tmp p17)], some (p16, false)⟩,
  ⟨some p19, .lenL, [(.tmp p18)], some (p16, false)⟩,
  ⟨some p20, (.bin .gtr), [(.tmp p19), (.const (.int .i64 (.ofNat 16)))], some (p16, false)⟩,
  ⟨some p21, .pick, [(.tmp p16), (.const (.bool true)), (.tmp p20)], none⟩,
  ⟨some p22, .move, [(.tmp p21)], none⟩,
  ⟨some p23, (.fieldAddr 0), [(.tmp p1)], some (p22, false)⟩,
  ⟨some p24, (.load false 1), [(.tmp p23)], some (p22, false)⟩,
  ⟨some p25, .call, [(.const (.fn 34 [] [])), (.tmp p24), (.const (.fn 35 [] [])), (.const (.fn 36 [] []))], some (p22, false)⟩,
  ⟨some p26, .not, [(.tmp p25)], some (p22, false)⟩,
  ⟨some p27, .pick, [(.tmp p22), (.const (.bool true)), (.tmp p26)], none⟩,
  ⟨some p28, .move, [(.tmp p27)], none⟩,
  ⟨some p29, (.fieldAddr 1), [(.tmp p1)], some (p28, false)⟩,
  ⟨some p30, (.load false 1), [(.tmp p29)], some (p28, false)⟩,
  ⟨some p31, .call, [(.const (.fn 37 [] [])), (.tmp p30), (.const (.fn 38 [] [])), (.const (.fn 36 [] []))], some (p28, false)⟩,
  ⟨some p32, .not, [(.tmp p31)], some (p28, false)⟩,
  ⟨some p33, .pick, [(.tmp p28), (.const (.bool true)), (.tmp p32)], none⟩])
 (.cond (.tmp p33)
 (.seq (.reg [
  ⟨some p2, .move, [(.const (.bool false))], none⟩])
 (.ret [.tmp p2]))
 .skip))
 (.seq (.reg [
  ⟨some p34, .mkMap, [], none⟩,
  ⟨some p3, .move, [(.tmp p34)], none⟩])
 (.seq (.reg [
  ⟨some p35, .mkMap, [], none⟩,
  ⟨some p4, .move, [(.tmp p35)], none⟩])
 (.seq (.reg [
  ⟨some p5, .move, [(.const (.int .i64 (.ofNat 0)))], none⟩])
 (.seq (.seq (.reg [
  ⟨some p36, (.fieldAddr 0), [(.tmp p1)], none⟩,
  ⟨some p37, (.load false 1), [(.tmp p36)], none⟩,
  ⟨some p38, .lenL, [(.tmp p37)], none⟩,
  ⟨some p39, .move, [(.const (.int .i64 (.ofNat 0)))], none⟩])
 (.block 0 [p1, p3, p5] (.loop [p1, p3, p4, p5, p37, p38, p39] (.seq (.reg [
  ⟨some p40, (.bin .lss), [(.tmp p39), (.tmp p38)], none⟩])
 (.seq (.cond (.tmp p40)
 .skip
 (.exit 0 [p1, p3, p5]))
 (.seq (.block 1 [p1, p3, p4, p5, p37, p38, p39] (.seq (.reg [
  ⟨some p41, (.idxSlice 5), [(.tmp p37), (.tmp p39)], none⟩,
  ⟨some p42, (.load true 5), [(.tmp p41)], none⟩,
  ⟨some p7, (.alloc 60 [(.int .i64 (.ofNat 0)), (.str []), .snil, (.int .i64 (.ofNat 0)), (.int .i64 (.ofNat 0))]), [], none⟩,
  ⟨none, (.store 5), [(.tmp p7), (.tmp p42)], none⟩])
 (.seq (.reg [
  ⟨some p43, .move, [(.tmp p4)], none⟩,
  ⟨some p44, (.fieldAddr 1), [(.tmp p7)], none⟩,
  ⟨some p45, (.load false 1), [(.tmp p44)], none⟩,
  ⟨some p46, (.lookup true (.int .i64 (.ofNat 0)) false), [(.tmp p43), (.tmp p45)], none⟩,
  ⟨some p47, (.bin .add), [(.tmp p46), (.const (.int .i64 (.ofNat 1)))], none⟩,
  ⟨none, (.mapUpdate true), [(.tmp p43), (.tmp p45), (.tmp p47)], none⟩])
 (.seq (.reg [
  ⟨some p48, .move, [(.tmp p5)], none⟩,
  ⟨some p49, (.fieldAddr 2), [(.tmp p7)], none⟩,
  ⟨some p50, (.load false 1), [(.tmp p49)], none⟩,
  ⟨some p51, .lenL, [(.tmp p50)], none⟩,
  ⟨some p52, (.bin .add), [(.tmp p48), (.tmp p51)], none⟩,
  ⟨some p5, .move, [(.tmp p52)], none⟩])
 (.seq (.seq (.reg [
  ⟨some p53, (.fieldAddr 1), [(.tmp p7)], none⟩,
  ⟨some p54, (.load false 1), [(.tmp p53)], none⟩,
  ⟨some p55, .call, [(.const (.fn 39 [] [])), (.tmp p54)], none⟩,
  ⟨some p56, .not, [(.tmp p55)], none⟩,
  ⟨some p57, .move, [(.tmp p56)], none⟩,
  ⟨some p58, .move, [(.tmp p4)], some (p57, false)⟩,
  ⟨some p59, (.fieldAddr 1), [(.tmp p7)], some (p57, false)⟩,
  ⟨some p60, (.load false 1), [(.tmp p59)], some (p57, false)⟩,
  ⟨some p61, (.lookup true (.int .i64 (.ofNat 0)) false), [(.tmp p58), (.tmp p60)], some (p57, false)⟩,
  ⟨some p62, (.bin .gtr), [(.tmp p61), (.const (.int .i64 (.ofNat 1)))], some (p57, false)⟩,
  ⟨some p63, .pick, [(.tmp p57), (.const (.bool true)), (.tmp p62)], none⟩,
  ⟨some p64, .move, [(.tmp p63)], none⟩,
  ⟨some p65, (.fieldAddr 2), [(.tmp p7)], some (p64, false)⟩,
  ⟨some p66, (.load false 1), [(.tmp p65)], some (p64, false)⟩,
  ⟨some p67, .lenL, [(.tmp p66)], some (p64, false)⟩,
  ⟨some p68, (.eql (.base .int) false), [(.tmp p67), (.const (.int .i64 (.ofNat 0)))], some (p64, false)⟩,
  ⟨some p69, .pick, [(.tmp p64), (.const (.bool true)), (.tmp p68)], none⟩,
  ⟨some p70, .move, [(.tmp p69)], none⟩,
  ⟨some p71, (.fieldAddr 2), [(.tmp p7)], some (p70, false)⟩,
  ⟨some p72, (.load false 1), [(.tmp p71)], some (p70, false)⟩,
  ⟨some p73, .call, [(.const (.fn 40 [] [])), (.tmp p72), (.const (.fn 41 [] [])), (.const (.fn 42 [] []))], some (p70, false)⟩,
  ⟨some p74, .not, [(.tmp p73)], some (p70, false)⟩,
  ⟨some p75, .pick, [(.tmp p70), (.const (.bool true)), (.tmp p74)], none⟩])
 (.cond (.tmp p75)
 (.seq (.reg [
  ⟨some p2, .move, [(.const (.bool false))], none⟩])
 (.ret [.tmp p2]))
 .skip))
 (.seq (.drawn [
  ⟨0, ⟨some p76, (.fieldAddr 4), [(.tmp p7)], none⟩, .pure, []⟩,
  ⟨1, ⟨some p77, (.load false 1), [(.tmp p76)], none⟩, (.read 0 0), [0]⟩,
  ⟨2, ⟨some p78, (.eql (.base .int) false), [(.tmp p77), (.const (.int .i64 (.negSucc 0)))], none⟩, (.read 0 0), [1]⟩,
  ⟨3, ⟨some p8, .move, [(.const (.bool false))], none⟩, .pure, []⟩,
  ⟨4, ⟨some p9, .move, [(.tmp p78)], none⟩, .pure, [2, 3, 0, 1, 2, 3]⟩])
 (.seq (.seq (.reg [
  ⟨some p79, (.fieldAddr 2), [(.tmp p7)], none⟩,
  ⟨some p80, (.load false 1), [(.tmp p79)], none⟩,
  ⟨some p81, .lenL, [(.tmp p80)], none⟩,
  ⟨some p82, .move, [(.const (.int .i64 (.ofNat 0)))], none⟩])
 (.block 2 [p1, p3, p4, p5, p8, p9, p37, p38, p39] (.loop [p1, p3, p4, p5, p7, p8, p9, p37, p38, p39, p80, p81, p82] (.seq (.reg [
  ⟨some p83, (.bin .lss), [(.tmp p82), (.tmp p81)], none⟩])
 (.seq (.cond (.tmp p83)
 .skip
 (.exit 2 [p1, p3, p4, p5, p8, p9, p37, p38, p39]))
 (.seq (.block 3 [p1, p3, p4, p5, p7, p8, p9, p37, p38, p39, p80, p81, p82] (.seq (.reg [
  ⟨some p84, (.idxSlice 2), [(.tmp p80), (.tmp p82)], none⟩,
  ⟨some p85, (.load true 2), [(.tmp p84)], none⟩,
  ⟨some p11, (.alloc 73 [(.int .i64 (.ofNat 0)), (.int .i64 (.ofNat 0))]), [], none⟩,
  ⟨none, (.store 2), [(.tmp p11), (.tmp p85)], none⟩])
 (.seq (.reg [
  ⟨some p86, .move, [(.tmp p3)], none⟩,
  ⟨some p87, (.fieldAddr 1), [(.tmp p11)], none⟩,
  ⟨some p88, (.load false 1), [(.tmp p87)], none⟩,
  ⟨some p89, (.lookup false (.int .i64 (.ofNat 0)) false), [(.tmp p86), (.tmp p88)], none⟩,
  ⟨some p90, (.bin .add), [(.tmp p89), (.const (.int .i64 (.ofNat 1)))], none⟩,
  ⟨none, (.mapUpdate false), [(.tmp p86), (.tmp p88), (.tmp p90)], none⟩])
 (.seq (.reg [
  ⟨some p91, .move, [(.tmp p8)], none⟩,
  ⟨some p92, .move, [(.tmp p91)], none⟩,
  ⟨some p93, (.fieldAddr 0), [(.tmp p11)], some (p92, false)⟩,
  ⟨some p94, (.load false 1), [(.tmp p93)], some (p92, false)⟩,
  ⟨some p95, (.fieldAddr 3), [(.tmp p7)], some (p92, false)⟩,
  ⟨some p96, (.load false 1), [(.tmp p95)], some (p92, false)⟩,
  ⟨some p97, (.eql (.base .int) false), [(.tmp p94), (.tmp p96)], some (p92, false)⟩,
  ⟨some p98, .pick, [(.tmp p92), (.const (.bool true)), (.tmp p97)], none⟩,
  ⟨some p8, .move, [(.tmp p98)], none⟩])
 (.reg [
  ⟨some p99, .move, [(.tmp p9)], none⟩,
  ⟨some p100, .move, [(.tmp p99)], none⟩,
  ⟨some p101, (.fieldAddr 0), [(.tmp p11)], some (p100, false)⟩,
  ⟨some p102, (.load false 1), [(.tmp p101)], some (p100, false)⟩,
  ⟨some p103, (.fieldAddr 4), [(.tmp p7)], some (p100, false)⟩,
  ⟨some p104, (.load false 1), [(.tmp p103)], some (p100, false)⟩,
  ⟨some p105, (.eql (.base .int) false), [(.tmp p102), (.tmp p104)], some (p100, false)⟩,
  ⟨some p106, .move, [(.tmp p105)], some (p100, false)⟩,
  ⟨some p107, (.fieldAddr 4), [(.tmp p7)], some (p106, true)⟩,
  ⟨some p108, (.load false 1), [(.tmp p107)], some (p106, true)⟩,
  ⟨some p109, (.fieldAddr 3), [(.tmp p7)], some (p106, true)⟩,
  ⟨some p110, (.load false 1), [(.tmp p109)], some (p106, true)⟩,
  ⟨some p111, (.eql (.base .int) true), [(.tmp p108), (.tmp p110)], some (p106, true)⟩,
  ⟨some p112, .pick, [(.tmp p106), (.tmp p111), (.const (.bool false))], some (p100, false)⟩,
  ⟨some p113, .pick, [(.tmp p100), (.const (.bool true)), (.tmp p112)], none⟩,
  ⟨some p9, .move, [(.tmp p113)], none⟩])))))
 (.reg [
  ⟨some p114, (.bin .add), [(.tmp p82), (.const (.int .i64 (.ofNat 1)))], none⟩,
  ⟨some p82, .move, [(.tmp p114)], none⟩])))))))
 (.seq (.reg [
  ⟨some p115, .move, [(.tmp p8)], none⟩,
  ⟨some p116, .not, [(.tmp p115)], none⟩,
  ⟨some p117, .move, [(.tmp p116)], none⟩,
  ⟨some p118, .move, [(.tmp p9)], some (p117, false)⟩,
  ⟨some p119, .not, [(.tmp p118)], some (p117, false)⟩,
  ⟨some p120, .pick, [(.tmp p117), (.const (.bool true)), (.tmp p119)], none⟩])
 (.cond (.tmp p120)
 (.seq (.reg [
  ⟨some p2, .move, [(.const (.bool false))], none⟩])
 (.ret [.tmp p2]))
 .skip)))))))))
 (.reg [
  ⟨some p121, (.bin .add), [(.tmp p39), (.const (.int .i64 (.ofNat 1)))], none⟩,
  ⟨some p39, .move, [(.tmp p121)], none⟩])))))))
 (.seq (.seq (.reg [
  ⟨some p122, .move, [(.tmp p5)], none⟩,
  ⟨some p123, (.bin .gtr), [(.tmp p122), (.const (.int .i64 (.ofNat 32)))], none⟩])
 (.cond (.tmp p123)
 (.seq (.reg [
  ⟨some p2, .move, [(.const (.bool false))], none⟩])
 (.ret [.tmp p2]))
 .skip))
 (.seq (.reg [
  ⟨some p124, (.load true 2), [(.tmp p1)], none⟩,
  ⟨some p125, .move, [(.tmp p3)], none⟩,
  ⟨some p126, .call, [(.const (.fn 43 [] [])), (.tmp p124), (.tmp p125)], none⟩,
  ⟨some p2, .move, [(.tmp p126)], none⟩])
 (.ret [.tmp p2]))))))))),
 [.tmp p2]⟩
def F18 : IFn := ⟨2,
(.seq (.reg [
  ⟨some p2, (.box 25 2), [(.tmp p0)], none⟩,
  ⟨some p3, (.box 25 2), [(.tmp p1)], none⟩,
  ⟨some p4, .move, [(.const (.bool false))], none⟩])
 (.seq (.seq (.reg [
  ⟨some p13, (.fieldAddr 0), [(.tmp p2)], none⟩,
  ⟨some p14, (.load false 1), [(.tmp p13)], none⟩,
  ⟨some p15, .lenL, [(.tmp p14)], none⟩,
  ⟨some p16, (.fieldAddr 0), [(.tmp p3)], none⟩,
  ⟨some p17, (.load false 1), [(.tmp p16)], none⟩,
  ⟨some p18, .lenL, [(.tmp p17)], none⟩,
  ⟨some p19, (.eql (.base .int) true), [(.tmp p15), (.tmp p18)], none⟩,
  ⟨some p20, .move, [(.tmp p19)], none⟩,
  ⟨some p21, (.fieldAddr 1), [(.tmp p2)], some (p20, false)⟩,
  ⟨some p22, (.load false 1), [(.tmp p21)], some (p20, false)⟩,
  ⟨some p23, .lenL, [(.tmp p22)], some (p20, false)⟩,
  ⟨some p24, (.fieldAddr 1), [(.tmp p3)], some (p20, false)⟩,
  ⟨some p25, (.load false 1), [(.tmp p24)], some (p20, false)⟩,
  ⟨some p26, .lenL, [(.tmp p25)], some (p20, false)⟩,
  ⟨some p27, (.eql (.base .int) true), [(.tmp p23), (.tmp p26)], some (p20, false)⟩,
  ⟨some p28, .pick, [(.tmp p20), (.const (.bool true)), (.tmp p27)], none⟩])
 (.cond (.tmp p28)
 (.seq (.reg [
  ⟨some p4, .move, [(.const (.bool false))], none⟩])
 (.ret [.tmp p4]))
 .skip))
 (.seq (.seq (.reg [
  ⟨some p5, .move, [(.const (.int .i64 (.ofNat 0)))], none⟩])
 (.block 0 [p2, p3] (.loop [p2, p3, p5] (.seq (.seq (.reg [
  ⟨some p29, .move, [(.tmp p5)], none⟩,
  ⟨some p30, (.fieldAddr 0), [(.tmp p2)], none⟩,
  ⟨some p31, (.load false 1), [(.tmp p30)], none⟩,
  ⟨some p32, .lenL, [(.tmp p31)], none⟩,
  ⟨some p33, (.bin .lss), [(.tmp p29), (.tmp p32)], none⟩])
 (.cond (.tmp p33)
 .skip
 (.exit 0 [p2, p3])))
 (.seq (.block 1 [p2, p3, p5] (.seq (.drawn [
  ⟨0, ⟨some p36, (.fieldAddr 0), [(.tmp p2)], none⟩, .pure, []⟩,
  ⟨1, ⟨some p37, (.load false 1), [(.tmp p36)], none⟩, (.read 0 0), [0]⟩,
  ⟨2, ⟨some p38, .move, [(.tmp p5)], none⟩, .pure, []⟩,
  ⟨3, ⟨some p39, (.idxSlice 5), [(.tmp p37), (.tmp p38)], none⟩, .pure, [1, 2]⟩,
  ⟨4, ⟨some p40, (.load true 5), [(.tmp p39)], none⟩, (.read 0 0), [3]⟩,
  ⟨5, ⟨some p41, (.fieldAddr 0), [(.tmp p3)], none⟩, .pure, []⟩,
  ⟨6, ⟨some p42, (.load false 1), [(.tmp p41)], none⟩, (.read 0 1), [5]⟩,
  ⟨7, ⟨some p43, .move, [(.tmp p5)], none⟩, .pure, []⟩,
  ⟨8, ⟨some p44, (.idxSlice 5), [(.tmp p42), (.tmp p43)], none⟩, .pure, [6, 7]⟩,
  ⟨9, ⟨some p45, (.load true 5), [(.tmp p44)], none⟩, (.read 0 1), [8]⟩,
  ⟨10, ⟨some p6, (.alloc 60 [(.int .i64 (.ofNat 0)), (.str []), .snil, (.int .i64 (.ofNat 0)), (.int .i64 (.ofNat 0))]), [], none⟩, (.alloc 0), []⟩,
  ⟨11, ⟨some p7, (.alloc 60 [(.int .i64 (.ofNat 0)), (.str []), .snil, (.int .i64 (.ofNat 0)), (.int .i64 (.ofNat 0))]), [], none⟩, (.alloc 0), []⟩,
  ⟨12, ⟨none, (.store 5), [(.tmp p6), (.tmp p40)], none⟩, .eff, [10, 4, 0, 1, 2, 3, 4, 10, 11]⟩,
  ⟨13, ⟨none, (.store 5), [(.tmp p7), (.tmp p45)], none⟩, .eff, [11, 9, 12, 0, 1, 2, 3, 4, 5, 6, 7, 8, 9, 10, 11, 12]⟩])
 (.seq (.seq (.reg [
  ⟨some p46, (.fieldAddr 0), [(.tmp p6)], none⟩,
  ⟨some p47, (.load false 1), [(.tmp p46)], none⟩,
  ⟨some p48, (.fieldAddr 0), [(.tmp p7)], none⟩,
  ⟨some p49, (.load false 1), [(.tmp p48)], none⟩,
  ⟨some p50, (.eql (.base .int) true), [(.tmp p47), (.tmp p49)], none⟩,
  ⟨some p51, .move, [(.tmp p50)], none⟩,
  ⟨some p52, (.fieldAddr 1), [(.tmp p6)], some (p51, false)⟩,
  ⟨some p53, (.load false 1), [(.tmp p52)], some (p51, false)⟩,
  ⟨some p54, (.fieldAddr 1), [(.tmp p7)], some (p51, false)⟩,
  ⟨some p55, (.load false 1), [(.tmp p54)], some (p51, false)⟩,
  ⟨some p56, (.eql (.base .str) true), [(.tmp p53), (.tmp p55)], some (p51, false)⟩,
  ⟨some p57, .pick, [(.tmp p51), (.const (.bool true)), (.tmp p56)], none⟩,
  ⟨some p58, .move, [(.tmp p57)], none⟩,
  ⟨some p59, (.fieldAddr 3), [(.tmp p6)], some (p58, false)⟩,
  ⟨some p60, (.load false 1), [(.tmp p59)], some (p58, false)⟩,
  ⟨some p61, (.fieldAddr 3), [(.tmp p7)], some (p58, false)⟩,
  ⟨some p62, (.load false 1), [(.tmp p61)], some (p58, false)⟩,
  ⟨some p63, (.eql (.base .int) true), [(.tmp p60), (.tmp p62)], some (p58, false)⟩,
  ⟨some p64, .pick, [(.tmp p58), (.const (.bool true)), (.tmp p63)], none⟩,
  ⟨some p65, .move, [(.tmp p64)], none⟩,
  ⟨some p66, (.fieldAddr 4), [(.tmp p6)], some (p65, false)⟩,
  ⟨some p67, (.load false 1), [(.tmp p66)], some (p65, false)⟩,
  ⟨some p68, (.fieldAddr 4), [(.tmp p7)], some (p65, false)⟩,
  ⟨some p69, (.load false 1), [(.tmp p68)], some (p65, false)⟩,
  ⟨some p70, (.eql (.base .int) true), [(.tmp p67), (.tmp p69)], some (p65, false)⟩,
  ⟨some p71, .pick, [(.tmp p65), (.const (.bool true)), (.tmp p70)], none⟩,
  ⟨some p72, .move, [(.tmp p71)], none⟩,
  ⟨some p73, (.fieldAddr 2), [(.tmp p6)], some (p72, false)⟩,
  ⟨some p74, (.load false 1), [(.tmp p73)], some (p72, false)⟩,
  ⟨some p75, .lenL, [(.tmp p74)], some (p72, false)⟩,
  ⟨some p76, (.fieldAddr 2), [(.tmp p7)], some (p72, false)⟩,
  ⟨some p77, (.load false 1), [(.tmp p76)], some (p72, false)⟩,
  ⟨some p78, .lenL, [(.tmp p77)], some (p72, false)⟩,
  ⟨some p79, (.eql (.base .int) true), [(.tmp p75), (.tmp p78)], some (p72, false)⟩,
  ⟨some p80, .pick, [(.tmp p72), (.const (.bool true)), (.tmp p79)], none⟩])
 (.cond (.tmp p80)
 (.seq (.reg [
  ⟨some p4, .move, [(.const (.bool false))], none⟩])
 (.ret [.tmp p4]))
 .skip))
 (.seq (.reg [
  ⟨some p8, .move, [(.const (.int .i64 (.ofNat 0)))], none⟩])
 (.block 2 [p2, p3, p5] (.loop [p2, p3, p5, p6, p7, p8] (.seq (.seq (.reg [
  ⟨some p81, .move, [(.tmp p8)], none⟩,
  ⟨some p82, (.fieldAddr 2), [(.tmp p6)], none⟩,
  ⟨some p83, (.load false 1), [(.tmp p82)], none⟩,
  ⟨some p84, .lenL, [(.tmp p83)], none⟩,
  ⟨some p85, (.bin .lss), [(.tmp p81), (.tmp p84)], none⟩])
 (.cond (.tmp p85)
 .skip
 (.exit 2 [p2, p3, p5])))
 (.seq (.block 3 [p2, p3, p5, p6, p7, p8] (.seq (.drawn [
  ⟨0, ⟨some p88, (.fieldAddr 2), [(.tmp p6)], none⟩, .pure, []⟩,
  ⟨1, ⟨some p89, (.load false 1), [(.tmp p88)], none⟩, (.read 0 0), [0]⟩,
  ⟨2, ⟨some p90, .move, [(.tmp p8)], none⟩, .pure, []⟩,
  ⟨3, ⟨some p91, (.idxSlice 2), [(.tmp p89), (.tmp p90)], none⟩, .pure, [1, 2]⟩,
  ⟨4, ⟨some p92, (.load true 2), [(.tmp p91)], none⟩, (.read 0 0), [3]⟩,
  ⟨5, ⟨some p93, (.fieldAddr 2), [(.tmp p7)], none⟩, .pure, []⟩,
  ⟨6, ⟨some p94, (.load false 1), [(.tmp p93)], none⟩, (.read 0 0), [5]⟩,
  ⟨7, ⟨some p95, .move, [(.tmp p8)], none⟩, .pure, []⟩,
  ⟨8, ⟨some p96, (.idxSlice 2), [(.tmp p94), (.tmp p95)], none⟩, .pure, [6, 7]⟩,
  ⟨9, ⟨some p97, (.load true 2), [(.tmp p96)], none⟩, (.read 0 0), [8]⟩,
  ⟨10, ⟨some p98, (.eql (.struct [(0, .int), (1, .int)]) true), [(.tmp p92), (.tmp p97)], none⟩, (.read 0 0), [4, 9]⟩])
 (.cond (.tmp p98)
 (.seq (.reg [
  ⟨some p4, .move, [(.const (.bool false))], none⟩])
 (.ret [.tmp p4]))
 .skip)))
 (.reg [
  ⟨some p86, .move, [(.tmp p8)], none⟩,
  ⟨some p87, (.bin .add), [(.tmp p86), (.const (.int .i64 (.ofNat 1)))], none⟩,
  ⟨some p8, .move, [(.tmp p87)], none⟩])))))))))
 (.reg [
  ⟨some p34, .move, [(.tmp p5)], none⟩,
  ⟨some p35, (.bin .add), [(.tmp p34), (.const (.int .i64 (.ofNat 1)))], none⟩,
  ⟨some p5, .move, [(.tmp p35)], none⟩]))))))
 (.seq (.seq (.reg [
  ⟨some p9, .move, [(.const (.int .i64 (.ofNat 0)))], none⟩])
 (.block 4 [] (.loop [p2, p3, p9] (.seq (.seq (.reg [
  ⟨some p99, .move, [(.tmp p9)], none⟩,
  ⟨some p100, (.fieldAddr 1), [(.tmp p2)], none⟩,
  ⟨some p101, (.load false 1), [(.tmp p100)], none⟩,
  ⟨some p102, .lenL, [(.tmp p101)], none⟩,
  ⟨some p103, (.bin .lss), [(.tmp p99), (.tmp p102)], none⟩])
 (.cond (.tmp p103)
 .skip
 (.exit 4 [])))
 (.seq (.block 5 [p2, p3, p9] (.seq (.drawn [
  ⟨0, ⟨some p106, (.fieldAddr 1), [(.tmp p2)], none⟩, .pure, []⟩,
  ⟨1, ⟨some p107, (.load false 1), [(.tmp p106)], none⟩, (.read 0 0), [0]⟩,
  ⟨2, ⟨some p108, .move, [(.tmp p9)], none⟩, .pure, []⟩,
  ⟨3, ⟨some p109, (.idxSlice 6), [(.tmp p107), (.tmp p108)], none⟩, .pure, [1, 2]⟩,
  ⟨4, ⟨some p110, (.load true 6), [(.tmp p109)], none⟩, (.read 0 0), [3]⟩,
  ⟨5, ⟨some p111, (.fieldAddr 1), [(.tmp p3)], none⟩, .pure, []⟩,
  ⟨6, ⟨some p112, (.load false 1), [(.tmp p111)], none⟩, (.read 0 1), [5]⟩,
  ⟨7, ⟨some p113, .move, [(.tmp p9)], none⟩, .pure, []⟩,
  ⟨8, ⟨some p114, (.idxSlice 6), [(.tmp p112), (.tmp p113)], none⟩, .pure, [6, 7]⟩,
  ⟨9, ⟨some p115, (.load true 6), [(.tmp p114)], none⟩, (.read 0 1), [8]⟩,
  ⟨10, ⟨some p10, (.alloc 66 [(.int .i64 (.ofNat 0)), (.str []), .snil, (.int .i64 (.ofNat 0)), (.int .i64 (.ofNat 0)), (.bool false)]), [], none⟩, (.alloc 0), []⟩,
  ⟨11, ⟨some p11, (.alloc 66 [(.int .i64 (.ofNat 0)), (.str []), .snil, (.int .i64 (.ofNat 0)), (.int .i64 (.ofNat 0)), (.bool false)]), [], none⟩, (.alloc 0), []⟩,
  ⟨12, ⟨none, (.store 6), [(.tmp p10), (.tmp p110)], none⟩, .eff, [10, 4, 0, 1, 2, 3, 4, 10, 11]⟩,
  ⟨13, ⟨none, (.store 6), [(.tmp p11), (.tmp p115)], none⟩, .eff, [11, 9, 12, 0, 1, 2, 3, 4, 5, 6, 7, 8, 9, 10, 11, 12]⟩])
 (.seq (.seq (.reg [
  ⟨some p116, (.fieldAddr 0), [(.tmp p10)], none⟩,
  ⟨some p117, (.load false 1), [(.tmp p116)], none⟩,
  ⟨some p118, (.fieldAddr 0), [(.tmp p11)], none⟩,
  ⟨some p119, (.load false 1), [(.tmp p118)], none⟩,
  ⟨some p120, (.eql (.base .int) true), [(.tmp p117), (.tmp p119)], none⟩,
  ⟨some p121, .move, [(.tmp p120)], none⟩,
  ⟨some p122, (.fieldAddr 1), [(.tmp p10)], some (p121, false)⟩,
  ⟨some p123, (.load false 1), [(.tmp p122)], some (p121, false)⟩,
  ⟨some p124, (.fieldAddr 1), [(.tmp p11)], some (p121, false)⟩,
  ⟨some p125, (.load false 1), [(.tmp p124)], some (p121, false)⟩,
  ⟨some p126, (.eql (.base .str) true), [(.tmp p123), (.tmp p125)], some (p121, false)⟩,
  ⟨some p127, .pick, [(.tmp p121), (.const (.bool true)), (.tmp p126)], none⟩,
  ⟨some p128, .move, [(.tmp p127)], none⟩,
  ⟨some p129, (.fieldAddr 3), [(.tmp p10)], some (p128, false)⟩,
  ⟨some p130, (.load false 1), [(.tmp p129)], some (p128, false)⟩,
  ⟨some p131, (.fieldAddr 3), [(.tmp p11)], some (p128, false)⟩,
  ⟨some p132, (.load false 1), [(.tmp p131)], some (p128, false)⟩,
  ⟨some p133, (.eql (.base .int) true), [(.tmp p130), (.tmp p132)], some (p128, false)⟩,
  ⟨some p134, .pick, [(.tmp p128), (.const (.bool true)), (.tmp p133)], none⟩,
  ⟨some p135, .move, [(.tmp p134)], none⟩,
  ⟨some p136, (.fieldAddr 4), [(.tmp p10)], some (p135, false)⟩,
  ⟨some p137, (.load false 1), [(.tmp p136)], some (p135, false)⟩,
  ⟨some p138, (.fieldAddr 4), [(.tmp p11)], some (p135, false)⟩,
  ⟨some p139, (.load false 1), [(.tmp p138)], some (p135, false)⟩,
  ⟨some p140, (.eql (.base .int) true), [(.tmp p137), (.tmp p139)], some (p135, false)⟩,
  ⟨some p141, .pick, [(.tmp p135), (.const (.bool true)), (.tmp p140)], none⟩,
  ⟨some p142, .move, [(.tmp p141)], none⟩,
  ⟨some p143, (.fieldAddr 5), [(.tmp p10)], some (p142, false)⟩,
  ⟨some p144, (.load false 1), [(.tmp p143)], some (p142, false)⟩,
  ⟨some p145, (.fieldAddr 5), [(.tmp p11)], some (p142, false)⟩,
  ⟨some p146, (.load false 1), [(.tmp p145)], some (p142, false)⟩,
  ⟨some p147, (.eql (.base .bool) true), [(.tmp p144), (.tmp p146)], some (p142, false)⟩,
  ⟨some p148, .pick, [(.tmp p142), (.const (.bool true)), (.tmp p147)], none⟩,
  ⟨some p149, .move, [(.tmp p148)], none⟩,
  ⟨some p150, (.fieldAddr 2), [(.tmp p10)], some (p149, false)⟩,
  ⟨some p151, (.load false 1), [(.tmp p150)], some (p149, false)⟩,
  ⟨some p152, .lenL, [(.tmp p151)], some (p149, false)⟩,
  ⟨some p153, (.fieldAddr 2), [(.tmp p11)], some (p149, false)⟩,
  ⟨some p154, (.load false 1), [(.tmp p153)], some (p149, false)⟩,
  ⟨some p155, .lenL, [(.tmp p154)], some (p149, false)⟩,
  ⟨some p156, (.eql (.base .int) true), [(.tmp p152), (.tmp p155)], some (p149, false)⟩,
  ⟨some p157, .pick, [(.tmp p149), (.const (.bool true)), (.tmp p156)], none⟩])
 (.cond (.tmp p157)
 (.seq (.reg [
  ⟨some p4, .move, [(.const (.bool false))], none⟩])
 (.ret [.tmp p4]))
 .skip))
 (.seq (.reg [
  ⟨some p12, .move, [(.const (.int .i64 (.ofNat 0)))], none⟩])
 (.block 6 [p2, p3, p9] (.loop [p2, p3, p9, p10, p11, p12] (.seq (.seq (.reg [
  ⟨some p158, .move, [(.tmp p12)], none⟩,
  ⟨some p159, (.fieldAddr 2), [(.tmp p10)], none⟩,
  ⟨some p160, (.load false 1), [(.tmp p159)], none⟩,
  ⟨some p161, .lenL, [(.tmp p160)], none⟩,
  ⟨some p162, (.bin .lss), [(.tmp p158), (.tmp p161)], none⟩])
 (.cond (.tmp p162)
 .skip
 (.exit 6 [p2, p3, p9])))
 (.seq (.block 7 [p2, p3, p9, p10, p11, p12] (.seq (.drawn [
  ⟨0, ⟨some p165, (.fieldAddr 2), [(.tmp p10)], none⟩, .pure, []⟩,
  ⟨1, ⟨some p166, (.load false 1), [(.tmp p165)], none⟩, (.read 0 0), [0]⟩,
  ⟨2, ⟨some p167, .move, [(.tmp p12)], none⟩, .pure, []⟩,
  ⟨3, ⟨some p168, (.idxSlice 7), [(.tmp p166), (.tmp p167)], none⟩, .pure, [1, 2]⟩,
  ⟨4, ⟨some p169, (.load true 7), [(.tmp p168)], none⟩, (.read 0 0), [3]⟩,
  ⟨5, ⟨some p170, (.fieldAddr 2), [(.tmp p11)], none⟩, .pure, []⟩,
  ⟨6, ⟨some p171, (.load false 1), [(.tmp p170)], none⟩, (.read 0 0), [5]⟩,
  ⟨7, ⟨some p172, .move, [(.tmp p12)], none⟩, .pure, []⟩,
  ⟨8, ⟨some p173, (.idxSlice 7), [(.tmp p171), (.tmp p172)], none⟩, .pure, [6, 7]⟩,
  ⟨9, ⟨some p174, (.load true 7), [(.tmp p173)], none⟩, (.read 0 0), [8]⟩,
  ⟨10, ⟨some p175, (.eql (.struct [(0, .int), (1, .int), (2, .int), (3, .int), (4, .int), (5, .int), (6, .int)]) true), [(.tmp p169), (.tmp p174)], none⟩, (.read 0 0), [4, 9]⟩])
 (.cond (.tmp p175)
 (.seq (.reg [
  ⟨some p4, .move, [(.const (.bool false))], none⟩])
 (.ret [.tmp p4]))
 .skip)))
 (.reg [
  ⟨some p163, .move, [(.tmp p12)], none⟩,
  ⟨some p164, (.bin .add), [(.tmp p163), (.const (.int .i64 (.ofNat 1)))], none⟩,
  ⟨some p12, .move, [(.tmp p164)], none⟩])))))))))
 (.reg [
  ⟨some p104, .move, [(.tmp p9)], none⟩,
  ⟨some p105, (.bin .add), [(.tmp p104), (.const (.int .i64 (.ofNat 1)))], none⟩,
  ⟨some p9, .move, [(.tmp p105)], none⟩]))))))
 (.seq (.reg [
  ⟨some p4, .move, [(.const (.bool true))], none⟩])
 (.ret [.tmp p4])))))),
 [.tmp p4]⟩
def F19 : IFn := ⟨2,
(.seq (.reg [
  ⟨some p2, (.box 25 2), [(.tmp p0)], none⟩,
  ⟨some p3, (.box 25 2), [(.tmp p1)], none⟩,
  ⟨some p4, .move, [(.const .snil)], none⟩,
  ⟨some p5, .move, [(.const (.int .i64 (.ofNat 0)))], none⟩])
 (.seq (.seq (.reg [
  ⟨some p10, (.load true 2), [(.tmp p2)], none⟩,
  ⟨some p11, .call, [(.const (.fn 16 [] [])), (.tmp p10)], none⟩,
  ⟨some p12, .not, [(.tmp p11)], none⟩,
  ⟨some p13, .move, [(.tmp p12)], none⟩,
  ⟨some p14, (.load true 2), [(.tmp p3)], some (p13, false)⟩,
  ⟨some p15, .call, [(.const (.fn 16 [] [])), (.tmp p14)], some (p13, false)⟩,
  ⟨some p16, .not, [(.tmp p15)], some (p13, false)⟩,
  ⟨some p17, .pick, [(.tmp p13), (.const (.bool true)), (.tmp p16)], none⟩])
 (.cond (.tmp p17)
 (.seq (.reg [
  ⟨some p4, .move, [(.const .snil)], none⟩,
  ⟨some p5, .move, [(.const (.int .i64 (.ofNat 80)))], none⟩])
 (.ret [.tmp p4, .tmp p5]))
 .skip))
 (.seq (.reg [
  ⟨some p6, (.alloc 84 [.snil, .snil, .snil, .snil, .snil, .snil, .snil, .snil, .snil, .snil, .snil, .snil, .snil]), [], none⟩])
 (.seq (.drawn [
  ⟨0, ⟨some p18, (.load true 2), [(.tmp p2)], none⟩, (.read 0 0), []⟩,
  ⟨1, ⟨some p19, .call, [(.const (.fn 49 [] [])), (.tmp p18)], none⟩, .eff, [0]⟩,
  ⟨2, ⟨some p20, (.load true 2), [(.tmp p3)], none⟩, (.read 0 1), []⟩,
  ⟨3, ⟨some p21, .call, [(.const (.fn 49 [] [])), (.tmp p20)], none⟩, .eff, [2, 1]⟩,
  ⟨4, ⟨some p22, (.mkFunc 51 0), [(.tmp p6)], none⟩, .pure, []⟩,
  ⟨5, ⟨some p23, (.mkFunc 54 0), [(.tmp p6)], none⟩, .pure, []⟩,
  ⟨6, ⟨some p24, .call, [(.const (.fn 48 [] [])), (.tmp p19), (.tmp p21), (.const (.fn 50 [] [])), (.tmp p22), (.const (.fn 53 [] [])), (.tmp p23)], none⟩, .eff, [1, 3, 4, 5, 3]⟩])
 (.seq (.reg [
  ⟨some p25, (.fieldAddr 1), [(.tmp p2)], none⟩,
  ⟨some p26, (.load false 1), [(.tmp p25)], none⟩,
  ⟨some p27, (.fieldAddr 1), [(.tmp p3)], none⟩,
  ⟨some p28, (.load false 1), [(.tmp p27)], none⟩,
  ⟨some p29, (.mkFunc 56 0), [(.tmp p6)], none⟩,
  ⟨some p30, (.mkFunc 57 1), [(.tmp p6)], none⟩,
  ⟨some p31, (.mkFunc 58 0), [(.tmp p6)], none⟩,
  ⟨some p32, .call, [(.const (.fn 55 [] [])), (.tmp p26), (.tmp p28), (.const (.fn 38 [] [])), (.tmp p29), (.tmp p30), (.tmp p31)], none⟩])
 (.seq (.reg [
  ⟨some p33, (.fieldAddr 0), [(.tmp p2)], none⟩,
  ⟨some p34, (.load false 1), [(.tmp p33)], none⟩,
  ⟨some p35, (.fieldAddr 0), [(.tmp p3)], none⟩,
  ⟨some p36, (.load false 1), [(.tmp p35)], none⟩,
  ⟨some p37, (.mkFunc 61 0), [(.tmp p6)], none⟩,
  ⟨some p38, (.mkFunc 62 1), [(.tmp p6)], none⟩,
  ⟨some p39, (.mkFunc 63 0), [(.tmp p6)], none⟩,
  ⟨some p40, .call, [(.const (.fn 60 [] [])), (.tmp p34), (.tmp p36), (.const (.fn 35 [] [])), (.tmp p37), (.tmp p38), (.tmp p39)], none⟩])
 (.seq (.reg [
  ⟨some p7, .move, [(.const .snil)], none⟩])
 (.seq (.seq (.reg [
  ⟨some p41, (.load true 13), [(.tmp p6)], none⟩,
  ⟨some p42, .move, [(.const (.int .i64 (.ofNat 0)))], none⟩])
 (.block 0 [p7] (.loop [p7, p41, p42] (.seq (.reg [
  ⟨some p43, (.bin .lss), [(.tmp p42), (.const (.int .i64 (.ofNat 13)))], none⟩])
 (.seq (.cond (.tmp p43)
 .skip
 (.exit 0 [p7]))
 (.seq (.block 1 [p7, p41, p42] (.seq (.reg [
  ⟨some p44, (.idxAgg false 1 13), [(.tmp p41), (.tmp p42)], none⟩,
  ⟨some p9, .move, [(.tmp p44)], none⟩])
 (.reg [
  ⟨some p45, .move, [(.tmp p7)], none⟩,
  ⟨some p46, .move, [(.tmp p9)], none⟩,
  ⟨some p47, (.append 38 14 144), [(.tmp p45), (.tmp p46)], none⟩,
  ⟨some p7, .move, [(.tmp p47)], none⟩])))
 (.reg [
  ⟨some p48, (.bin .add), [(.tmp p42), (.const (.int .i64 (.ofNat 1)))], none⟩,
  ⟨some p42, .move, [(.tmp p48)], none⟩])))))))
 (.seq (.reg [
  ⟨some p49, .move, [(.tmp p7)], none⟩,
  ⟨some p4, .move, [(.tmp p49)], none⟩,
  ⟨some p5, .move, [(.const (.int .i64 (.ofNat 0)))], none⟩])
 (.ret [.tmp p4, .tmp p5])))))))))),
 [.tmp p4, .tmp p5]⟩
def F22 : IFn := ⟨2,
(.seq (.reg [
  ⟨some p2, (.box 25 2), [(.tmp p0)], none⟩,
  ⟨some p3, (.box 38 14), [(.tmp p1)], none⟩,
  ⟨some p4, (.alloc 25 [.snil, .snil]), [], none⟩,
  ⟨some p5, .move, [(.const (.int .i64 (.ofNat 0)))], none⟩])
 (.seq (.reg [
  ⟨some p8, (.load true 2), [(.tmp p2)], none⟩,
  ⟨some p9, .call, [(.const (.fn 70 [] [])), (.tmp p8)], none⟩,
  ⟨some p6, (.alloc 25 [.snil, .snil]), [], none⟩,
  ⟨none, (.store 2), [(.tmp p6), (.tmp p9)], none⟩])
 (.seq (.reg [
  ⟨some p7, .move, [(.const (.bool false))], none⟩])
 (.seq (.seq (.reg [
  ⟨some p10, (.fieldAddr 0), [(.tmp p3)], none⟩,
  ⟨some p11, (.load false 1), [(.tmp p10)], none⟩])
 (.block 0 [p4, p6, p7] (.seq (.seq (.reg [
  ⟨some p13, (.eql (.base .int) false), [(.tmp p11), (.const (.int .i64 (.ofNat 8)))], none⟩,
  ⟨some p12, .move, [(.tmp p13)], none⟩])
 (.cond (.tmp p12)
 .skip
 (.reg [
  ⟨some p14, (.eql (.base .int) false), [(.tmp p11), (.const (.int .i64 (.ofNat 9)))], none⟩,
  ⟨some p12, .move, [(.tmp p14)], none⟩])))
 (.cond (.tmp p12)
 (.reg [
  ⟨some p15, (.fieldAddr 3), [(.tmp p3)], none⟩,
  ⟨some p16, (.load false 1), [(.tmp p15)], none⟩,
  ⟨some p17, .call, [(.const (.fn 36 [] [])), (.tmp p16)], none⟩,
  ⟨some p18, .move, [(.tmp p17)], none⟩,
  ⟨some p19, (.fieldAddr 1), [(.tmp p2)], some (p18, true)⟩,
  ⟨some p20, (.load false 1), [(.tmp p19)], some (p18, true)⟩,
  ⟨some p21, (.mkFunc 72 0), [(.tmp p3)], some (p18, true)⟩,
  ⟨some p22, .call, [(.const (.fn 71 [] [])), (.tmp p20), (.tmp p21)], some (p18, true)⟩,
  ⟨some p23, .not, [(.tmp p22)], some (p18, true)⟩,
  ⟨some p24, .pick, [(.tmp p18), (.tmp p23), (.const (.bool false))], none⟩,
  ⟨some p7, .move, [(.tmp p24)], none⟩])
 (.seq (.reg [
  ⟨some p26, (.eql (.base .int) false), [(.tmp p11), (.const (.int .i64 (.ofNat 10)))], none⟩,
  ⟨some p25, .move, [(.tmp p26)], none⟩])
 (.cond (.tmp p25)
 (.seq (.reg [
  ⟨some p27, (.fieldAddr 2), [(.tmp p3)], none⟩,
  ⟨some p28, (.load false 1), [(.tmp p27)], none⟩,
  ⟨some p29, .call, [(.const (.fn 36 [] [])), (.tmp p28)], none⟩,
  ⟨some p30, .move, [(.tmp p29)], none⟩,
  ⟨some p31, (.fieldAddr 1), [(.tmp p2)], some (p30, true)⟩,
  ⟨some p32, (.load false 1), [(.tmp p31)], some (p30, true)⟩,
  ⟨some p33, (.fieldAddr 2), [(.tmp p3)], some (p30, true)⟩,
  ⟨some p34, (.load false 1), [(.tmp p33)], some (p30, true)⟩,
  ⟨some p35, .call, [(.const (.fn 75 [] [])), (.tmp p32), (.const (.fn 38 [] [])), (.tmp p34)], some (p30, true)⟩,
  ⟨some p36, (.bin .lss), [(.tmp p35), (.const (.int .i64 (.ofNat 0)))], some (p30, true)⟩,
  ⟨some p37, .pick, [(.tmp p30), (.tmp p36), (.const (.bool false))], none⟩,
  ⟨some p38, .move, [(.tmp p37)], none⟩,
  ⟨some p39, (.fieldAddr 9), [(.tmp p3)], some (p38, true)⟩,
  ⟨some p40, (.load false 1), [(.tmp p39)], some (p38, true)⟩,
  ⟨some p41, .call, [(.const (.fn 39 [] [])), (.tmp p40)], some (p38, true)⟩,
  ⟨some p42, .pick, [(.tmp p38), (.tmp p41), (.const (.bool false))], none⟩,
  ⟨some p7, .move, [(.tmp p42)], none⟩])
 (.reg [
  ⟨some p43, (.fieldAddr 1), [(.tmp p6)], none⟩,
  ⟨some p44, (.load false 1), [(.tmp p43)], none⟩,
  ⟨some p45, (.fieldAddr 2), [(.tmp p3)], none⟩,
  ⟨some p46, (.load false 1), [(.tmp p45)], none⟩,
  ⟨some p47, (.fieldAddr 9), [(.tmp p3)], none⟩,
  ⟨some p48, (.load false 1), [(.tmp p47)], none⟩,
  ⟨some p49, (.build [(.int .i64 (.ofNat 0)), (.str []), .snil, (.int .i64 (.ofNat 0)), (.int .i64 (.ofNat 0)), (.bool false)] [(0, 1), (1, 1)]), [(.tmp p46), (.tmp p48)], none⟩,
  ⟨some p50, .call, [(.const (.fn 76 [] [])), (.tmp p44), (.const (.fn 38 [] [])), (.tmp p49)], none⟩,
  ⟨some p51, (.fieldAddr 1), [(.tmp p6)], none⟩,
  ⟨none, (.store 1), [(.tmp p51), (.tmp p50)], none⟩]))
 (.seq (.reg [
  ⟨some p53, (.eql (.base .int) false), [(.tmp p11), (.const (.int .i64 (.ofNat 15)))], none⟩,
  ⟨some p52, .move, [(.tmp p53)], none⟩])
 (.cond (.tmp p52)
 (.seq (.reg [
  ⟨some p54, (.fieldAddr 1), [(.tmp p3)], none⟩,
  ⟨some p55, (.load false 1), [(.tmp p54)], none⟩,
  ⟨some p56, .call, [(.const (.fn 36 [] [])), (.tmp p55)], none⟩,
  ⟨some p57, .move, [(.tmp p56)], none⟩,
  ⟨some p58, (.fieldAddr 0), [(.tmp p2)], some (p57, true)⟩,
  ⟨some p59, (.load false 1), [(.tmp p58)], some (p57, true)⟩,
  ⟨some p60, (.fieldAddr 1), [(.tmp p3)], some (p57, true)⟩,
  ⟨some p61, (.load false 1), [(.tmp p60)], some (p57, true)⟩,
  ⟨some p62, .call, [(.const (.fn 77 [] [])), (.tmp p59), (.const (.fn 35 [] [])), (.tmp p61)], some (p57, true)⟩,
  ⟨some p63, (.bin .lss), [(.tmp p62), (.const (.int .i64 (.ofNat 0)))], some (p57, true)⟩,
  ⟨some p64, .pick, [(.tmp p57), (.tmp p63), (.const (.bool false))], none⟩,
  ⟨some p65, .move, [(.tmp p64)], none⟩,
  ⟨some p66, (.fieldAddr 9), [(.tmp p3)], some (p65, true)⟩,
  ⟨some p67, (.load false 1), [(.tmp p66)], some (p65, true)⟩,
  ⟨some p68, .call, [(.const (.fn 39 [] [])), (.tmp p67)], some (p65, true)⟩,
  ⟨some p69, .pick, [(.tmp p65), (.tmp p68), (.const (.bool false))], none⟩,
  ⟨some p7, .move, [(.tmp p69)], none⟩])
 (.reg [
  ⟨some p70, (.fieldAddr 0), [(.tmp p6)], none⟩,
  ⟨some p71, (.load false 1), [(.tmp p70)], none⟩,
  ⟨some p72, (.fieldAddr 1), [(.tmp p3)], none⟩,
  ⟨some p73, (.load false 1), [(.tmp p72)], none⟩,
  ⟨some p74, (.fieldAddr 9), [(.tmp p3)], none⟩,
  ⟨some p75, (.load false 1), [(.tmp p74)], none⟩,
  ⟨some p76, (.build [(.int .i64 (.ofNat 0)), (.str []), .snil, (.int .i64 (.ofNat 0)), (.int .i64 (.ofNat 0))] [(0, 1), (1, 1), (3, 1), (4, 1)]), [(.tmp p73), (.tmp p75), (.const (.int .i64 (.negSucc 0))), (.const (.int .i64 (.negSucc 0)))], none⟩,
  ⟨some p77, .call, [(.const (.fn 78 [] [])), (.tmp p71), (.const (.fn 35 [] [])), (.tmp p76)], none⟩,
  ⟨some p78, (.fieldAddr 0), [(.tmp p6)], none⟩,
  ⟨none, (.store 1), [(.tmp p78), (.tmp p77)], none⟩]))
 (.seq (.seq (.reg [
  ⟨some p80, (.eql (.base .int) false), [(.tmp p11), (.const (.int .i64 (.ofNat 11)))], none⟩,
  ⟨some p79, .move, [(.tmp p80)], none⟩])
 (.cond (.tmp p79)
 .skip
 (.seq (.reg [
  ⟨some p81, (.eql (.base .int) false), [(.tmp p11), (.const (.int .i64 (.ofNat 12)))], none⟩,
  ⟨some p79, .move, [(.tmp p81)], none⟩])
 (.cond (.tmp p79)
 .skip
 (.seq (.reg [
  ⟨some p82, (.eql (.base .int) false), [(.tmp p11), (.const (.int .i64 (.ofNat 13)))], none⟩,
  ⟨some p79, .move, [(.tmp p82)], none⟩])
 (.cond (.tmp p79)
 .skip
 (.reg [
  ⟨some p83, (.eql (.base .int) false), [(.tmp p11), (.const (.int .i64 (.ofNat 14)))], none⟩,
  ⟨some p79, .move, [(.tmp p83)], none⟩])))))))
 (.cond (.tmp p79)
 (.reg [
  ⟨some p84, (.load true 14), [(.tmp p3)], none⟩,
  ⟨some p85, .call, [(.const (.fn 79 [] [])), (.tmp p6), (.tmp p84)], none⟩,
  ⟨some p7, .move, [(.tmp p85)], none⟩])
 (.seq (.seq (.reg [
  ⟨some p87, (.eql (.base .int) false), [(.tmp p11), (.const (.int .i64 (.ofNat 16)))], none⟩,
  ⟨some p86, .move, [(.tmp p87)], none⟩])
 (.cond (.tmp p86)
 .skip
 (.seq (.reg [
  ⟨some p88, (.eql (.base .int) false), [(.tmp p11), (.const (.int .i64 (.ofNat 17)))], none⟩,
  ⟨some p86, .move, [(.tmp p88)], none⟩])
 (.cond (.tmp p86)
 .skip
 (.seq (.reg [
  ⟨some p89, (.eql (.base .int) false), [(.tmp p11), (.const (.int .i64 (.ofNat 18)))], none⟩,
  ⟨some p86, .move, [(.tmp p89)], none⟩])
 (.cond (.tmp p86)
 .skip
 (.seq (.reg [
  ⟨some p90, (.eql (.base .int) false), [(.tmp p11), (.const (.int .i64 (.ofNat 19)))], none⟩,
  ⟨some p86, .move, [(.tmp p90)], none⟩])
 (.cond (.tmp p86)
 .skip
 (.reg [
  ⟨some p91, (.eql (.base .int) false), [(.tmp p11), (.const (.int .i64 (.ofNat 20)))], none⟩,
  ⟨some p86, .move, [(.tmp p91)], none⟩])))))))))
 (.cond (.tmp p86)
 (.reg [
  ⟨some p92, (.load true 14), [(.tmp p3)], none⟩,
  ⟨some p93, .call, [(.const (.fn 80 [] [])), (.tmp p6), (.tmp p92)], none⟩,
  ⟨some p7, .move, [(.tmp p93)], none⟩])
 .skip))))))))))))
 (.seq (.seq (.reg [
  ⟨some p94, .move, [(.tmp p7)], none⟩,
  ⟨some p95, .not, [(.tmp p94)], none⟩])
 (.cond (.tmp p95)
 (.seq (.reg [
  ⟨some p96, (.build [.snil, .snil] []), [], none⟩,
  ⟨none, (.store 2), [(.tmp p4), (.tmp p96)], none⟩,
  ⟨some p5, .move, [(.const (.int .i64 (.ofNat 81)))], none⟩])
 (.ret [.cell p4 true 2, .tmp p5]))
 .skip))
 (.seq (.reg [
  ⟨some p97, (.load true 2), [(.tmp p6)], none⟩,
  ⟨none, (.store 2), [(.tmp p4), (.tmp p97)], none⟩,
  ⟨some p5, .move, [(.const (.int .i64 (.ofNat 0)))], none⟩])
 (.ret [.cell p4 true 2, .tmp p5]))))))),
 [.cell p4 true 2, .tmp p5]⟩
def F24 : IFn := ⟨1,
(.seq (.reg [
  ⟨some p1, (.box 25 2), [(.tmp p0)], none⟩,
  ⟨some p2, (.alloc 25 [.snil, .snil]), [], none⟩])
 (.seq (.reg [
  ⟨some p5, (.load true 2), [(.tmp p1)], none⟩,
  ⟨some p6, .call, [(.const (.fn 70 [] [])), (.tmp p5)], none⟩,
  ⟨none, (.store 2), [(.tmp p1), (.tmp p6)], none⟩])
 (.seq (.seq (.reg [
  ⟨some p7, (.fieldAddr 0), [(.tmp p1)], none⟩,
  ⟨some p8, (.load false 1), [(.tmp p7)], none⟩,
  ⟨some p9, .lenL, [(.tmp p8)], none⟩,
  ⟨some p10, .move, [(.const (.int .i64 (.ofNat 0)))], none⟩])
 (.block 0 [p1, p2] (.loop [p1, p2, p9, p10] (.seq (.reg [
  ⟨some p11, (.bin .lss), [(.tmp p10), (.tmp p9)], none⟩])
 (.seq (.cond (.tmp p11)
 .skip
 (.exit 0 [p1, p2]))
 (.seq (.block 1 [p1, p2, p9, p10] (.seq (.reg [
  ⟨some p12, .move, [(.tmp p10)], none⟩,
  ⟨some p3, .move, [(.tmp p12)], none⟩])
 (.reg [
  ⟨some p13, (.fieldAddr 0), [(.tmp p1)], none⟩,
  ⟨some p14, (.load false 1), [(.tmp p13)], none⟩,
  ⟨some p15, .move, [(.tmp p3)], none⟩,
  ⟨some p16, (.idxSlice 5), [(.tmp p14), (.tmp p15)], none⟩,
  ⟨some p17, (.fieldAddr 4), [(.tmp p16)], none⟩,
  ⟨none, (.store 1), [(.tmp p17), (.const (.int .i64 (.negSucc 0)))], none⟩])))
 (.reg [
  ⟨some p18, (.bin .add), [(.tmp p10), (.const (.int .i64 (.ofNat 1)))], none⟩,
  ⟨some p10, .move, [(.tmp p18)], none⟩])))))))
 (.seq (.seq (.reg [
  ⟨some p19, (.fieldAddr 1), [(.tmp p1)], none⟩,
  ⟨some p20, (.load false 1), [(.tmp p19)], none⟩,
  ⟨some p21, .lenL, [(.tmp p20)], none⟩,
  ⟨some p22, .move, [(.const (.int .i64 (.ofNat 0)))], none⟩])
 (.block 2 [p1, p2] (.loop [p1, p2, p21, p22] (.seq (.reg [
  ⟨some p23, (.bin .lss), [(.tmp p22), (.tmp p21)], none⟩])
 (.seq (.cond (.tmp p23)
 .skip
 (.exit 2 [p1, p2]))
 (.seq (.block 3 [p1, p2, p21, p22] (.seq (.reg [
  ⟨some p24, .move, [(.tmp p22)], none⟩,
  ⟨some p4, .move, [(.tmp p24)], none⟩])
 (.reg [
  ⟨some p25, (.fieldAddr 1), [(.tmp p1)], none⟩,
  ⟨some p26, (.load false 1), [(.tmp p25)], none⟩,
  ⟨some p27, .move, [(.tmp p4)], none⟩,
  ⟨some p28, (.idxSlice 6), [(.tmp p26), (.tmp p27)], none⟩,
  ⟨some p29, (.fieldAddr 4), [(.tmp p28)], none⟩,
  ⟨none, (.store 1), [(.tmp p29), (.const (.int .i64 (.ofNat 0)))], none⟩])))
 (.reg [
  ⟨some p30, (.bin .add), [(.tmp p22), (.const (.int .i64 (.ofNat 1)))], none⟩,
  ⟨some p22, .move, [(.tmp p30)], none⟩])))))))
 (.seq (.reg [
  ⟨some p31, (.load true 2), [(.tmp p1)], none⟩,
  ⟨none, (.store 2), [(.tmp p2), (.tmp p31)], none⟩])
 (.ret [.cell p2 true 2])))))),
 [.cell p2 true 2]⟩
def F25 : IFn := ⟨1,
(.seq (.reg [
  ⟨some p1, (.box 25 2), [(.tmp p0)], none⟩,
  ⟨some p2, (.alloc 25 [.snil, .snil]), [], none⟩])
 (.seq (.reg [
  ⟨some p6, (.load true 2), [(.tmp p1)], none⟩,
  ⟨some p7, .call, [(.const (.fn 32 [] [])), (.tmp p6)], none⟩,
  ⟨some p3, (.alloc 25 [.snil, .snil]), [], none⟩,
  ⟨none, (.store 2), [(.tmp p3), (.tmp p7)], none⟩])
 (.seq (.seq (.reg [
  ⟨some p4, .move, [(.const (.int .i64 (.ofNat 0)))], none⟩])
 (.block 0 [p2, p3] (.loop [p2, p3, p4] (.seq (.seq (.reg [
  ⟨some p8, .move, [(.tmp p4)], none⟩,
  ⟨some p9, (.fieldAddr 0), [(.tmp p3)], none⟩,
  ⟨some p10, (.load false 1), [(.tmp p9)], none⟩,
  ⟨some p11, .lenL, [(.tmp p10)], none⟩,
  ⟨some p12, (.bin .lss), [(.tmp p8), (.tmp p11)], none⟩])
 (.cond (.tmp p12)
 .skip
 (.exit 0 [p2, p3])))
 (.seq (.block 1 [p2, p3, p4] (.reg [
  ⟨some p15, (.fieldAddr 0), [(.tmp p3)], none⟩,
  ⟨some p16, (.load false 1), [(.tmp p15)], none⟩,
  ⟨some p17, .move, [(.tmp p4)], none⟩,
  ⟨some p18, (.idxSlice 5), [(.tmp p16), (.tmp p17)], none⟩,
  ⟨some p19, (.fieldAddr 4), [(.tmp p18)], none⟩,
  ⟨none, (.store 1), [(.tmp p19), (.const (.int .i64 (.negSucc 0)))], none⟩]))
 (.reg [
  ⟨some p13, .move, [(.tmp p4)], none⟩,
  ⟨some p14, (.bin .add), [(.tmp p13), (.const (.int .i64 (.ofNat 1)))], none⟩,
  ⟨some p4, .move, [(.tmp p14)], none⟩]))))))
 (.seq (.seq (.reg [
  ⟨some p5, .move, [(.const (.int .i64 (.ofNat 0)))], none⟩])
 (.block 2 [p2, p3] (.loop [p2, p3, p5] (.seq (.seq (.reg [
  ⟨some p20, .move, [(.tmp p5)], none⟩,
  ⟨some p21, (.fieldAddr 1), [(.tmp p3)], none⟩,
  ⟨some p22, (.load false 1), [(.tmp p21)], none⟩,
  ⟨some p23, .lenL, [(.tmp p22)], none⟩,
  ⟨some p24, (.bin .lss), [(.tmp p20), (.tmp p23)], none⟩])
 (.cond (.tmp p24)
 .skip
 (.exit 2 [p2, p3])))
 (.seq (.block 3 [p2, p3, p5] (.reg [
  ⟨some p27, (.fieldAddr 1), [(.tmp p3)], none⟩,
  ⟨some p28, (.load false 1), [(.tmp p27)], none⟩,
  ⟨some p29, .move, [(.tmp p5)], none⟩,
  ⟨some p30, (.idxSlice 6), [(.tmp p28), (.tmp p29)], none⟩,
  ⟨some p31, (.fieldAddr 4), [(.tmp p30)], none⟩,
  ⟨none, (.store 1), [(.tmp p31), (.const (.int .i64 (.ofNat 0)))], none⟩]))
 (.reg [
  ⟨some p25, .move, [(.tmp p5)], none⟩,
  ⟨some p26, (.bin .add), [(.tmp p25), (.const (.int .i64 (.ofNat 1)))], none⟩,
  ⟨some p5, .move, [(.tmp p26)], none⟩]))))))
 (.seq (.reg [
  ⟨some p32, (.load true 2), [(.tmp p3)], none⟩,
  ⟨none, (.store 2), [(.tmp p2), (.tmp p32)], none⟩])
 (.ret [.cell p2 true 2])))))),
 [.cell p2 true 2]⟩
def F32 : IFn := ⟨1,
(.seq (.reg [
  ⟨some p1, (.box 25 2), [(.tmp p0)], none⟩,
  ⟨some p2, (.alloc 25 [.snil, .snil]), [], none⟩])
 (.seq (.reg [
  ⟨some p3, (.alloc 25 [.snil, .snil]), [], none⟩])
 (.seq (.seq (.reg [
  ⟨some p4, .move, [(.const (.int .i64 (.ofNat 0)))], none⟩])
 (.block 0 [p1, p2, p3] (.loop [p1, p2, p3, p4] (.seq (.seq (.reg [
  ⟨some p8, .move, [(.tmp p4)], none⟩,
  ⟨some p9, (.fieldAddr 0), [(.tmp p1)], none⟩,
  ⟨some p10, (.load false 1), [(.tmp p9)], none⟩,
  ⟨some p11, .lenL, [(.tmp p10)], none⟩,
  ⟨some p12, (.bin .lss), [(.tmp p8), (.tmp p11)], none⟩])
 (.cond (.tmp p12)
 .skip
 (.exit 0 [p1, p2, p3])))
 (.seq (.block 1 [p1, p2, p3, p4] (.seq (.reg [
  ⟨some p15, (.fieldAddr 0), [(.tmp p1)], none⟩,
  ⟨some p16, (.load false 1), [(.tmp p15)], none⟩,
  ⟨some p17, .move, [(.tmp p4)], none⟩,
  ⟨some p18, (.idxSlice 5), [(.tmp p16), (.tmp p17)], none⟩,
  ⟨some p19, (.load true 5), [(.tmp p18)], none⟩,
  ⟨some p5, (.alloc 60 [(.int .i64 (.ofNat 0)), (.str []), .snil, (.int .i64 (.ofNat 0)), (.int .i64 (.ofNat 0))]), [], none⟩,
  ⟨none, (.store 5), [(.tmp p5), (.tmp p19)], none⟩])
 (.seq (.reg [
  ⟨some p20, (.fieldAddr 2), [(.tmp p5)], none⟩,
  ⟨some p21, (.load false 1), [(.tmp p20)], none⟩,
  ⟨some p22, (.append 73 2 16), [(.const .snil), (.tmp p21)], none⟩,
  ⟨some p23, (.fieldAddr 2), [(.tmp p5)], none⟩,
  ⟨none, (.store 1), [(.tmp p23), (.tmp p22)], none⟩])
 (.reg [
  ⟨some p24, (.fieldAddr 0), [(.tmp p3)], none⟩,
  ⟨some p25, (.load false 1), [(.tmp p24)], none⟩,
  ⟨some p26, (.load true 5), [(.tmp p5)], none⟩,
  ⟨some p27, (.buildSlice 60 5 [(.int .i64 (.ofNat 0)), (.str []), .snil, (.int .i64 (.ofNat 0)), (.int .i64 (.ofNat 0))] 1 [(0, 5)]), [(.tmp p26)], none⟩,
  ⟨some p28, (.append 60 5 64), [(.tmp p25), (.tmp p27)], none⟩,
  ⟨some p29, (.fieldAddr 0), [(.tmp p3)], none⟩,
  ⟨none, (.store 1), [(.tmp p29), (.tmp p28)], none⟩]))))
 (.reg [
  ⟨some p13, .move, [(.tmp p4)], none⟩,
  ⟨some p14, (.bin .add), [(.tmp p13), (.const (.int .i64 (.ofNat 1)))], none⟩,
  ⟨some p4, .move, [(.tmp p14)], none⟩]))))))
 (.seq (.seq (.reg [
  ⟨some p6, .move, [(.const (.int .i64 (.ofNat 0)))], none⟩])
 (.block 2 [p2, p3] (.loop [p1, p2, p3, p6] (.seq (.seq (.reg [
  ⟨some p30, .move, [(.tmp p6)], none⟩,
  ⟨some p31, (.fieldAddr 1), [(.tmp p1)], none⟩,
  ⟨some p32, (.load false 1), [(.tmp p31)], none⟩,
  ⟨some p33, .lenL, [(.tmp p32)], none⟩,
  ⟨some p34, (.bin .lss), [(.tmp p30), (.tmp p33)], none⟩])
 (.cond (.tmp p34)
 .skip
 (.exit 2 [p2, p3])))
 (.seq (.block 3 [p1, p2, p3, p6] (.seq (.reg [
  ⟨some p37, (.fieldAddr 1), [(.tmp p1)], none⟩,
  ⟨some p38, (.load false 1), [(.tmp p37)], none⟩,
  ⟨some p39, .move, [(.tmp p6)], none⟩,
  ⟨some p40, (.idxSlice 6), [(.tmp p38), (.tmp p39)], none⟩,
  ⟨some p41, (.load true 6), [(.tmp p40)], none⟩,
  ⟨some p7, (.alloc 66 [(.int .i64 (.ofNat 0)), (.str []), .snil, (.int .i64 (.ofNat 0)), (.int .i64 (.ofNat 0)), (.bool false)]), [], none⟩,
  ⟨none, (.store 6), [(.tmp p7), (.tmp p41)], none⟩])
 (.seq (.reg [
  ⟨some p42, (.fieldAddr 2), [(.tmp p7)], none⟩,
  ⟨some p43, (.load false 1), [(.tmp p42)], none⟩,
  ⟨some p44, (.append 82 7 56), [(.const .snil), (.tmp p43)], none⟩,
  ⟨some p45, (.fieldAddr 2), [(.tmp p7)], none⟩,
  ⟨none, (.store 1), [(.tmp p45), (.tmp p44)], none⟩])
 (.reg [
  ⟨some p46, (.fieldAddr 1), [(.tmp p3)], none⟩,
  ⟨some p47, (.load false 1), [(.tmp p46)], none⟩,
  ⟨some p48, (.load true 6), [(.tmp p7)], none⟩,
  ⟨some p49, (.buildSlice 66 6 [(.int .i64 (.ofNat 0)), (.str []), .snil, (.int .i64 (.ofNat 0)), (.int .i64 (.ofNat 0)), (.bool false)] 1 [(0, 6)]), [(.tmp p48)], none⟩,
  ⟨some p50, (.append 66 6 72), [(.tmp p47), (.tmp p49)], none⟩,
  ⟨some p51, (.fieldAddr 1), [(.tmp p3)], none⟩,
  ⟨none, (.store 1), [(.tmp p51), (.tmp p50)], none⟩]))))
 (.reg [
  ⟨some p35, .move, [(.tmp p6)], none⟩,
  ⟨some p36, (.bin .add), [(.tmp p35), (.const (.int .i64 (.ofNat 1)))], none⟩,
  ⟨some p6, .move, [(.tmp p36)], none⟩]))))))
 (.seq (.reg [
  ⟨some p52, (.load true 2), [(.tmp p3)], none⟩,
  ⟨none, (.store 2), [(.tmp p2), (.tmp p52)], none⟩])
 (.ret [.cell p2 true 2])))))),
 [.cell p2 true 2]⟩
def F33 : IFn := ⟨0,
(.seq (.reg [
  ⟨some p0, (.alloc 25 [.snil, .snil]), [], none⟩])
 (.seq (.reg [
  ⟨some p1, (.build [(.int .i64 (.ofNat 0)), (.int .i64 (.ofNat 0))] [(0, 1), (1, 1)]), [(.const (.int .i64 (.ofNat 0))), (.const (.int .i64 (.ofNat 1)))], none⟩,
  ⟨some p2, (.buildSlice 73 2 [(.int .i64 (.ofNat 0)), (.int .i64 (.ofNat 0))] 1 [(0, 2)]), [(.tmp p1)], none⟩,
  ⟨some p3, (.build [(.int .i64 (.ofNat 0)), (.str []), .snil, (.int .i64 (.ofNat 0)), (.int .i64 (.ofNat 0))] [(0, 1), (1, 1), (2, 1), (4, 1)]), [(.const (.int .i64 (.ofNat 1))), (.const (.str [119, 111, 114, 107])), (.tmp p2), (.const (.int .i64 (.negSucc 0)))], none⟩,
  ⟨some p4, (.buildSlice 60 5 [(.int .i64 (.ofNat 0)), (.str []), .snil, (.int .i64 (.ofNat 0)), (.int .i64 (.ofNat 0))] 1 [(0, 5)]), [(.tmp p3)], none⟩,
  ⟨some p5, (.build [(.int .i64 (.ofNat 0)), (.int .i64 (.ofNat 0)), (.int .i64 (.ofNat 0)), (.int .i64 (.ofNat 0)), (.int .i64 (.ofNat 0)), (.int .i64 (.ofNat 0)), (.int .i64 (.ofNat 0))] [(1, 1), (4, 1), (5, 1), (6, 1)]), [(.const (.int .i64 (.ofNat 1))), (.const (.int .i64 (.ofNat 80))), (.const (.int .i64 (.ofNat 24))), (.const (.int .i64 (.ofNat 1)))], none⟩,
  ⟨some p6, (.buildSlice 82 7 [(.int .i64 (.ofNat 0)), (.int .i64 (.ofNat 0)), (.int .i64 (.ofNat 0)), (.int .i64 (.ofNat 0)), (.int .i64 (.ofNat 0)), (.int .i64 (.ofNat 0)), (.int .i64 (.ofNat 0))] 1 [(0, 7)]), [(.tmp p5)], none⟩,
  ⟨some p7, (.build [(.int .i64 (.ofNat 0)), (.str []), .snil, (.int .i64 (.ofNat 0)), (.int .i64 (.ofNat 0)), (.bool false)] [(0, 1), (1, 1), (2, 1), (3, 1)]), [(.const (.int .i64 (.ofNat 1))), (.const (.str [115, 104])), (.tmp p6), (.const (.int .i64 (.ofNat 1)))], none⟩,
  ⟨some p8, (.buildSlice 66 6 [(.int .i64 (.ofNat 0)), (.str []), .snil, (.int .i64 (.ofNat 0)), (.int .i64 (.ofNat 0)), (.bool false)] 1 [(0, 6)]), [(.tmp p7)], none⟩,
  ⟨some p9, (.build [.snil, .snil] [(0, 1), (1, 1)]), [(.tmp p4), (.tmp p8)], none⟩,
  ⟨none, (.store 2), [(.tmp p0), (.tmp p9)], none⟩])
 (.ret [.cell p0 true 2]))),
 [.cell p0 true 2]⟩
def F34 : IFn := ⟨3,
(.seq (.reg [
  ⟨some p6, .move, [(.const (.bool false))], none⟩])
 (.seq (.seq (.reg [
  ⟨some p9, .move, [(.tmp p0)], none⟩,
  ⟨some p10, .lenL, [(.tmp p9)], none⟩,
  ⟨some p11, .move, [(.const (.int .i64 (.ofNat 0)))], none⟩])
 (.block 0 [] (.loop [p0, p1, p2, p9, p10, p11] (.seq (.reg [
  ⟨some p12, (.bin .lss), [(.tmp p11), (.tmp p10)], none⟩])
 (.seq (.cond (.tmp p12)
 .skip
 (.exit 0 []))
 (.seq (.block 1 [p0, p1, p2, p9, p10, p11] (.seq (.reg [
  ⟨some p13, .move, [(.tmp p11)], none⟩,
  ⟨some p14, (.idxSlice 5), [(.tmp p9), (.tmp p11)], none⟩,
  ⟨some p15, (.load true 5), [(.tmp p14)], none⟩,
  ⟨some p8, (.alloc 60 [(.int .i64 (.ofNat 0)), (.str []), .snil, (.int .i64 (.ofNat 0)), (.int .i64 (.ofNat 0))]), [], none⟩,
  ⟨some p7, .move, [(.tmp p13)], none⟩,
  ⟨none, (.store 5), [(.tmp p8), (.tmp p15)], none⟩])
 (.seq (.drawn [
  ⟨0, ⟨some p16, .move, [(.tmp p2)], none⟩, .pure, []⟩,
  ⟨1, ⟨some p17, .move, [(.tmp p1)], none⟩, .pure, []⟩,
  ⟨2, ⟨some p18, (.load true 5), [(.tmp p8)], none⟩, (.read 0 0), []⟩,
  ⟨3, ⟨some p19, .call, [(.tmp p17), (.tmp p18)], none⟩, .eff, [1, 2]⟩,
  ⟨4, ⟨some p20, .call, [(.tmp p16), (.tmp p19)], none⟩, .eff, [0, 3, 3]⟩,
  ⟨5, ⟨some p21, .not, [(.tmp p20)], none⟩, .pure, [4]⟩,
  ⟨6, ⟨some p22, .move, [(.tmp p21)], none⟩, .pure, [5, 4]⟩,
  ⟨7, ⟨some p23, .move, [(.tmp p7)], some (p22, false)⟩, .pure, [6]⟩,
  ⟨8, ⟨some p24, (.bin .gtr), [(.tmp p23), (.const (.int .i64 (.ofNat 0)))], some (p22, false)⟩, .pure, [7, 6]⟩,
  ⟨9, ⟨some p25, .move, [(.tmp p24)], some (p22, false)⟩, .pure, [8, 6, 6]⟩,
  ⟨10, ⟨some p26, .move, [(.tmp p1)], some (p25, true)⟩, .pure, [9]⟩,
  ⟨11, ⟨some p27, .move, [(.tmp p0)], some (p25, true)⟩, .pure, [9]⟩,
  ⟨12, ⟨some p28, .move, [(.tmp p7)], some (p25, true)⟩, .pure, [9]⟩,
  ⟨13, ⟨some p29, (.bin .sub), [(.tmp p28), (.const (.int .i64 (.ofNat 1)))], some (p25, true)⟩, .pure, [12, 9]⟩,
  ⟨14, ⟨some p30, (.idxSlice 5), [(.tmp p27), (.tmp p29)], some (p25, true)⟩, .pure, [11, 13, 9]⟩,
  ⟨15, ⟨some p31, (.load true 5), [(.tmp p30)], some (p25, true)⟩, (.read 2 2), [14, 9]⟩,
  ⟨16, ⟨some p32, .call, [(.tmp p26), (.tmp p31)], some (p25, true)⟩, .eff, [10, 15, 9, 9]⟩,
  ⟨17, ⟨some p33, .move, [(.tmp p1)], some (p25, true)⟩, .pure, [9]⟩,
  ⟨18, ⟨some p34, (.load true 5), [(.tmp p8)], some (p25, true)⟩, (.read 2 3), [9]⟩,
  ⟨19, ⟨some p35, .call, [(.tmp p33), (.tmp p34)], some (p25, true)⟩, .eff, [17, 18, 16, 9]⟩,
  ⟨20, ⟨some p36, (.bin .geq), [(.tmp p32), (.tmp p35)], some (p25, true)⟩, .pure, [16, 19, 9]⟩,
  ⟨21, ⟨some p37, .pick, [(.tmp p25), (.tmp p36), (.const (.bool false))], some (p22, false)⟩, .pure, [9, 20, 6]⟩,
  ⟨22, ⟨some p38, .pick, [(.tmp p22), (.const (.bool true)), (.tmp p37)], none⟩, .pure, [6, 21]⟩])
 (.cond (.tmp p38)
 (.seq (.reg [
  ⟨some p6, .move, [(.const (.bool false))], none⟩])
 (.ret [.tmp p6]))
 .skip))))
 (.reg [
  ⟨some p39, (.bin .add), [(.tmp p11), (.const (.int .i64 (.ofNat 1)))], none⟩,
  ⟨some p11, .move, [(.tmp p39)], none⟩])))))))
 (.seq (.reg [
  ⟨some p6, .move, [(.const (.bool true))], none⟩])
 (.ret [.tmp p6])))),
 [.tmp p6]⟩
def F35 : IFn := ⟨1,
(.seq (.reg [
  ⟨some p1, (.box 60 5), [(.tmp p0)], none⟩,
  ⟨some p2, .move, [(.const (.int .i64 (.ofNat 0)))], none⟩])
 (.seq (.reg [
  ⟨some p3, (.fieldAddr 0), [(.tmp p1)], none⟩,
  ⟨some p4, (.load false 1), [(.tmp p3)], none⟩,
  ⟨some p2, .move, [(.tmp p4)], none⟩])
 (.ret [.tmp p2]))),
 [.tmp p2]⟩
def F36 : IFn := ⟨1,
(.seq (.reg [
  ⟨some p2, .move, [(.const (.bool false))], none⟩])
 (.seq (.reg [
  ⟨some p3, .move, [(.tmp p0)], none⟩,
  ⟨some p4, (.bin .geq), [(.tmp p3), (.const (.int .i64 (.ofNat 1)))], none⟩,
  ⟨some p5, .move, [(.tmp p4)], none⟩,
  ⟨some p6, .move, [(.tmp p0)], some (p5, true)⟩,
  ⟨some p7, (.bin .leq), [(.tmp p6), (.const (.int .i64 (.ofNat 4611686018427387904)))], some (p5, true)⟩,
  ⟨some p8, .pick, [(.tmp p5), (.tmp p7), (.const (.bool false))], none⟩,
  ⟨some p2, .move, [(.tmp p8)], none⟩])
 (.ret [.tmp p2]))),
 [.tmp p2]⟩
def F37 : IFn := ⟨3,
(.seq (.reg [
  ⟨some p6, .move, [(.const (.bool false))], none⟩])
 (.seq (.seq (.reg [
  ⟨some p9, .move, [(.tmp p0)], none⟩,
  ⟨some p10, .lenL, [(.tmp p9)], none⟩,
  ⟨some p11, .move, [(.const (.int .i64 (.ofNat 0)))], none⟩])
 (.block 0 [] (.loop [p0, p1, p2, p9, p10, p11] (.seq (.reg [
  ⟨some p12, (.bin .lss), [(.tmp p11), (.tmp p10)], none⟩])
 (.seq (.cond (.tmp p12)
 .skip
 (.exit 0 []))
 (.seq (.block 1 [p0, p1, p2, p9, p10, p11] (.seq (.reg [
  ⟨some p13, .move, [(.tmp p11)], none⟩,
  ⟨some p14, (.idxSlice 6), [(.tmp p9), (.tmp p11)], none⟩,
  ⟨some p15, (.load true 6), [(.tmp p14)], none⟩,
  ⟨some p8, (.alloc 66 [(.int .i64 (.ofNat 0)), (.str []), .snil, (.int .i64 (.ofNat 0)), (.int .i64 (.ofNat 0)), (.bool false)]), [], none⟩,
  ⟨some p7, .move, [(.tmp p13)], none⟩,
  ⟨none, (.store 6), [(.tmp p8), (.tmp p15)], none⟩])
 (.seq (.drawn [
  ⟨0, ⟨some p16, .move, [(.tmp p2)], none⟩, .pure, []⟩,
  ⟨1, ⟨some p17, .move, [(.tmp p1)], none⟩, .pure, []⟩,
  ⟨2, ⟨some p18, (.load true 6), [(.tmp p8)], none⟩, (.read 0 0), []⟩,
  ⟨3, ⟨some p19, .call, [(.tmp p17), (.tmp p18)], none⟩, .eff, [1, 2]⟩,
  ⟨4, ⟨some p20, .call, [(.tmp p16), (.tmp p19)], none⟩, .eff, [0, 3, 3]⟩,
  ⟨5, ⟨some p21, .not, [(.tmp p20)], none⟩, .pure, [4]⟩,
  ⟨6, ⟨some p22, .move, [(.tmp p21)], none⟩, .pure, [5, 4]⟩,
  ⟨7, ⟨some p23, .move, [(.tmp p7)], some (p22, false)⟩, .pure, [6]⟩,
  ⟨8, ⟨some p24, (.bin .gtr), [(.tmp p23), (.const (.int .i64 (.ofNat 0)))], some (p22, false)⟩, .pure, [7, 6]⟩,
  ⟨9, ⟨some p25, .move, [(.tmp p24)], some (p22, false)⟩, .pure, [8, 6, 6]⟩,
  ⟨10, ⟨some p26, .move, [(.tmp p1)], some (p25, true)⟩, .pure, [9]⟩,
  ⟨11, ⟨some p27, .move, [(.tmp p0)], some (p25, true)⟩, .pure, [9]⟩,
  ⟨12, ⟨some p28, .move, [(.tmp p7)], some (p25, true)⟩, .pure, [9]⟩,
  ⟨13, ⟨some p29, (.bin .sub), [(.tmp p28), (.const (.int .i64 (.ofNat 1)))], some (p25, true)⟩, .pure, [12, 9]⟩,
  ⟨14, ⟨some p30, (.idxSlice 6), [(.tmp p27), (.tmp p29)], some (p25, true)⟩, .pure, [11, 13, 9]⟩,
  ⟨15, ⟨some p31, (.load true 6), [(.tmp p30)], some (p25, true)⟩, (.read 2 2), [14, 9]⟩,
  ⟨16, ⟨some p32, .call, [(.tmp p26), (.tmp p31)], some (p25, true)⟩, .eff, [10, 15, 9, 9]⟩,
  ⟨17, ⟨some p33, .move, [(.tmp p1)], some (p25, true)⟩, .pure, [9]⟩,
  ⟨18, ⟨some p34, (.load true 6), [(.tmp p8)], some (p25, true)⟩, (.read 2 3), [9]⟩,
  ⟨19, ⟨some p35, .call, [(.tmp p33), (.tmp p34)], some (p25, true)⟩, .eff, [17, 18, 16, 9]⟩,
  ⟨20, ⟨some p36, (.bin .geq), [(.tmp p32), (.tmp p35)], some (p25, true)⟩, .pure, [16, 19, 9]⟩,
  ⟨21, ⟨some p37, .pick, [(.tmp p25), (.tmp p36), (.const (.bool false))], some (p22, false)⟩, .pure, [9, 20, 6]⟩,
  ⟨22, ⟨some p38, .pick, [(.tmp p22), (.const (.bool true)), (.tmp p37)], none⟩, .pure, [6, 21]⟩])
 (.cond (.tmp p38)
 (.seq (.reg [
  ⟨some p6, .move, [(.const (.bool false))], none⟩])
 (.ret [.tmp p6]))
 .skip))))
 (.reg [
  ⟨some p39, (.bin .add), [(.tmp p11), (.const (.int .i64 (.ofNat 1)))], none⟩,
  ⟨some p11, .move, [(.tmp p39)], none⟩])))))))
 (.seq (.reg [
  ⟨some p6, .move, [(.const (.bool true))], none⟩])
 (.ret [.tmp p6])))),
 [.tmp p6]⟩
def F38 : IFn := ⟨1,
(.seq (.reg [
  ⟨some p1, (.box 66 6), [(.tmp p0)], none⟩,
  ⟨some p2, .move, [(.const (.int .i64 (.ofNat 0)))], none⟩])
 (.seq (.reg [
  ⟨some p3, (.fieldAddr 0), [(.tmp p1)], none⟩,
  ⟨some p4, (.load false 1), [(.tmp p3)], none⟩,
  ⟨some p2, .move, [(.tmp p4)], none⟩])
 (.ret [.tmp p2]))),
 [.tmp p2]⟩
def F39 : IFn := ⟨1,
(.seq (.reg [
  ⟨some p2, .move, [(.const (.bool false))], none⟩])
 (.seq (.seq (.reg [
  ⟨some p4, .move, [(.tmp p0)], none⟩,
  ⟨some p5, .lenS, [(.tmp p4)], none⟩,
  ⟨some p6, (.bin .lss), [(.tmp p5), (.const (.int .i64 (.ofNat 1)))], none⟩,
  ⟨some p7, .move, [(.tmp p6)], none⟩,
  ⟨some p8, .move, [(.tmp p0)], some (p7, false)⟩,
  ⟨some p9, .lenS, [(.tmp p8)], some (p7, false)⟩,
  ⟨some p10, (.bin .gtr), [(.tmp p9), (.const (.int .i64 (.ofNat 32)))], some (p7, false)⟩,
  ⟨some p11, .pick, [(.tmp p7), (.const (.bool true)), (.tmp p10)], none⟩])
 (.cond (.tmp p11)
 (.seq (.reg [
  ⟨some p2, .move, [(.const (.bool false))], none⟩])
 (.ret [.tmp p2]))
 .skip))
 (.seq (.seq (.reg [
  ⟨some p3, .move, [(.const (.int .i64 (.ofNat 0)))], none⟩])
 (.block 0 [p0] (.loop [p0, p3] (.seq (.seq (.reg [
  ⟨some p12, .move, [(.tmp p3)], none⟩,
  ⟨some p13, .move, [(.tmp p0)], none⟩,
  ⟨some p14, .lenS, [(.tmp p13)], none⟩,
  ⟨some p15, (.bin .lss), [(.tmp p12), (.tmp p14)], none⟩])
 (.cond (.tmp p15)
 .skip
 (.exit 0 [p0])))
 (.seq (.block 1 [p0, p3] (.seq (.reg [
  ⟨some p18, .move, [(.tmp p0)], none⟩,
  ⟨some p19, .move, [(.tmp p3)], none⟩,
  ⟨some p20, .idxStr, [(.tmp p18), (.tmp p19)], none⟩,
  ⟨some p21, (.bin .lss), [(.tmp p20), (.const (.int .u8 (.ofNat 32)))], none⟩,
  ⟨some p22, .move, [(.tmp p21)], none⟩,
  ⟨some p23, .move, [(.tmp p0)], some (p22, false)⟩,
  ⟨some p24, .move, [(.tmp p3)], some (p22, false)⟩,
  ⟨some p25, .idxStr, [(.tmp p23), (.tmp p24)], some (p22, false)⟩,
  ⟨some p26, (.bin .gtr), [(.tmp p25), (.const (.int .u8 (.ofNat 126)))], some (p22, false)⟩,
  ⟨some p27, .pick, [(.tmp p22), (.const (.bool true)), (.tmp p26)], none⟩,
  ⟨some p28, .move, [(.tmp p27)], none⟩,
  ⟨some p29, .move, [(.tmp p0)], some (p28, false)⟩,
  ⟨some p30, .move, [(.tmp p3)], some (p28, false)⟩,
  ⟨some p31, .idxStr, [(.tmp p29), (.tmp p30)], some (p28, false)⟩,
  ⟨some p32, (.eql (.base .int) false), [(.tmp p31), (.const (.int .u8 (.ofNat 46)))], some (p28, false)⟩,
  ⟨some p33, .pick, [(.tmp p28), (.const (.bool true)), (.tmp p32)], none⟩,
  ⟨some p34, .move, [(.tmp p33)], none⟩,
  ⟨some p35, .move, [(.tmp p0)], some (p34, false)⟩,
  ⟨some p36, .move, [(.tmp p3)], some (p34, false)⟩,
  ⟨some p37, .idxStr, [(.tmp p35), (.tmp p36)], some (p34, false)⟩,
  ⟨some p38, (.eql (.base .int) false), [(.tmp p37), (.const (.int .u8 (.ofNat 58)))], some (p34, false)⟩,
  ⟨some p39, .pick, [(.tmp p34), (.const (.bool true)), (.tmp p38)], none⟩])
 (.cond (.tmp p39)
 (.seq (.reg [
  ⟨some p2, .move, [(.const (.bool false))], none⟩])
 (.ret [.tmp p2]))
 .skip)))
 (.reg [
  ⟨some p16, .move, [(.tmp p3)], none⟩,
  ⟨some p17, (.bin .add), [(.tmp p16), (.const (.int .i64 (.ofNat 1)))], none⟩,
  ⟨some p3, .move, [(.tmp p17)], none⟩]))))))
 (.seq (.reg [
  ⟨some p40, .move, [(.tmp p0)], none⟩,
  ⟨some p41, .idxStr, [(.tmp p40), (.const (.int .i64 (.ofNat 0)))], none⟩,
  ⟨some p42, .call, [(.const (.fn 88 [] [])), (.const (.str [32, 33, 36, 37, 43, 45, 61, 64, 94, 123])), (.tmp p41)], none⟩,
  ⟨some p43, (.bin .lss), [(.tmp p42), (.const (.int .i64 (.ofNat 0)))], none⟩,
  ⟨some p44, .move, [(.tmp p43)], none⟩,
  ⟨some p45, .move, [(.tmp p0)], some (p44, true)⟩,
  ⟨some p46, .move, [(.tmp p0)], some (p44, true)⟩,
  ⟨some p47, .lenS, [(.tmp p46)], some (p44, true)⟩,
  ⟨some p48, (.bin .sub), [(.tmp p47), (.const (.int .i64 (.ofNat 1)))], some (p44, true)⟩,
  ⟨some p49, .idxStr, [(.tmp p45), (.tmp p48)], some (p44, true)⟩,
  ⟨some p50, (.eql (.base .int) true), [(.tmp p49), (.const (.int .u8 (.ofNat 32)))], some (p44, true)⟩,
  ⟨some p51, .pick, [(.tmp p44), (.tmp p50), (.const (.bool false))], none⟩,
  ⟨some p2, .move, [(.tmp p51)], none⟩])
 (.ret [.tmp p2]))))),
 [.tmp p2]⟩
def F40 : IFn := ⟨3,
(.seq (.reg [
  ⟨some p6, .move, [(.const (.bool false))], none⟩])
 (.seq (.seq (.reg [
  ⟨some p9, .move, [(.tmp p0)], none⟩,
  ⟨some p10, .lenL, [(.tmp p9)], none⟩,
  ⟨some p11, .move, [(.const (.int .i64 (.ofNat 0)))], none⟩])
 (.block 0 [] (.loop [p0, p1, p2, p9, p10, p11] (.seq (.reg [
  ⟨some p12, (.bin .lss), [(.tmp p11), (.tmp p10)], none⟩])
 (.seq (.cond (.tmp p12)
 .skip
 (.exit 0 []))
 (.seq (.block 1 [p0, p1, p2, p9, p10, p11] (.seq (.reg [
  ⟨some p13, .move, [(.tmp p11)], none⟩,
  ⟨some p14, (.idxSlice 2), [(.tmp p9), (.tmp p11)], none⟩,
  ⟨some p15, (.load true 2), [(.tmp p14)], none⟩,
  ⟨some p8, (.alloc 73 [(.int .i64 (.ofNat 0)), (.int .i64 (.ofNat 0))]), [], none⟩,
  ⟨some p7, .move, [(.tmp p13)], none⟩,
  ⟨none, (.store 2), [(.tmp p8), (.tmp p15)], none⟩])
 (.seq (.drawn [
  ⟨0, ⟨some p16, .move, [(.tmp p2)], none⟩, .pure, []⟩,
  ⟨1, ⟨some p17, .move, [(.tmp p1)], none⟩, .pure, []⟩,
  ⟨2, ⟨some p18, (.load true 2), [(.tmp p8)], none⟩, (.read 0 0), []⟩,
  ⟨3, ⟨some p19, .call, [(.tmp p17), (.tmp p18)], none⟩, .eff, [1, 2]⟩,
  ⟨4, ⟨some p20, .call, [(.tmp p16), (.tmp p19)], none⟩, .eff, [0, 3, 3]⟩,
  ⟨5, ⟨some p21, .not, [(.tmp p20)], none⟩, .pure, [4]⟩,
  ⟨6, ⟨some p22, .move, [(.tmp p21)], none⟩, .pure, [5, 4]⟩,
  ⟨7, ⟨some p23, .move, [(.tmp p7)], some (p22, false)⟩, .pure, [6]⟩,
  ⟨8, ⟨some p24, (.bin .gtr), [(.tmp p23), (.const (.int .i64 (.ofNat 0)))], some (p22, false)⟩, .pure, [7, 6]⟩,
  ⟨9, ⟨some p25, .move, [(.tmp p24)], some (p22, false)⟩, .pure, [8, 6, 6]⟩,
  ⟨10, ⟨some p26, .move, [(.tmp p1)], some (p25, true)⟩, .pure, [9]⟩,
  ⟨11, ⟨some p27, .move, [(.tmp p0)], some (p25, true)⟩, .pure, [9]⟩,
  ⟨12, ⟨some p28, .move, [(.tmp p7)], some (p25, true)⟩, .pure, [9]⟩,
  ⟨13, ⟨some p29, (.bin .sub), [(.tmp p28), (.const (.int .i64 (.ofNat 1)))], some (p25, true)⟩, .pure, [12, 9]⟩,
  ⟨14, ⟨some p30, (.idxSlice 2), [(.tmp p27), (.tmp p29)], some (p25, true)⟩, .pure, [11, 13, 9]⟩,
  ⟨15, ⟨some p31, (.load true 2), [(.tmp p30)], some (p25, true)⟩, (.read 2 2), [14, 9]⟩,
  ⟨16, ⟨some p32, .call, [(.tmp p26), (.tmp p31)], some (p25, true)⟩, .eff, [10, 15, 9, 9]⟩,
  ⟨17, ⟨some p33, .move, [(.tmp p1)], some (p25, true)⟩, .pure, [9]⟩,
  ⟨18, ⟨some p34, (.load true 2), [(.tmp p8)], some (p25, true)⟩, (.read 2 3), [9]⟩,
  ⟨19, ⟨some p35, .call, [(.tmp p33), (.tmp p34)], some (p25, true)⟩, .eff, [17, 18, 16, 9]⟩,
  ⟨20, ⟨some p36, (.bin .geq), [(.tmp p32), (.tmp p35)], some (p25, true)⟩, .pure, [16, 19, 9]⟩,
  ⟨21, ⟨some p37, .pick, [(.tmp p25), (.tmp p36), (.const (.bool false))], some (p22, false)⟩, .pure, [9, 20, 6]⟩,
  ⟨22, ⟨some p38, .pick, [(.tmp p22), (.const (.bool true)), (.tmp p37)], none⟩, .pure, [6, 21]⟩])
 (.cond (.tmp p38)
 (.seq (.reg [
  ⟨some p6, .move, [(.const (.bool false))], none⟩])
 (.ret [.tmp p6]))
 .skip))))
 (.reg [
  ⟨some p39, (.bin .add), [(.tmp p11), (.const (.int .i64 (.ofNat 1)))], none⟩,
  ⟨some p11, .move, [(.tmp p39)], none⟩])))))))
 (.seq (.reg [
  ⟨some p6, .move, [(.const (.bool true))], none⟩])
 (.ret [.tmp p6])))),
 [.tmp p6]⟩
def F41 : IFn := ⟨1,
(.seq (.reg [
  ⟨some p1, (.box 73 2), [(.tmp p0)], none⟩,
  ⟨some p2, .move, [(.const (.int .i64 (.ofNat 0)))], none⟩])
 (.seq (.reg [
  ⟨some p3, (.fieldAddr 0), [(.tmp p1)], none⟩,
  ⟨some p4, (.load false 1), [(.tmp p3)], none⟩,
  ⟨some p2, .move, [(.tmp p4)], none⟩])
 (.ret [.tmp p2]))),
 [.tmp p2]⟩
def F42 : IFn := ⟨1,
(.seq (.reg [
  ⟨some p2, .move, [(.const (.bool false))], none⟩])
 (.seq (.reg [
  ⟨some p3, .move, [(.tmp p0)], none⟩,
  ⟨some p4, (.bin .geq), [(.tmp p3), (.const (.int .i64 (.ofNat 0)))], none⟩,
  ⟨some p5, .move, [(.tmp p4)], none⟩,
  ⟨some p6, .move, [(.tmp p0)], some (p5, true)⟩,
  ⟨some p7, (.bin .leq), [(.tmp p6), (.const (.int .i64 (.ofNat 9999)))], some (p5, true)⟩,
  ⟨some p8, .pick, [(.tmp p5), (.tmp p7), (.const (.bool false))], none⟩,
  ⟨some p2, .move, [(.tmp p8)], none⟩])
 (.ret [.tmp p2]))),
 [.tmp p2]⟩
def F43 : IFn := ⟨2,
(.seq (.reg [
  ⟨some p2, (.box 25 2), [(.tmp p0)], none⟩,
  ⟨some p4, .move, [(.const (.bool false))], none⟩])
 (.seq (.reg [
  ⟨some p12, .mkMap, [], none⟩,
  ⟨some p5, .move, [(.tmp p12)], none⟩])
 (.seq (.seq (.reg [
  ⟨some p13, (.fieldAddr 1), [(.tmp p2)], none⟩,
  ⟨some p14, (.load false 1), [(.tmp p13)], none⟩,
  ⟨some p15, .lenL, [(.tmp p14)], none⟩,
  ⟨some p16, .move, [(.const (.int .i64 (.ofNat 0)))], none⟩])
 (.block 0 [p1, p5] (.loop [p1, p5, p14, p15, p16] (.seq (.reg [
  ⟨some p17, (.bin .lss), [(.tmp p16), (.tmp p15)], none⟩])
 (.seq (.cond (.tmp p17)
 .skip
 (.exit 0 [p1, p5]))
 (.seq (.block 1 [p1, p5, p14, p15, p16] (.seq (.reg [
  ⟨some p18, (.idxSlice 6), [(.tmp p14), (.tmp p16)], none⟩,
  ⟨some p19, (.load true 6), [(.tmp p18)], none⟩,
  ⟨some p7, (.alloc 66 [(.int .i64 (.ofNat 0)), (.str []), .snil, (.int .i64 (.ofNat 0)), (.int .i64 (.ofNat 0)), (.bool false)]), [], none⟩,
  ⟨none, (.store 6), [(.tmp p7), (.tmp p19)], none⟩])
 (.seq (.reg [
  ⟨some p20, (.fieldAddr 2), [(.tmp p7)], none⟩,
  ⟨some p21, (.load false 1), [(.tmp p20)], none⟩,
  ⟨some p22, .call, [(.const (.fn 74 [] [])), (.tmp p21)], none⟩,
  ⟨some p8, .move, [(.tmp p22)], none⟩])
 (.seq (.seq (.reg [
  ⟨some p23, .move, [(.tmp p8)], none⟩,
  ⟨some p24, .lenL, [(.tmp p23)], none⟩,
  ⟨some p25, .move, [(.const (.int .i64 (.ofNat 0)))], none⟩])
 (.block 2 [p1, p5, p7, p8, p14, p15, p16] (.loop [p1, p5, p7, p8, p14, p15, p16, p23, p24, p25] (.seq (.reg [
  ⟨some p26, (.bin .lss), [(.tmp p25), (.tmp p24)], none⟩])
 (.seq (.cond (.tmp p26)
 .skip
 (.exit 2 [p1, p5, p7, p8, p14, p15, p16]))
 (.seq (.block 3 [p1, p5, p7, p8, p14, p15, p16, p23, p24, p25] (.seq (.reg [
  ⟨some p27, (.idxSlice 1), [(.tmp p23), (.tmp p25)], none⟩,
  ⟨some p28, (.load false 1), [(.tmp p27)], none⟩,
  ⟨some p10, .move, [(.tmp p28)], none⟩])
 (.seq (.reg [
  ⟨some p29, .move, [(.tmp p5)], none⟩,
  ⟨some p30, .move, [(.tmp p10)], none⟩,
  ⟨some p31, (.lookup false (.int .i64 (.ofNat 0)) false), [(.tmp p29), (.tmp p30)], none⟩,
  ⟨some p32, (.bin .add), [(.tmp p31), (.const (.int .i64 (.ofNat 1)))], none⟩,
  ⟨none, (.mapUpdate false), [(.tmp p29), (.tmp p30), (.tmp p32)], none⟩])
 (.seq (.reg [
  ⟨some p33, .move, [(.tmp p5)], none⟩,
  ⟨some p34, .move, [(.tmp p10)], none⟩,
  ⟨some p35, (.lookup false (.int .i64 (.ofNat 0)) false), [(.tmp p33), (.tmp p34)], none⟩,
  ⟨some p36, (.bin .gtr), [(.tmp p35), (.const (.int .i64 (.ofNat 1)))], none⟩])
 (.cond (.tmp p36)
 (.seq (.reg [
  ⟨some p4, .move, [(.const (.bool false))], none⟩])
 (.ret [.tmp p4]))
 .skip)))))
 (.reg [
  ⟨some p37, (.bin .add), [(.tmp p25), (.const (.int .i64 (.ofNat 1)))], none⟩,
  ⟨some p25, .move, [(.tmp p37)], none⟩])))))))
 (.seq (.reg [
  ⟨some p38, (.fieldAddr 4), [(.tmp p7)], none⟩,
  ⟨some p39, (.load false 1), [(.tmp p38)], none⟩,
  ⟨some p40, (.eql (.base .int) false), [(.tmp p39), (.const (.int .i64 (.ofNat 0)))], none⟩,
  ⟨some p41, .move, [(.tmp p40)], none⟩,
  ⟨some p42, (.fieldAddr 4), [(.tmp p7)], some (p41, false)⟩,
  ⟨some p43, (.load false 1), [(.tmp p42)], some (p41, false)⟩,
  ⟨some p44, (.fieldAddr 3), [(.tmp p7)], some (p41, false)⟩,
  ⟨some p45, (.load false 1), [(.tmp p44)], some (p41, false)⟩,
  ⟨some p46, (.eql (.base .int) true), [(.tmp p43), (.tmp p45)], some (p41, false)⟩,
  ⟨some p47, .move, [(.tmp p46)], some (p41, false)⟩,
  ⟨some p48, .move, [(.tmp p8)], some (p47, true)⟩,
  ⟨some p49, (.fieldAddr 4), [(.tmp p7)], some (p47, true)⟩,
  ⟨some p50, (.load false 1), [(.tmp p49)], some (p47, true)⟩,
  ⟨some p51, .call, [(.const (.fn 73 [] [])), (.tmp p48), (.tmp p50)], some (p47, true)⟩,
  ⟨some p52, .pick, [(.tmp p47), (.tmp p51), (.const (.bool false))], some (p41, false)⟩,
  ⟨some p53, .pick, [(.tmp p41), (.const (.bool true)), (.tmp p52)], none⟩,
  ⟨some p11, .move, [(.tmp p53)], none⟩])
 (.seq (.seq (.reg [
  ⟨some p54, .move, [(.tmp p1)], none⟩,
  ⟨some p55, (.fieldAddr 0), [(.tmp p7)], none⟩,
  ⟨some p56, (.load false 1), [(.tmp p55)], none⟩,
  ⟨some p57, (.lookup false (.int .i64 (.ofNat 0)) false), [(.tmp p54), (.tmp p56)], none⟩,
  ⟨some p58, (.eql (.base .int) false), [(.tmp p57), (.const (.int .i64 (.ofNat 0)))], none⟩,
  ⟨some p59, .move, [(.tmp p58)], none⟩,
  ⟨some p60, (.fieldAddr 1), [(.tmp p7)], some (p59, false)⟩,
  ⟨some p61, (.load false 1), [(.tmp p60)], some (p59, false)⟩,
  ⟨some p62, .call, [(.const (.fn 39 [] [])), (.tmp p61)], some (p59, false)⟩,
  ⟨some p63, .not, [(.tmp p62)], some (p59, false)⟩,
  ⟨some p64, .pick, [(.tmp p59), (.const (.bool true)), (.tmp p63)], none⟩,
  ⟨some p65, .move, [(.tmp p64)], none⟩,
  ⟨some p66, .move, [(.tmp p8)], some (p65, false)⟩,
  ⟨some p67, (.fieldAddr 3), [(.tmp p7)], some (p65, false)⟩,
  ⟨some p68, (.load false 1), [(.tmp p67)], some (p65, false)⟩,
  ⟨some p69, .call, [(.const (.fn 73 [] [])), (.tmp p66), (.tmp p68)], some (p65, false)⟩,
  ⟨some p70, .not, [(.tmp p69)], some (p65, false)⟩,
  ⟨some p71, .pick, [(.tmp p65), (.const (.bool true)), (.tmp p70)], none⟩,
  ⟨some p72, .move, [(.tmp p71)], none⟩,
  ⟨some p73, .move, [(.tmp p11)], some (p72, false)⟩,
  ⟨some p74, .not, [(.tmp p73)], some (p72, false)⟩,
  ⟨some p75, .pick, [(.tmp p72), (.const (.bool true)), (.tmp p74)], none⟩,
  ⟨some p76, .move, [(.tmp p75)], none⟩,
  ⟨some p77, (.fieldAddr 5), [(.tmp p7)], some (p76, false)⟩,
  ⟨some p78, (.load false 1), [(.tmp p77)], some (p76, false)⟩,
  ⟨some p79, .move, [(.tmp p78)], some (p76, false)⟩,
  ⟨some p80, .move, [(.tmp p8)], some (p79, true)⟩,
  ⟨some p81, .lenL, [(.tmp p80)], some (p79, true)⟩,
  ⟨some p82, (.eql (.base .int) false), [(.tmp p81), (.const (.int .i64 (.ofNat 1)))], some (p79, true)⟩,
  ⟨some p83, .pick, [(.tmp p79), (.tmp p82), (.const (.bool false))], some (p76, false)⟩,
  ⟨some p84, .pick, [(.tmp p76), (.const (.bool true)), (.tmp p83)], none⟩])
 (.cond (.tmp p84)
 (.seq (.reg [
  ⟨some p4, .move, [(.const (.bool false))], none⟩])
 (.ret [.tmp p4]))
 .skip))
 (.reg [
  ⟨some p85, .move, [(.tmp p1)], none⟩,
  ⟨some p86, (.fieldAddr 0), [(.tmp p7)], none⟩,
  ⟨some p87, (.load false 1), [(.tmp p86)], none⟩,
  ⟨none, (.delete false), [(.tmp p85), (.tmp p87)], none⟩])))))))
 (.reg [
  ⟨some p88, (.bin .add), [(.tmp p16), (.const (.int .i64 (.ofNat 1)))], none⟩,
  ⟨some p16, .move, [(.tmp p88)], none⟩])))))))
 (.seq (.reg [
  ⟨some p89, .move, [(.tmp p1)], none⟩,
  ⟨some p90, .lenM, [(.tmp p89)], none⟩,
  ⟨some p91, (.eql (.base .int) false), [(.tmp p90), (.const (.int .i64 (.ofNat 0)))], none⟩,
  ⟨some p92, .move, [(.tmp p91)], none⟩,
  ⟨some p93, .move, [(.tmp p5)], some (p92, true)⟩,
  ⟨some p94, .lenM, [(.tmp p93)], some (p92, true)⟩,
  ⟨some p95, (.bin .leq), [(.tmp p94), (.const (.int .i64 (.ofNat 32)))], some (p92, true)⟩,
  ⟨some p96, .pick, [(.tmp p92), (.tmp p95), (.const (.bool false))], none⟩,
  ⟨some p4, .move, [(.tmp p96)], none⟩])
 (.ret [.tmp p4]))))),
 [.tmp p4]⟩
def F48 : IFn := ⟨6,
(.block 0 [] (.loop [p0, p1, p2, p3, p4, p5] (.seq (.seq (.reg [
  ⟨some p12, .move, [(.tmp p0)], none⟩,
  ⟨some p13, .lenL, [(.tmp p12)], none⟩,
  ⟨some p14, (.bin .gtr), [(.tmp p13), (.const (.int .i64 (.ofNat 0)))], none⟩,
  ⟨some p15, .move, [(.tmp p14)], none⟩,
  ⟨some p16, .move, [(.tmp p1)], some (p15, false)⟩,
  ⟨some p17, .lenL, [(.tmp p16)], some (p15, false)⟩,
  ⟨some p18, (.bin .gtr), [(.tmp p17), (.const (.int .i64 (.ofNat 0)))], some (p15, false)⟩,
  ⟨some p19, .pick, [(.tmp p15), (.const (.bool true)), (.tmp p18)], none⟩])
 (.cond (.tmp p19)
 .skip
 (.exit 0 [])))
 (.block 1 [p0, p1, p2, p3, p4, p5] (.block 2 [p0, p1, p2, p3, p4, p5] (.seq (.drawn [
  ⟨0, ⟨some p33, .move, [(.tmp p1)], none⟩, .pure, []⟩,
  ⟨1, ⟨some p34, .lenL, [(.tmp p33)], none⟩, .pure, [0]⟩,
  ⟨2, ⟨some p35, (.eql (.base .int) false), [(.tmp p34), (.const (.int .i64 (.ofNat 0)))], none⟩, (.read 0 0), [1]⟩,
  ⟨3, ⟨some p36, .move, [(.tmp p35)], none⟩, .pure, [2]⟩,
  ⟨4, ⟨some p37, .move, [(.tmp p0)], some (p36, false)⟩, .pure, [3]⟩,
  ⟨5, ⟨some p38, .lenL, [(.tmp p37)], some (p36, false)⟩, .pure, [4, 3]⟩,
  ⟨6, ⟨some p39, (.bin .gtr), [(.tmp p38), (.const (.int .i64 (.ofNat 0)))], some (p36, false)⟩, .pure, [5, 3]⟩,
  ⟨7, ⟨some p40, .move, [(.tmp p39)], some (p36, false)⟩, .pure, [6, 3, 3]⟩,
  ⟨8, ⟨some p41, .move, [(.tmp p2)], some (p40, true)⟩, .pure, [7]⟩,
  ⟨9, ⟨some p42, .move, [(.tmp p0)], some (p40, true)⟩, .pure, [7]⟩,
  ⟨10, ⟨some p43, (.idxSlice 1), [(.tmp p42), (.const (.int .i64 (.ofNat 0)))], some (p40, true)⟩, .pure, [9, 7]⟩,
  ⟨11, ⟨some p44, (.load false 1), [(.tmp p43)], some (p40, true)⟩, (.read 0 0), [10, 7]⟩,
  ⟨12, ⟨some p45, .call, [(.tmp p41), (.tmp p44)], some (p40, true)⟩, .eff, [8, 11, 7, 7]⟩,
  ⟨13, ⟨some p46, .move, [(.tmp p2)], some (p40, true)⟩, .pure, [7]⟩,
  ⟨14, ⟨some p47, .move, [(.tmp p1)], some (p40, true)⟩, .pure, [7]⟩,
  ⟨15, ⟨some p48, (.idxSlice 1), [(.tmp p47), (.const (.int .i64 (.ofNat 0)))], some (p40, true)⟩, .pure, [14, 7]⟩,
  ⟨16, ⟨some p49, (.load false 1), [(.tmp p48)], some (p40, true)⟩, (.read 0 1), [15, 7]⟩,
  ⟨17, ⟨some p50, .call, [(.tmp p46), (.tmp p49)], some (p40, true)⟩, .eff, [13, 16, 12, 7]⟩,
  ⟨18, ⟨some p51, (.bin .lss), [(.tmp p45), (.tmp p50)], some (p40, true)⟩, .pure, [12, 17, 7]⟩,
  ⟨19, ⟨some p52, .pick, [(.tmp p40), (.tmp p51), (.const (.bool false))], some (p36, false)⟩, .pure, [7, 18, 3]⟩,
  ⟨20, ⟨some p53, .pick, [(.tmp p36), (.const (.bool true)), (.tmp p52)], none⟩, .pure, [3, 19]⟩,
  ⟨21, ⟨some p32, .move, [(.tmp p53)], none⟩, .pure, [20, 17]⟩])
 (.cond (.tmp p32)
 (.seq (.reg [
  ⟨some p54, .move, [(.tmp p3)], none⟩,
  ⟨some p55, .move, [(.tmp p0)], none⟩,
  ⟨some p56, (.idxSlice 1), [(.tmp p55), (.const (.int .i64 (.ofNat 0)))], none⟩,
  ⟨some p57, (.load false 1), [(.tmp p56)], none⟩,
  ⟨some p58, .call, [(.tmp p54), (.tmp p57)], none⟩])
 (.reg [
  ⟨some p59, .move, [(.tmp p0)], none⟩,
  ⟨some p60, (.slSlice 1 true false false), [(.tmp p59), (.const (.int .i64 (.ofNat 1)))], none⟩,
  ⟨some p0, .move, [(.tmp p60)], none⟩]))
 (.seq (.drawn [
  ⟨0, ⟨some p62, .move, [(.tmp p0)], none⟩, .pure, []⟩,
  ⟨1, ⟨some p63, .lenL, [(.tmp p62)], none⟩, .pure, [0]⟩,
  ⟨2, ⟨some p64, (.eql (.base .int) false), [(.tmp p63), (.const (.int .i64 (.ofNat 0)))], none⟩, (.read 0 0), [1]⟩,
  ⟨3, ⟨some p65, .move, [(.tmp p64)], none⟩, .pure, [2]⟩,
  ⟨4, ⟨some p66, .move, [(.tmp p2)], some (p65, false)⟩, .pure, [3]⟩,
  ⟨5, ⟨some p67, .move, [(.tmp p1)], some (p65, false)⟩, .pure, [3]⟩,
  ⟨6, ⟨some p68, (.idxSlice 1), [(.tmp p67), (.const (.int .i64 (.ofNat 0)))], some (p65, false)⟩, .pure, [5, 3]⟩,
  ⟨7, ⟨some p69, (.load false 1), [(.tmp p68)], some (p65, false)⟩, (.read 0 0), [6, 3]⟩,
  ⟨8, ⟨some p70, .call, [(.tmp p66), (.tmp p69)], some (p65, false)⟩, .eff, [4, 7, 3, 3]⟩,
  ⟨9, ⟨some p71, .move, [(.tmp p2)], some (p65, false)⟩, .pure, [3]⟩,
  ⟨10, ⟨some p72, .move, [(.tmp p0)], some (p65, false)⟩, .pure, [3]⟩,
  ⟨11, ⟨some p73, (.idxSlice 1), [(.tmp p72), (.const (.int .i64 (.ofNat 0)))], some (p65, false)⟩, .pure, [10, 3]⟩,
  ⟨12, ⟨some p74, (.load false 1), [(.tmp p73)], some (p65, false)⟩, (.read 0 1), [11, 3]⟩,
  ⟨13, ⟨some p75, .call, [(.tmp p71), (.tmp p74)], some (p65, false)⟩, .eff, [9, 12, 8, 3]⟩,
  ⟨14, ⟨some p76, (.bin .lss), [(.tmp p70), (.tmp p75)], some (p65, false)⟩, .pure, [8, 13, 3]⟩,
  ⟨15, ⟨some p77, .pick, [(.tmp p65), (.const (.bool true)), (.tmp p76)], none⟩, .pure, [3, 14]⟩,
  ⟨16, ⟨some p61, .move, [(.tmp p77)], none⟩, .pure, [15, 13]⟩])
 (.cond (.tmp p61)
 (.seq (.reg [
  ⟨some p78, .move, [(.tmp p5)], none⟩,
  ⟨some p79, .move, [(.tmp p1)], none⟩,
  ⟨some p80, (.idxSlice 1), [(.tmp p79), (.const (.int .i64 (.ofNat 0)))], none⟩,
  ⟨some p81, (.load false 1), [(.tmp p80)], none⟩,
  ⟨some p82, .call, [(.tmp p78), (.tmp p81)], none⟩])
 (.reg [
  ⟨some p83, .move, [(.tmp p1)], none⟩,
  ⟨some p84, (.slSlice 1 true false false), [(.tmp p83), (.const (.int .i64 (.ofNat 1)))], none⟩,
  ⟨some p1, .move, [(.tmp p84)], none⟩]))
 (.seq (.drawn [
  ⟨0, ⟨some p20, .move, [(.tmp p4)], none⟩, .pure, []⟩,
  ⟨1, ⟨some p21, .move, [(.tmp p0)], none⟩, .pure, []⟩,
  ⟨2, ⟨some p22, (.idxSlice 1), [(.tmp p21), (.const (.int .i64 (.ofNat 0)))], none⟩, .pure, [1]⟩,
  ⟨3, ⟨some p23, (.load false 1), [(.tmp p22)], none⟩, (.read 0 0), [2]⟩,
  ⟨4, ⟨some p24, .move, [(.tmp p1)], none⟩, .pure, []⟩,
  ⟨5, ⟨some p25, (.idxSlice 1), [(.tmp p24), (.const (.int .i64 (.ofNat 0)))], none⟩, .pure, [4]⟩,
  ⟨6, ⟨some p26, (.load false 1), [(.tmp p25)], none⟩, (.read 0 0), [5]⟩,
  ⟨7, ⟨some p27, .call, [(.tmp p20), (.tmp p23), (.tmp p26)], none⟩, .eff, [0, 3, 6]⟩])
 (.drawn [
  ⟨0, ⟨some p28, .move, [(.tmp p0)], none⟩, .pure, []⟩,
  ⟨1, ⟨some p29, (.slSlice 1 true false false), [(.tmp p28), (.const (.int .i64 (.ofNat 1)))], none⟩, .pure, [0]⟩,
  ⟨2, ⟨some p30, .move, [(.tmp p1)], none⟩, .pure, []⟩,
  ⟨3, ⟨some p31, (.slSlice 1 true false false), [(.tmp p30), (.const (.int .i64 (.ofNat 1)))], none⟩, .pure, [2]⟩,
  ⟨4, ⟨some p0, .move, [(.tmp p29)], none⟩, .pure, [1, 0, 1]⟩,
  ⟨5, ⟨some p1, .move, [(.tmp p31)], none⟩, .pure, [3, 4, 0, 1, 2, 3, 4]⟩]))))))))))),
 []⟩
def F49 : IFn := ⟨1,
(.seq (.reg [
  ⟨some p1, (.box 25 2), [(.tmp p0)], none⟩,
  ⟨some p2, .move, [(.const .snil)], none⟩])
 (.seq (.reg [
  ⟨some p3, .move, [(.const .snil)], none⟩])
 (.seq (.seq (.reg [
  ⟨some p6, (.fieldAddr 1), [(.tmp p1)], none⟩,
  ⟨some p7, (.load false 1), [(.tmp p6)], none⟩,
  ⟨some p8, .lenL, [(.tmp p7)], none⟩,
  ⟨some p9, .move, [(.const (.int .i64 (.ofNat 0)))], none⟩])
 (.block 0 [p3] (.loop [p3, p7, p8, p9] (.seq (.reg [
  ⟨some p10, (.bin .lss), [(.tmp p9), (.tmp p8)], none⟩])
 (.seq (.cond (.tmp p10)
 .skip
 (.exit 0 [p3]))
 (.seq (.block 1 [p3, p7, p8, p9] (.seq (.reg [
  ⟨some p11, (.idxSlice 6), [(.tmp p7), (.tmp p9)], none⟩,
  ⟨some p12, (.load true 6), [(.tmp p11)], none⟩,
  ⟨some p5, (.alloc 66 [(.int .i64 (.ofNat 0)), (.str []), .snil, (.int .i64 (.ofNat 0)), (.int .i64 (.ofNat 0)), (.bool false)]), [], none⟩,
  ⟨none, (.store 6), [(.tmp p5), (.tmp p12)], none⟩])
 (.reg [
  ⟨some p13, .move, [(.tmp p3)], none⟩,
  ⟨some p14, (.fieldAddr 2), [(.tmp p5)], none⟩,
  ⟨some p15, (.load false 1), [(.tmp p14)], none⟩,
  ⟨some p16, .call, [(.const (.fn 74 [] [])), (.tmp p15)], none⟩,
  ⟨some p17, (.append 3 1 8), [(.tmp p13), (.tmp p16)], none⟩,
  ⟨some p3, .move, [(.tmp p17)], none⟩])))
 (.reg [
  ⟨some p18, (.bin .add), [(.tmp p9), (.const (.int .i64 (.ofNat 1)))], none⟩,
  ⟨some p9, .move, [(.tmp p18)], none⟩])))))))
 (.seq (.reg [
  ⟨some p19, .move, [(.tmp p3)], none⟩,
  ⟨some p20, .call, [(.const (.fn 92 [] [])), (.tmp p19)], none⟩])
 (.seq (.reg [
  ⟨some p21, .move, [(.tmp p3)], none⟩,
  ⟨some p2, .move, [(.tmp p21)], none⟩])
 (.ret [.tmp p2])))))),
 [.tmp p2]⟩
def F50 : IFn := ⟨1,
(.seq (.reg [
  ⟨some p2, .move, [(.const (.int .i64 (.ofNat 0)))], none⟩])
 (.seq (.reg [
  ⟨some p3, .move, [(.tmp p0)], none⟩,
  ⟨some p2, .move, [(.tmp p3)], none⟩])
 (.ret [.tmp p2]))),
 [.tmp p2]⟩
def F51 : IFn := ⟨2,
(.reg [
  ⟨some p3, .move, [(.tmp p0)], none⟩,
  ⟨some p4, (.build [(.int .i64 (.ofNat 0)), (.int .i64 (.ofNat 0)), (.int .i64 (.ofNat 0)), (.int .i64 (.ofNat 0)), (.int .i64 (.ofNat 0)), (.int .i64 (.ofNat 0)), (.int .i64 (.ofNat 0)), (.int .i64 (.ofNat 0)), (.int .i64 (.ofNat 0)), (.str []), (.str []), (.str []), (.str []), (.bool false)] [(0, 1), (3, 1)]), [(.const (.int .i64 (.ofNat 9))), (.tmp p3)], none⟩,
  ⟨some p5, (.buildSlice 38 14 [(.int .i64 (.ofNat 0)), (.int .i64 (.ofNat 0)), (.int .i64 (.ofNat 0)), (.int .i64 (.ofNat 0)), (.int .i64 (.ofNat 0)), (.int .i64 (.ofNat 0)), (.int .i64 (.ofNat 0)), (.int .i64 (.ofNat 0)), (.int .i64 (.ofNat 0)), (.str []), (.str []), (.str []), (.str []), (.bool false)] 1 [(0, 14)]), [(.tmp p4)], none⟩,
  ⟨some p6, .call, [(.const (.fn 52 [] [])), (.tmp p1), (.const (.int .i64 (.ofNat 13))), (.tmp p5)], none⟩]),
 []⟩
def F52 : IFn := ⟨3,
(.drawn [
  ⟨0, ⟨some p6, .move, [(.tmp p0)], none⟩, .pure, []⟩,
  ⟨1, ⟨some p7, .move, [(.tmp p1)], none⟩, .pure, []⟩,
  ⟨2, ⟨some p8, (.bin .sub), [(.tmp p7), (.const (.int .i64 (.ofNat 1)))], none⟩, .pure, [1]⟩,
  ⟨3, ⟨some p9, .move, [(.tmp p0)], none⟩, .pure, []⟩,
  ⟨4, ⟨some p10, .move, [(.tmp p1)], none⟩, .pure, []⟩,
  ⟨5, ⟨some p11, (.bin .sub), [(.tmp p10), (.const (.int .i64 (.ofNat 1)))], none⟩, .pure, [4]⟩,
  ⟨6, ⟨some p12, .nilCheck, [(.tmp p9)], none⟩, .pure, [3]⟩,
  ⟨7, ⟨some p13, (.idxArr 1 13), [(.tmp p12), (.tmp p11)], none⟩, .pure, [6, 5]⟩,
  ⟨8, ⟨some p14, (.load false 1), [(.tmp p13)], none⟩, (.read 0 0), [7]⟩,
  ⟨9, ⟨some p15, .move, [(.tmp p2)], none⟩, .pure, []⟩,
  ⟨10, ⟨some p16, (.append 38 14 144), [(.tmp p14), (.tmp p15)], none⟩, .eff, [8, 9]⟩,
  ⟨11, ⟨some p17, .nilCheck, [(.tmp p6)], none⟩, .pure, [0]⟩,
  ⟨12, ⟨some p18, (.idxArr 1 13), [(.tmp p17), (.tmp p8)], none⟩, .pure, [11, 2, 0, 1, 2, 3, 4, 5, 6, 7, 8, 9, 10]⟩,
  ⟨13, ⟨none, (.store 1), [(.tmp p18), (.tmp p16)], none⟩, .eff, [12, 10, 10, 0, 1, 2, 3, 4, 5, 6, 7, 8, 9, 10]⟩]),
 []⟩
def F53 : IFn := ⟨2,
.skip,
 []⟩
def F54 : IFn := ⟨2,
(.reg [
  ⟨some p3, .move, [(.tmp p0)], none⟩,
  ⟨some p4, (.build [(.int .i64 (.ofNat 0)), (.int .i64 (.ofNat 0)), (.int .i64 (.ofNat 0)), (.int .i64 (.ofNat 0)), (.int .i64 (.ofNat 0)), (.int .i64 (.ofNat 0)), (.int .i64 (.ofNat 0)), (.int .i64 (.ofNat 0)), (.int .i64 (.ofNat 0)), (.str []), (.str []), (.str []), (.str []), (.bool false)] [(0, 1), (3, 1)]), [(.const (.int .i64 (.ofNat 8))), (.tmp p3)], none⟩,
  ⟨some p5, (.buildSlice 38 14 [(.int .i64 (.ofNat 0)), (.int .i64 (.ofNat 0)), (.int .i64 (.ofNat 0)), (.int .i64 (.ofNat 0)), (.int .i64 (.ofNat 0)), (.int .i64 (.ofNat 0)), (.int .i64 (.ofNat 0)), (.int .i64 (.ofNat 0)), (.int .i64 (.ofNat 0)), (.str []), (.str []), (.str []), (.str []), (.bool false)] 1 [(0, 14)]), [(.tmp p4)], none⟩,
  ⟨some p6, .call, [(.const (.fn 52 [] [])), (.tmp p1), (.const (.int .i64 (.ofNat 1))), (.tmp p5)], none⟩]),
 []⟩
def F55 : IFn := ⟨6,
(.block 0 [] (.loop [p0, p1, p2, p3, p4, p5] (.seq (.seq (.reg [
  ⟨some p12, .move, [(.tmp p0)], none⟩,
  ⟨some p13, .lenL, [(.tmp p12)], none⟩,
  ⟨some p14, (.bin .gtr), [(.tmp p13), (.const (.int .i64 (.ofNat 0)))], none⟩,
  ⟨some p15, .move, [(.tmp p14)], none⟩,
  ⟨some p16, .move, [(.tmp p1)], some (p15, false)⟩,
  ⟨some p17, .lenL, [(.tmp p16)], some (p15, false)⟩,
  ⟨some p18, (.bin .gtr), [(.tmp p17), (.const (.int .i64 (.ofNat 0)))], some (p15, false)⟩,
  ⟨some p19, .pick, [(.tmp p15), (.const (.bool true)), (.tmp p18)], none⟩])
 (.cond (.tmp p19)
 .skip
 (.exit 0 [])))
 (.block 1 [p0, p1, p2, p3, p4, p5] (.block 2 [p0, p1, p2, p3, p4, p5] (.seq (.drawn [
  ⟨0, ⟨some p33, .move, [(.tmp p1)], none⟩, .pure, []⟩,
  ⟨1, ⟨some p34, .lenL, [(.tmp p33)], none⟩, .pure, [0]⟩,
  ⟨2, ⟨some p35, (.eql (.base .int) false), [(.tmp p34), (.const (.int .i64 (.ofNat 0)))], none⟩, (.read 0 0), [1]⟩,
  ⟨3, ⟨some p36, .move, [(.tmp p35)], none⟩, .pure, [2]⟩,
  ⟨4, ⟨some p37, .move, [(.tmp p0)], some (p36, false)⟩, .pure, [3]⟩,
  ⟨5, ⟨some p38, .lenL, [(.tmp p37)], some (p36, false)⟩, .pure, [4, 3]⟩,
  ⟨6, ⟨some p39, (.bin .gtr), [(.tmp p38), (.const (.int .i64 (.ofNat 0)))], some (p36, false)⟩, .pure, [5, 3]⟩,
  ⟨7, ⟨some p40, .move, [(.tmp p39)], some (p36, false)⟩, .pure, [6, 3, 3]⟩,
  ⟨8, ⟨some p41, .move, [(.tmp p2)], some (p40, true)⟩, .pure, [7]⟩,
  ⟨9, ⟨some p42, .move, [(.tmp p0)], some (p40, true)⟩, .pure, [7]⟩,
  ⟨10, ⟨some p43, (.idxSlice 6), [(.tmp p42), (.const (.int .i64 (.ofNat 0)))], some (p40, true)⟩, .pure, [9, 7]⟩,
  ⟨11, ⟨some p44, (.load true 6), [(.tmp p43)], some (p40, true)⟩, (.read 0 0), [10, 7]⟩,
  ⟨12, ⟨some p45, .call, [(.tmp p41), (.tmp p44)], some (p40, true)⟩, .eff, [8, 11, 7, 7]⟩,
  ⟨13, ⟨some p46, .move, [(.tmp p2)], some (p40, true)⟩, .pure, [7]⟩,
  ⟨14, ⟨some p47, .move, [(.tmp p1)], some (p40, true)⟩, .pure, [7]⟩,
  ⟨15, ⟨some p48, (.idxSlice 6), [(.tmp p47), (.const (.int .i64 (.ofNat 0)))], some (p40, true)⟩, .pure, [14, 7]⟩,
  ⟨16, ⟨some p49, (.load true 6), [(.tmp p48)], some (p40, true)⟩, (.read 0 1), [15, 7]⟩,
  ⟨17, ⟨some p50, .call, [(.tmp p46), (.tmp p49)], some (p40, true)⟩, .eff, [13, 16, 12, 7]⟩,
  ⟨18, ⟨some p51, (.bin .lss), [(.tmp p45), (.tmp p50)], some (p40, true)⟩, .pure, [12, 17, 7]⟩,
  ⟨19, ⟨some p52, .pick, [(.tmp p40), (.tmp p51), (.const (.bool false))], some (p36, false)⟩, .pure, [7, 18, 3]⟩,
  ⟨20, ⟨some p53, .pick, [(.tmp p36), (.const (.bool true)), (.tmp p52)], none⟩, .pure, [3, 19]⟩,
  ⟨21, ⟨some p32, .move, [(.tmp p53)], none⟩, .pure, [20, 17]⟩])
 (.cond (.tmp p32)
 (.seq (.reg [
  ⟨some p54, .move, [(.tmp p3)], none⟩,
  ⟨some p55, .move, [(.tmp p0)], none⟩,
  ⟨some p56, (.idxSlice 6), [(.tmp p55), (.const (.int .i64 (.ofNat 0)))], none⟩,
  ⟨some p57, (.load true 6), [(.tmp p56)], none⟩,
  ⟨some p58, .call, [(.tmp p54), (.tmp p57)], none⟩])
 (.reg [
  ⟨some p59, .move, [(.tmp p0)], none⟩,
  ⟨some p60, (.slSlice 6 true false false), [(.tmp p59), (.const (.int .i64 (.ofNat 1)))], none⟩,
  ⟨some p0, .move, [(.tmp p60)], none⟩]))
 (.seq (.drawn [
  ⟨0, ⟨some p62, .move, [(.tmp p0)], none⟩, .pure, []⟩,
  ⟨1, ⟨some p63, .lenL, [(.tmp p62)], none⟩, .pure, [0]⟩,
  ⟨2, ⟨some p64, (.eql (.base .int) false), [(.tmp p63), (.const (.int .i64 (.ofNat 0)))], none⟩, (.read 0 0), [1]⟩,
  ⟨3, ⟨some p65, .move, [(.tmp p64)], none⟩, .pure, [2]⟩,
  ⟨4, ⟨some p66, .move, [(.tmp p2)], some (p65, false)⟩, .pure, [3]⟩,
  ⟨5, ⟨some p67, .move, [(.tmp p1)], some (p65, false)⟩, .pure, [3]⟩,
  ⟨6, ⟨some p68, (.idxSlice 6), [(.tmp p67), (.const (.int .i64 (.ofNat 0)))], some (p65, false)⟩, .pure, [5, 3]⟩,
  ⟨7, ⟨some p69, (.load true 6), [(.tmp p68)], some (p65, false)⟩, (.read 0 0), [6, 3]⟩,
  ⟨8, ⟨some p70, .call, [(.tmp p66), (.tmp p69)], some (p65, false)⟩, .eff, [4, 7, 3, 3]⟩,
  ⟨9, ⟨some p71, .move, [(.tmp p2)], some (p65, false)⟩, .pure, [3]⟩,
  ⟨10, ⟨some p72, .move, [(.tmp p0)], some (p65, false)⟩, .pure, [3]⟩,
  ⟨11, ⟨some p73, (.idxSlice 6), [(.tmp p72), (.const (.int .i64 (.ofNat 0)))], some (p65, false)⟩, .pure, [10, 3]⟩,
  ⟨12, ⟨some p74, (.load true 6), [(.tmp p73)], some (p65, false)⟩, (.read 0 1), [11, 3]⟩,
  ⟨13, ⟨some p75, .call, [(.tmp p71), (.tmp p74)], some (p65, false)⟩, .eff, [9, 12, 8, 3]⟩,
  ⟨14, ⟨some p76, (.bin .lss), [(.tmp p70), (.tmp p75)], some (p65, false)⟩, .pure, [8, 13, 3]⟩,
  ⟨15, ⟨some p77, .pick, [(.tmp p65), (.const (.bool true)), (.tmp p76)], none⟩, .pure, [3, 14]⟩,
  ⟨16, ⟨some p61, .move, [(.tmp p77)], none⟩, .pure, [15, 13]⟩])
 (.cond (.tmp p61)
 (.seq (.reg [
  ⟨some p78, .move, [(.tmp p5)], none⟩,
  ⟨some p79, .move, [(.tmp p1)], none⟩,
  ⟨some p80, (.idxSlice 6), [(.tmp p79), (.const (.int .i64 (.ofNat 0)))], none⟩,
  ⟨some p81, (.load true 6), [(.tmp p80)], none⟩,
  ⟨some p82, .call, [(.tmp p78), (.tmp p81)], none⟩])
 (.reg [
  ⟨some p83, .move, [(.tmp p1)], none⟩,
  ⟨some p84, (.slSlice 6 true false false), [(.tmp p83), (.const (.int .i64 (.ofNat 1)))], none⟩,
  ⟨some p1, .move, [(.tmp p84)], none⟩]))
 (.seq (.drawn [
  ⟨0, ⟨some p20, .move, [(.tmp p4)], none⟩, .pure, []⟩,
  ⟨1, ⟨some p21, .move, [(.tmp p0)], none⟩, .pure, []⟩,
  ⟨2, ⟨some p22, (.idxSlice 6), [(.tmp p21), (.const (.int .i64 (.ofNat 0)))], none⟩, .pure, [1]⟩,
  ⟨3, ⟨some p23, (.load true 6), [(.tmp p22)], none⟩, (.read 0 0), [2]⟩,
  ⟨4, ⟨some p24, .move, [(.tmp p1)], none⟩, .pure, []⟩,
  ⟨5, ⟨some p25, (.idxSlice 6), [(.tmp p24), (.const (.int .i64 (.ofNat 0)))], none⟩, .pure, [4]⟩,
  ⟨6, ⟨some p26, (.load true 6), [(.tmp p25)], none⟩, (.read 0 0), [5]⟩,
  ⟨7, ⟨some p27, .call, [(.tmp p20), (.tmp p23), (.tmp p26)], none⟩, .eff, [0, 3, 6]⟩])
 (.drawn [
  ⟨0, ⟨some p28, .move, [(.tmp p0)], none⟩, .pure, []⟩,
  ⟨1, ⟨some p29, (.slSlice 6 true false false), [(.tmp p28), (.const (.int .i64 (.ofNat 1)))], none⟩, .pure, [0]⟩,
  ⟨2, ⟨some p30, .move, [(.tmp p1)], none⟩, .pure, []⟩,
  ⟨3, ⟨some p31, (.slSlice 6 true false false), [(.tmp p30), (.const (.int .i64 (.ofNat 1)))], none⟩, .pure, [2]⟩,
  ⟨4, ⟨some p0, .move, [(.tmp p29)], none⟩, .pure, [1, 0, 1]⟩,
  ⟨5, ⟨some p1, .move, [(.tmp p31)], none⟩, .pure, [3, 4, 0, 1, 2, 3, 4]⟩]))))))))))),
 []⟩
def F56 : IFn := ⟨2,
(.seq (.reg [
  ⟨some p2, (.box 66 6), [(.tmp p0)], none⟩])
 (.reg [
  ⟨some p3, (.fieldAddr 0), [(.tmp p2)], none⟩,
  ⟨some p4, (.load false 1), [(.tmp p3)], none⟩,
  ⟨some p5, (.build [(.int .i64 (.ofNat 0)), (.int .i64 (.ofNat 0)), (.int .i64 (.ofNat 0)), (.int .i64 (.ofNat 0)), (.int .i64 (.ofNat 0)), (.int .i64 (.ofNat 0)), (.int .i64 (.ofNat 0)), (.int .i64 (.ofNat 0)), (.int .i64 (.ofNat 0)), (.str []), (.str []), (.str []), (.str []), (.bool false)] [(0, 1), (2, 1)]), [(.const (.int .i64 (.ofNat 11))), (.tmp p4)], none⟩,
  ⟨some p6, (.buildSlice 38 14 [(.int .i64 (.ofNat 0)), (.int .i64 (.ofNat 0)), (.int .i64 (.ofNat 0)), (.int .i64 (.ofNat 0)), (.int .i64 (.ofNat 0)), (.int .i64 (.ofNat 0)), (.int .i64 (.ofNat 0)), (.int .i64 (.ofNat 0)), (.int .i64 (.ofNat 0)), (.str []), (.str []), (.str []), (.str []), (.bool false)] 1 [(0, 14)]), [(.tmp p5)], none⟩,
  ⟨some p7, .call, [(.const (.fn 52 [] [])), (.tmp p1), (.const (.int .i64 (.ofNat 12))), (.tmp p6)], none⟩])),
 []⟩
def F57 : IFn := ⟨3,
(.seq (.reg [
  ⟨some p4, (.box 66 6), [(.tmp p1)], none⟩,
  ⟨some p5, (.box 66 6), [(.tmp p2)], none⟩])
 (.seq (.seq (.reg [
  ⟨some p6, (.fieldAddr 1), [(.tmp p4)], none⟩,
  ⟨some p7, (.load false 1), [(.tmp p6)], none⟩,
  ⟨some p8, (.fieldAddr 1), [(.tmp p5)], none⟩,
  ⟨some p9, (.load false 1), [(.tmp p8)], none⟩,
  ⟨some p10, (.eql (.base .str) true), [(.tmp p7), (.tmp p9)], none⟩])
 (.cond (.tmp p10)
 (.reg [
  ⟨some p11, .move, [(.tmp p0)], none⟩,
  ⟨some p12, (.fieldAddr 0), [(.tmp p5)], none⟩,
  ⟨some p13, (.load false 1), [(.tmp p12)], none⟩,
  ⟨some p14, (.fieldAddr 1), [(.tmp p5)], none⟩,
  ⟨some p15, (.load false 1), [(.tmp p14)], none⟩,
  ⟨some p16, (.build [(.int .i64 (.ofNat 0)), (.int .i64 (.ofNat 0)), (.int .i64 (.ofNat 0)), (.int .i64 (.ofNat 0)), (.int .i64 (.ofNat 0)), (.int .i64 (.ofNat 0)), (.int .i64 (.ofNat 0)), (.int .i64 (.ofNat 0)), (.int .i64 (.ofNat 0)), (.str []), (.str []), (.str []), (.str []), (.bool false)] [(0, 1), (2, 1), (9, 1)]), [(.const (.int .i64 (.ofNat 12))), (.tmp p13), (.tmp p15)], none⟩,
  ⟨some p17, (.buildSlice 38 14 [(.int .i64 (.ofNat 0)), (.int .i64 (.ofNat 0)), (.int .i64 (.ofNat 0)), (.int .i64 (.ofNat 0)), (.int .i64 (.ofNat 0)), (.int .i64 (.ofNat 0)), (.int .i64 (.ofNat 0)), (.int .i64 (.ofNat 0)), (.int .i64 (.ofNat 0)), (.str []), (.str []), (.str []), (.str []), (.bool false)] 1 [(0, 14)]), [(.tmp p16)], none⟩,
  ⟨some p18, .call, [(.const (.fn 52 [] [])), (.tmp p11), (.const (.int .i64 (.ofNat 3))), (.tmp p17)], none⟩])
 .skip))
 (.seq (.seq (.drawn [
  ⟨0, ⟨some p19, (.load true 6), [(.tmp p4)], none⟩, (.read 0 0), []⟩,
  ⟨1, ⟨some p20, .call, [(.const (.fn 59 [] [])), (.tmp p19)], none⟩, .eff, [0]⟩,
  ⟨2, ⟨some p21, (.load true 6), [(.tmp p5)], none⟩, (.read 0 1), []⟩,
  ⟨3, ⟨some p22, .call, [(.const (.fn 59 [] [])), (.tmp p21)], none⟩, .eff, [2, 1]⟩,
  ⟨4, ⟨some p23, (.eql (.struct [(0, .int), (1, .int), (2, .int), (3, .int), (4, .int), (5, .int), (6, .int), (7, .int), (8, .int), (9, .str), (10, .str), (11, .str), (12, .str), (13, .bool)]) true), [(.tmp p20), (.tmp p22)], none⟩, (.read 2 2), [1, 3]⟩])
 (.cond (.tmp p23)
 (.reg [
  ⟨some p24, .move, [(.tmp p0)], none⟩,
  ⟨some p25, (.load true 6), [(.tmp p5)], none⟩,
  ⟨some p26, .call, [(.const (.fn 59 [] [])), (.tmp p25)], none⟩,
  ⟨some p27, (.buildSlice 38 14 [(.int .i64 (.ofNat 0)), (.int .i64 (.ofNat 0)), (.int .i64 (.ofNat 0)), (.int .i64 (.ofNat 0)), (.int .i64 (.ofNat 0)), (.int .i64 (.ofNat 0)), (.int .i64 (.ofNat 0)), (.int .i64 (.ofNat 0)), (.int .i64 (.ofNat 0)), (.str []), (.str []), (.str []), (.str []), (.bool false)] 1 [(0, 14)]), [(.tmp p26)], none⟩,
  ⟨some p28, .call, [(.const (.fn 52 [] [])), (.tmp p24), (.const (.int .i64 (.ofNat 4))), (.tmp p27)], none⟩])
 .skip))
 (.seq (.reg [
  ⟨some p29, (.fieldAddr 3), [(.tmp p4)], none⟩,
  ⟨some p30, (.load false 1), [(.tmp p29)], none⟩,
  ⟨some p31, (.fieldAddr 3), [(.tmp p5)], none⟩,
  ⟨some p32, (.load false 1), [(.tmp p31)], none⟩,
  ⟨some p33, (.eql (.base .int) true), [(.tmp p30), (.tmp p32)], none⟩])
 (.cond (.tmp p33)
 (.reg [
  ⟨some p34, .move, [(.tmp p0)], none⟩,
  ⟨some p35, (.fieldAddr 0), [(.tmp p5)], none⟩,
  ⟨some p36, (.load false 1), [(.tmp p35)], none⟩,
  ⟨some p37, (.fieldAddr 3), [(.tmp p5)], none⟩,
  ⟨some p38, (.load false 1), [(.tmp p37)], none⟩,
  ⟨some p39, (.build [(.int .i64 (.ofNat 0)), (.int .i64 (.ofNat 0)), (.int .i64 (.ofNat 0)), (.int .i64 (.ofNat 0)), (.int .i64 (.ofNat 0)), (.int .i64 (.ofNat 0)), (.int .i64 (.ofNat 0)), (.int .i64 (.ofNat 0)), (.int .i64 (.ofNat 0)), (.str []), (.str []), (.str []), (.str []), (.bool false)] [(0, 1), (2, 1), (3, 1)]), [(.const (.int .i64 (.ofNat 14))), (.tmp p36), (.tmp p38)], none⟩,
  ⟨some p40, (.buildSlice 38 14 [(.int .i64 (.ofNat 0)), (.int .i64 (.ofNat 0)), (.int .i64 (.ofNat 0)), (.int .i64 (.ofNat 0)), (.int .i64 (.ofNat 0)), (.int .i64 (.ofNat 0)), (.int .i64 (.ofNat 0)), (.int .i64 (.ofNat 0)), (.int .i64 (.ofNat 0)), (.str []), (.str []), (.str []), (.str []), (.bool false)] 1 [(0, 14)]), [(.tmp p39)], none⟩,
  ⟨some p41, .call, [(.const (.fn 52 [] [])), (.tmp p34), (.const (.int .i64 (.ofNat 5))), (.tmp p40)], none⟩])
 .skip))))),
 []⟩
def F58 : IFn := ⟨2,
(.seq (.reg [
  ⟨some p2, (.box 66 6), [(.tmp p0)], none⟩])
 (.seq (.reg [
  ⟨some p3, (.fieldAddr 0), [(.tmp p2)], none⟩,
  ⟨some p4, (.load false 1), [(.tmp p3)], none⟩,
  ⟨some p5, (.fieldAddr 1), [(.tmp p2)], none⟩,
  ⟨some p6, (.load false 1), [(.tmp p5)], none⟩,
  ⟨some p7, (.build [(.int .i64 (.ofNat 0)), (.int .i64 (.ofNat 0)), (.int .i64 (.ofNat 0)), (.int .i64 (.ofNat 0)), (.int .i64 (.ofNat 0)), (.int .i64 (.ofNat 0)), (.int .i64 (.ofNat 0)), (.int .i64 (.ofNat 0)), (.int .i64 (.ofNat 0)), (.str []), (.str []), (.str []), (.str []), (.bool false)] [(0, 1), (2, 1), (9, 1)]), [(.const (.int .i64 (.ofNat 10))), (.tmp p4), (.tmp p6)], none⟩,
  ⟨some p8, (.buildSlice 38 14 [(.int .i64 (.ofNat 0)), (.int .i64 (.ofNat 0)), (.int .i64 (.ofNat 0)), (.int .i64 (.ofNat 0)), (.int .i64 (.ofNat 0)), (.int .i64 (.ofNat 0)), (.int .i64 (.ofNat 0)), (.int .i64 (.ofNat 0)), (.int .i64 (.ofNat 0)), (.str []), (.str []), (.str []), (.str []), (.bool false)] 1 [(0, 14)]), [(.tmp p7)], none⟩,
  ⟨some p9, .call, [(.const (.fn 52 [] [])), (.tmp p1), (.const (.int .i64 (.ofNat 2))), (.tmp p8)], none⟩])
 (.seq (.reg [
  ⟨some p10, (.load true 6), [(.tmp p2)], none⟩,
  ⟨some p11, .call, [(.const (.fn 59 [] [])), (.tmp p10)], none⟩,
  ⟨some p12, (.buildSlice 38 14 [(.int .i64 (.ofNat 0)), (.int .i64 (.ofNat 0)), (.int .i64 (.ofNat 0)), (.int .i64 (.ofNat 0)), (.int .i64 (.ofNat 0)), (.int .i64 (.ofNat 0)), (.int .i64 (.ofNat 0)), (.int .i64 (.ofNat 0)), (.int .i64 (.ofNat 0)), (.str []), (.str []), (.str []), (.str []), (.bool false)] 1 [(0, 14)]), [(.tmp p11)], none⟩,
  ⟨some p13, .call, [(.const (.fn 52 [] [])), (.tmp p1), (.const (.int .i64 (.ofNat 4))), (.tmp p12)], none⟩])
 (.reg [
  ⟨some p14, (.fieldAddr 0), [(.tmp p2)], none⟩,
  ⟨some p15, (.load false 1), [(.tmp p14)], none⟩,
  ⟨some p16, (.fieldAddr 3), [(.tmp p2)], none⟩,
  ⟨some p17, (.load false 1), [(.tmp p16)], none⟩,
  ⟨some p18, (.build [(.int .i64 (.ofNat 0)), (.int .i64 (.ofNat 0)), (.int .i64 (.ofNat 0)), (.int .i64 (.ofNat 0)), (.int .i64 (.ofNat 0)), (.int .i64 (.ofNat 0)), (.int .i64 (.ofNat 0)), (.int .i64 (.ofNat 0)), (.int .i64 (.ofNat 0)), (.str []), (.str []), (.str []), (.str []), (.bool false)] [(0, 1), (2, 1), (3, 1)]), [(.const (.int .i64 (.ofNat 14))), (.tmp p15), (.tmp p17)], none⟩,
  ⟨some p19, (.buildSlice 38 14 [(.int .i64 (.ofNat 0)), (.int .i64 (.ofNat 0)), (.int .i64 (.ofNat 0)), (.int .i64 (.ofNat 0)), (.int .i64 (.ofNat 0)), (.int .i64 (.ofNat 0)), (.int .i64 (.ofNat 0)), (.int .i64 (.ofNat 0)), (.int .i64 (.ofNat 0)), (.str []), (.str []), (.str []), (.str []), (.bool false)] 1 [(0, 14)]), [(.tmp p18)], none⟩,
  ⟨some p20, .call, [(.const (.fn 52 [] [])), (.tmp p1), (.const (.int .i64 (.ofNat 5))), (.tmp p19)], none⟩])))),
 []⟩
def F59 : IFn := ⟨1,
(.seq (.reg [
  ⟨some p1, (.box 66 6), [(.tmp p0)], none⟩,
  ⟨some p2, (.alloc 38 [(.int .i64 (.ofNat 0)), (.int .i64 (.ofNat 0)), (.int .i64 (.ofNat 0)), (.int .i64 (.ofNat 0)), (.int .i64 (.ofNat 0)), (.int .i64 (.ofNat 0)), (.int .i64 (.ofNat 0)), (.int .i64 (.ofNat 0)), (.int .i64 (.ofNat 0)), (.str []), (.str []), (.str []), (.str []), (.bool false)]), [], none⟩])
 (.seq (.reg [
  ⟨some p9, (.fieldAddr 2), [(.tmp p1)], none⟩,
  ⟨some p10, (.load false 1), [(.tmp p9)], none⟩,
  ⟨some p11, .call, [(.const (.fn 93 [] [])), (.tmp p10)], none⟩,
  ⟨some p8, .move, [(.tmp p11)], none⟩,
  ⟨some p12, (.extract 0), [(.tmp p8)], none⟩,
  ⟨some p13, (.extract 1), [(.tmp p8)], none⟩,
  ⟨some p3, .move, [(.tmp p12)], none⟩,
  ⟨some p4, .move, [(.tmp p13)], none⟩])
 (.seq (.reg [
  ⟨some p14, (.fieldAddr 0), [(.tmp p1)], none⟩,
  ⟨some p15, (.load false 1), [(.tmp p14)], none⟩,
  ⟨some p16, .move, [(.tmp p3)], none⟩,
  ⟨some p17, .move, [(.tmp p3)], none⟩,
  ⟨some p18, (.fieldAddr 5), [(.tmp p1)], none⟩,
  ⟨some p19, (.load false 1), [(.tmp p18)], none⟩,
  ⟨some p20, (.build [(.int .i64 (.ofNat 0)), (.int .i64 (.ofNat 0)), (.int .i64 (.ofNat 0)), (.int .i64 (.ofNat 0)), (.int .i64 (.ofNat 0)), (.int .i64 (.ofNat 0)), (.int .i64 (.ofNat 0)), (.int .i64 (.ofNat 0)), (.int .i64 (.ofNat 0)), (.str []), (.str []), (.str []), (.str []), (.bool false)] [(0, 1), (2, 1), (11, 1), (12, 1), (13, 1)]), [(.const (.int .i64 (.ofNat 13))), (.tmp p15), (.tmp p16), (.tmp p17), (.tmp p19)], none⟩,
  ⟨some p5, (.alloc 38 [(.int .i64 (.ofNat 0)), (.int .i64 (.ofNat 0)), (.int .i64 (.ofNat 0)), (.int .i64 (.ofNat 0)), (.int .i64 (.ofNat 0)), (.int .i64 (.ofNat 0)), (.int .i64 (.ofNat 0)), (.int .i64 (.ofNat 0)), (.int .i64 (.ofNat 0)), (.str []), (.str []), (.str []), (.str []), (.bool false)]), [], none⟩,
  ⟨none, (.store 14), [(.tmp p5), (.tmp p20)], none⟩])
 (.seq (.seq (.reg [
  ⟨some p21, (.fieldAddr 5), [(.tmp p1)], none⟩,
  ⟨some p22, (.load false 1), [(.tmp p21)], none⟩])
 (.cond (.tmp p22)
 (.seq (.drawn [
  ⟨0, ⟨some p24, (.fieldAddr 2), [(.tmp p1)], none⟩, .pure, []⟩,
  ⟨1, ⟨some p25, (.load false 1), [(.tmp p24)], none⟩, (.read 0 0), [0]⟩,
  ⟨2, ⟨some p26, (.idxSlice 7), [(.tmp p25), (.const (.int .i64 (.ofNat 0)))], none⟩, .pure, [1]⟩,
  ⟨3, ⟨some p27, (.fieldAddr 4), [(.tmp p26)], none⟩, .pure, [2]⟩,
  ⟨4, ⟨some p28, (.load false 1), [(.tmp p27)], none⟩, (.read 0 0), [3]⟩,
  ⟨5, ⟨some p29, (.fieldAddr 2), [(.tmp p1)], none⟩, .pure, []⟩,
  ⟨6, ⟨some p30, (.load false 1), [(.tmp p29)], none⟩, (.read 0 0), [5]⟩,
  ⟨7, ⟨some p31, (.idxSlice 7), [(.tmp p30), (.const (.int .i64 (.ofNat 0)))], none⟩, .pure, [6]⟩,
  ⟨8, ⟨some p32, (.fieldAddr 5), [(.tmp p31)], none⟩, .pure, [7]⟩,
  ⟨9, ⟨some p33, (.load false 1), [(.tmp p32)], none⟩, (.read 0 0), [8]⟩,
  ⟨10, ⟨some p34, (.fieldAddr 3), [(.tmp p1)], none⟩, .pure, []⟩,
  ⟨11, ⟨some p35, (.load false 1), [(.tmp p34)], none⟩, (.read 0 0), [10]⟩,
  ⟨12, ⟨some p36, .call, [(.const (.fn 94 [] [])), (.tmp p28), (.tmp p33), (.tmp p35)], none⟩, .eff, [4, 9, 11]⟩,
  ⟨13, ⟨some p23, .move, [(.tmp p36)], none⟩, .pure, [12]⟩,
  ⟨14, ⟨some p37, (.extract 0), [(.tmp p23)], none⟩, .pure, [13]⟩,
  ⟨15, ⟨some p38, (.extract 1), [(.tmp p23)], none⟩, .pure, [13]⟩,
  ⟨16, ⟨some p6, .move, [(.tmp p37)], none⟩, .pure, [14, 12, 0, 1, 2, 3, 4, 5, 6, 7, 8, 9, 10, 11, 12, 13, 14]⟩,
  ⟨17, ⟨some p7, .move, [(.tmp p38)], none⟩, .pure, [15, 16, 0, 1, 2, 3, 4, 5, 6, 7, 8, 9, 10, 11, 12, 13, 14, 15, 16]⟩])
 (.reg [
  ⟨some p40, .move, [(.tmp p6)], none⟩,
  ⟨some p41, .call, [(.const (.fn 93 [] [])), (.tmp p40)], none⟩,
  ⟨some p39, .move, [(.tmp p41)], none⟩,
  ⟨some p42, (.extract 0), [(.tmp p39)], none⟩,
  ⟨some p43, (.extract 1), [(.tmp p39)], none⟩,
  ⟨some p44, (.fieldAddr 12), [(.tmp p5)], none⟩,
  ⟨none, (.store 1), [(.tmp p44), (.tmp p42)], none⟩]))
 .skip))
 (.seq (.reg [
  ⟨some p45, (.load true 14), [(.tmp p5)], none⟩,
  ⟨none, (.store 14), [(.tmp p2), (.tmp p45)], none⟩])
 (.ret [.cell p2 true 14])))))),
 [.cell p2 true 14]⟩
def F60 : IFn := ⟨6,
(.block 0 [] (.loop [p0, p1, p2, p3, p4, p5] (.seq (.seq (.reg [
  ⟨some p12, .move, [(.tmp p0)], none⟩,
  ⟨some p13, .lenL, [(.tmp p12)], none⟩,
  ⟨some p14, (.bin .gtr), [(.tmp p13), (.const (.int .i64 (.ofNat 0)))], none⟩,
  ⟨some p15, .move, [(.tmp p14)], none⟩,
  ⟨some p16, .move, [(.tmp p1)], some (p15, false)⟩,
  ⟨some p17, .lenL, [(.tmp p16)], some (p15, false)⟩,
  ⟨some p18, (.bin .gtr), [(.tmp p17), (.const (.int .i64 (.ofNat 0)))], some (p15, false)⟩,
  ⟨some p19, .pick, [(.tmp p15), (.const (.bool true)), (.tmp p18)], none⟩])
 (.cond (.tmp p19)
 .skip
 (.exit 0 [])))
 (.block 1 [p0, p1, p2, p3, p4, p5] (.block 2 [p0, p1, p2, p3, p4, p5] (.seq (.drawn [
  ⟨0, ⟨some p33, .move, [(.tmp p1)], none⟩, .pure, []⟩,
  ⟨1, ⟨some p34, .lenL, [(.tmp p33)], none⟩, .pure, [0]⟩,
  ⟨2, ⟨some p35, (.eql (.base .int) false), [(.tmp p34), (.const (.int .i64 (.ofNat 0)))], none⟩, (.read 0 0), [1]⟩,
  ⟨3, ⟨some p36, .move, [(.tmp p35)], none⟩, .pure, [2]⟩,
  ⟨4, ⟨some p37, .move, [(.tmp p0)], some (p36, false)⟩, .pure, [3]⟩,
  ⟨5, ⟨some p38, .lenL, [(.tmp p37)], some (p36, false)⟩, .pure, [4, 3]⟩,
  ⟨6, ⟨some p39, (.bin .gtr), [(.tmp p38), (.const (.int .i64 (.ofNat 0)))], some (p36, false)⟩, .pure, [5, 3]⟩,
  ⟨7, ⟨some p40, .move, [(.tmp p39)], some (p36, false)⟩, .pure, [6, 3, 3]⟩,
  ⟨8, ⟨some p41, .move, [(.tmp p2)], some (p40, true)⟩, .pure, [7]⟩,
  ⟨9, ⟨some p42, .move, [(.tmp p0)], some (p40, true)⟩, .pure, [7]⟩,
  ⟨10, ⟨some p43, (.idxSlice 5), [(.tmp p42), (.const (.int .i64 (.ofNat 0)))], some (p40, true)⟩, .pure, [9, 7]⟩,
  ⟨11, ⟨some p44, (.load true 5), [(.tmp p43)], some (p40, true)⟩, (.read 0 0), [10, 7]⟩,
  ⟨12, ⟨some p45, .call, [(.tmp p41), (.tmp p44)], some (p40, true)⟩, .eff, [8, 11, 7, 7]⟩,
  ⟨13, ⟨some p46, .move, [(.tmp p2)], some (p40, true)⟩, .pure, [7]⟩,
  ⟨14, ⟨some p47, .move, [(.tmp p1)], some (p40, true)⟩, .pure, [7]⟩,
  ⟨15, ⟨some p48, (.idxSlice 5), [(.tmp p47), (.const (.int .i64 (.ofNat 0)))], some (p40, true)⟩, .pure, [14, 7]⟩,
  ⟨16, ⟨some p49, (.load true 5), [(.tmp p48)], some (p40, true)⟩, (.read 0 1), [15, 7]⟩,
  ⟨17, ⟨some p50, .call, [(.tmp p46), (.tmp p49)], some (p40, true)⟩, .eff, [13, 16, 12, 7]⟩,
  ⟨18, ⟨some p51, (.bin .lss), [(.tmp p45), (.tmp p50)], some (p40, true)⟩, .pure, [12, 17, 7]⟩,
  ⟨19, ⟨some p52, .pick, [(.tmp p40), (.tmp p51), (.const (.bool false))], some (p36, false)⟩, .pure, [7, 18, 3]⟩,
  ⟨20, ⟨some p53, .pick, [(.tmp p36), (.const (.bool true)), (.tmp p52)], none⟩, .pure, [3, 19]⟩,
  ⟨21, ⟨some p32, .move, [(.tmp p53)], none⟩, .pure, [20, 17]⟩])
 (.cond (.tmp p32)
 (.seq (.reg [
  ⟨some p54, .move, [(.tmp p3)], none⟩,
  ⟨some p55, .move, [(.tmp p0)], none⟩,
  ⟨some p56, (.idxSlice 5), [(.tmp p55), (.const (.int .i64 (.ofNat 0)))], none⟩,
  ⟨some p57, (.load true 5), [(.tmp p56)], none⟩,
  ⟨some p58, .call, [(.tmp p54), (.tmp p57)], none⟩])
 (.reg [
  ⟨some p59, .move, [(.tmp p0)], none⟩,
  ⟨some p60, (.slSlice 5 true false false), [(.tmp p59), (.const (.int .i64 (.ofNat 1)))], none⟩,
  ⟨some p0, .move, [(.tmp p60)], none⟩]))
 (.seq (.drawn [
  ⟨0, ⟨some p62, .move, [(.tmp p0)], none⟩, .pure, []⟩,
  ⟨1, ⟨some p63, .lenL, [(.tmp p62)], none⟩, .pure, [0]⟩,
  ⟨2, ⟨some p64, (.eql (.base .int) false), [(.tmp p63), (.const (.int .i64 (.ofNat 0)))], none⟩, (.read 0 0), [1]⟩,
  ⟨3, ⟨some p65, .move, [(.tmp p64)], none⟩, .pure, [2]⟩,
  ⟨4, ⟨some p66, .move, [(.tmp p2)], some (p65, false)⟩, .pure, [3]⟩,
  ⟨5, ⟨some p67, .move, [(.tmp p1)], some (p65, false)⟩, .pure, [3]⟩,
  ⟨6, ⟨some p68, (.idxSlice 5), [(.tmp p67), (.const (.int .i64 (.ofNat 0)))], some (p65, false)⟩, .pure, [5, 3]⟩,
  ⟨7, ⟨some p69, (.load true 5), [(.tmp p68)], some (p65, false)⟩, (.read 0 0), [6, 3]⟩,
  ⟨8, ⟨some p70, .call, [(.tmp p66), (.tmp p69)], some (p65, false)⟩, .eff, [4, 7, 3, 3]⟩,
  ⟨9, ⟨some p71, .move, [(.tmp p2)], some (p65, false)⟩, .pure, [3]⟩,
  ⟨10, ⟨some p72, .move, [(.tmp p0)], some (p65, false)⟩, .pure, [3]⟩,
  ⟨11, ⟨some p73, (.idxSlice 5), [(.tmp p72), (.const (.int .i64 (.ofNat 0)))], some (p65, false)⟩, .pure, [10, 3]⟩,
  ⟨12, ⟨some p74, (.load true 5), [(.tmp p73)], some (p65, false)⟩, (.read 0 1), [11, 3]⟩,
  ⟨13, ⟨some p75, .call, [(.tmp p71), (.tmp p74)], some (p65, false)⟩, .eff, [9, 12, 8, 3]⟩,
  ⟨14, ⟨some p76, (.bin .lss), [(.tmp p70), (.tmp p75)], some (p65, false)⟩, .pure, [8, 13, 3]⟩,
  ⟨15, ⟨some p77, .pick, [(.tmp p65), (.const (.bool true)), (.tmp p76)], none⟩, .pure, [3, 14]⟩,
  ⟨16, ⟨some p61, .move, [(.tmp p77)], none⟩, .pure, [15, 13]⟩])
 (.cond (.tmp p61)
 (.seq (.reg [
  ⟨some p78, .move, [(.tmp p5)], none⟩,
  ⟨some p79, .move, [(.tmp p1)], none⟩,
  ⟨some p80, (.idxSlice 5), [(.tmp p79), (.const (.int .i64 (.ofNat 0)))], none⟩,
  ⟨some p81, (.load true 5), [(.tmp p80)], none⟩,
  ⟨some p82, .call, [(.tmp p78), (.tmp p81)], none⟩])
 (.reg [
  ⟨some p83, .move, [(.tmp p1)], none⟩,
  ⟨some p84, (.slSlice 5 true false false), [(.tmp p83), (.const (.int .i64 (.ofNat 1)))], none⟩,
  ⟨some p1, .move, [(.tmp p84)], none⟩]))
 (.seq (.drawn [
  ⟨0, ⟨some p20, .move, [(.tmp p4)], none⟩, .pure, []⟩,
  ⟨1, ⟨some p21, .move, [(.tmp p0)], none⟩, .pure, []⟩,
  ⟨2, ⟨some p22, (.idxSlice 5), [(.tmp p21), (.const (.int .i64 (.ofNat 0)))], none⟩, .pure, [1]⟩,
  ⟨3, ⟨some p23, (.load true 5), [(.tmp p22)], none⟩, (.read 0 0), [2]⟩,
  ⟨4, ⟨some p24, .move, [(.tmp p1)], none⟩, .pure, []⟩,
  ⟨5, ⟨some p25, (.idxSlice 5), [(.tmp p24), (.const (.int .i64 (.ofNat 0)))], none⟩, .pure, [4]⟩,
  ⟨6, ⟨some p26, (.load true 5), [(.tmp p25)], none⟩, (.read 0 0), [5]⟩,
  ⟨7, ⟨some p27, .call, [(.tmp p20), (.tmp p23), (.tmp p26)], none⟩, .eff, [0, 3, 6]⟩])
 (.drawn [
  ⟨0, ⟨some p28, .move, [(.tmp p0)], none⟩, .pure, []⟩,
  ⟨1, ⟨some p29, (.slSlice 5 true false false), [(.tmp p28), (.const (.int .i64 (.ofNat 1)))], none⟩, .pure, [0]⟩,
  ⟨2, ⟨some p30, .move, [(.tmp p1)], none⟩, .pure, []⟩,
  ⟨3, ⟨some p31, (.slSlice 5 true false false), [(.tmp p30), (.const (.int .i64 (.ofNat 1)))], none⟩, .pure, [2]⟩,
  ⟨4, ⟨some p0, .move, [(.tmp p29)], none⟩, .pure, [1, 0, 1]⟩,
  ⟨5, ⟨some p1, .move, [(.tmp p31)], none⟩, .pure, [3, 4, 0, 1, 2, 3, 4]⟩]))))))))))),
 []⟩
def F61 : IFn := ⟨2,
(.seq (.reg [
  ⟨some p2, (.box 60 5), [(.tmp p0)], none⟩])
 (.reg [
  ⟨some p3, (.fieldAddr 0), [(.tmp p2)], none⟩,
  ⟨some p4, (.load false 1), [(.tmp p3)], none⟩,
  ⟨some p5, (.build [(.int .i64 (.ofNat 0)), (.int .i64 (.ofNat 0)), (.int .i64 (.ofNat 0)), (.int .i64 (.ofNat 0)), (.int .i64 (.ofNat 0)), (.int .i64 (.ofNat 0)), (.int .i64 (.ofNat 0)), (.int .i64 (.ofNat 0)), (.int .i64 (.ofNat 0)), (.str []), (.str []), (.str []), (.str []), (.bool false)] [(0, 1), (1, 1)]), [(.const (.int .i64 (.ofNat 16))), (.tmp p4)], none⟩,
  ⟨some p6, (.buildSlice 38 14 [(.int .i64 (.ofNat 0)), (.int .i64 (.ofNat 0)), (.int .i64 (.ofNat 0)), (.int .i64 (.ofNat 0)), (.int .i64 (.ofNat 0)), (.int .i64 (.ofNat 0)), (.int .i64 (.ofNat 0)), (.int .i64 (.ofNat 0)), (.int .i64 (.ofNat 0)), (.str []), (.str []), (.str []), (.str []), (.bool false)] 1 [(0, 14)]), [(.tmp p5)], none⟩,
  ⟨some p7, .call, [(.const (.fn 52 [] [])), (.tmp p1), (.const (.int .i64 (.ofNat 11))), (.tmp p6)], none⟩])),
 []⟩
def F62 : IFn := ⟨3,
(.seq (.reg [
  ⟨some p4, (.box 60 5), [(.tmp p1)], none⟩,
  ⟨some p5, (.box 60 5), [(.tmp p2)], none⟩])
 (.seq (.seq (.reg [
  ⟨some p6, (.fieldAddr 1), [(.tmp p4)], none⟩,
  ⟨some p7, (.load false 1), [(.tmp p6)], none⟩,
  ⟨some p8, (.fieldAddr 1), [(.tmp p5)], none⟩,
  ⟨some p9, (.load false 1), [(.tmp p8)], none⟩,
  ⟨some p10, (.eql (.base .str) true), [(.tmp p7), (.tmp p9)], none⟩])
 (.cond (.tmp p10)
 (.reg [
  ⟨some p11, .move, [(.tmp p0)], none⟩,
  ⟨some p12, (.fieldAddr 0), [(.tmp p5)], none⟩,
  ⟨some p13, (.load false 1), [(.tmp p12)], none⟩,
  ⟨some p14, (.fieldAddr 1), [(.tmp p5)], none⟩,
  ⟨some p15, (.load false 1), [(.tmp p14)], none⟩,
  ⟨some p16, (.build [(.int .i64 (.ofNat 0)), (.int .i64 (.ofNat 0)), (.int .i64 (.ofNat 0)), (.int .i64 (.ofNat 0)), (.int .i64 (.ofNat 0)), (.int .i64 (.ofNat 0)), (.int .i64 (.ofNat 0)), (.int .i64 (.ofNat 0)), (.int .i64 (.ofNat 0)), (.str []), (.str []), (.str []), (.str []), (.bool false)] [(0, 1), (1, 1), (9, 1)]), [(.const (.int .i64 (.ofNat 17))), (.tmp p13), (.tmp p15)], none⟩,
  ⟨some p17, (.buildSlice 38 14 [(.int .i64 (.ofNat 0)), (.int .i64 (.ofNat 0)), (.int .i64 (.ofNat 0)), (.int .i64 (.ofNat 0)), (.int .i64 (.ofNat 0)), (.int .i64 (.ofNat 0)), (.int .i64 (.ofNat 0)), (.int .i64 (.ofNat 0)), (.int .i64 (.ofNat 0)), (.str []), (.str []), (.str []), (.str []), (.bool false)] 1 [(0, 14)]), [(.tmp p16)], none⟩,
  ⟨some p18, .call, [(.const (.fn 52 [] [])), (.tmp p11), (.const (.int .i64 (.ofNat 7))), (.tmp p17)], none⟩])
 .skip))
 (.seq (.reg [
  ⟨some p19, .move, [(.tmp p0)], none⟩,
  ⟨some p20, (.fieldAddr 0), [(.tmp p5)], none⟩,
  ⟨some p21, (.load false 1), [(.tmp p20)], none⟩,
  ⟨some p22, (.fieldAddr 2), [(.tmp p4)], none⟩,
  ⟨some p23, (.load false 1), [(.tmp p22)], none⟩,
  ⟨some p24, (.fieldAddr 2), [(.tmp p5)], none⟩,
  ⟨some p25, (.load false 1), [(.tmp p24)], none⟩,
  ⟨some p26, .call, [(.const (.fn 64 [] [])), (.tmp p19), (.tmp p21), (.tmp p23), (.tmp p25)], none⟩])
 (.seq (.reg [
  ⟨some p27, (.fieldAddr 3), [(.tmp p4)], none⟩,
  ⟨some p28, (.load false 1), [(.tmp p27)], none⟩,
  ⟨some p29, (.fieldAddr 3), [(.tmp p5)], none⟩,
  ⟨some p30, (.load false 1), [(.tmp p29)], none⟩,
  ⟨some p31, (.eql (.base .int) true), [(.tmp p28), (.tmp p30)], none⟩])
 (.cond (.tmp p31)
 (.reg [
  ⟨some p32, .move, [(.tmp p0)], none⟩,
  ⟨some p33, (.fieldAddr 0), [(.tmp p5)], none⟩,
  ⟨some p34, (.load false 1), [(.tmp p33)], none⟩,
  ⟨some p35, (.fieldAddr 3), [(.tmp p5)], none⟩,
  ⟨some p36, (.load false 1), [(.tmp p35)], none⟩,
  ⟨some p37, (.build [(.int .i64 (.ofNat 0)), (.int .i64 (.ofNat 0)), (.int .i64 (.ofNat 0)), (.int .i64 (.ofNat 0)), (.int .i64 (.ofNat 0)), (.int .i64 (.ofNat 0)), (.int .i64 (.ofNat 0)), (.int .i64 (.ofNat 0)), (.int .i64 (.ofNat 0)), (.str []), (.str []), (.str []), (.str []), (.bool false)] [(0, 1), (1, 1), (4, 1)]), [(.const (.int .i64 (.ofNat 20))), (.tmp p34), (.tmp p36)], none⟩,
  ⟨some p38, (.buildSlice 38 14 [(.int .i64 (.ofNat 0)), (.int .i64 (.ofNat 0)), (.int .i64 (.ofNat 0)), (.int .i64 (.ofNat 0)), (.int .i64 (.ofNat 0)), (.int .i64 (.ofNat 0)), (.int .i64 (.ofNat 0)), (.int .i64 (.ofNat 0)), (.int .i64 (.ofNat 0)), (.str []), (.str []), (.str []), (.str []), (.bool false)] 1 [(0, 14)]), [(.tmp p37)], none⟩,
  ⟨some p39, .call, [(.const (.fn 52 [] [])), (.tmp p32), (.const (.int .i64 (.ofNat 10))), (.tmp p38)], none⟩])
 .skip))))),
 []⟩
def F63 : IFn := ⟨2,
(.seq (.reg [
  ⟨some p2, (.box 60 5), [(.tmp p0)], none⟩])
 (.seq (.reg [
  ⟨some p3, (.fieldAddr 0), [(.tmp p2)], none⟩,
  ⟨some p4, (.load false 1), [(.tmp p3)], none⟩,
  ⟨some p5, (.fieldAddr 1), [(.tmp p2)], none⟩,
  ⟨some p6, (.load false 1), [(.tmp p5)], none⟩,
  ⟨some p7, (.build [(.int .i64 (.ofNat 0)), (.int .i64 (.ofNat 0)), (.int .i64 (.ofNat 0)), (.int .i64 (.ofNat 0)), (.int .i64 (.ofNat 0)), (.int .i64 (.ofNat 0)), (.int .i64 (.ofNat 0)), (.int .i64 (.ofNat 0)), (.int .i64 (.ofNat 0)), (.str []), (.str []), (.str []), (.str []), (.bool false)] [(0, 1), (1, 1), (9, 1)]), [(.const (.int .i64 (.ofNat 15))), (.tmp p4), (.tmp p6)], none⟩,
  ⟨some p8, (.buildSlice 38 14 [(.int .i64 (.ofNat 0)), (.int .i64 (.ofNat 0)), (.int .i64 (.ofNat 0)), (.int .i64 (.ofNat 0)), (.int .i64 (.ofNat 0)), (.int .i64 (.ofNat 0)), (.int .i64 (.ofNat 0)), (.int .i64 (.ofNat 0)), (.int .i64 (.ofNat 0)), (.str []), (.str []), (.str []), (.str []), (.bool false)] 1 [(0, 14)]), [(.tmp p7)], none⟩,
  ⟨some p9, .call, [(.const (.fn 52 [] [])), (.tmp p1), (.const (.int .i64 (.ofNat 6))), (.tmp p8)], none⟩])
 (.seq (.reg [
  ⟨some p10, (.fieldAddr 0), [(.tmp p2)], none⟩,
  ⟨some p11, (.load false 1), [(.tmp p10)], none⟩,
  ⟨some p12, (.fieldAddr 2), [(.tmp p2)], none⟩,
  ⟨some p13, (.load false 1), [(.tmp p12)], none⟩,
  ⟨some p14, .call, [(.const (.fn 64 [] [])), (.tmp p1), (.tmp p11), (.const .snil), (.tmp p13)], none⟩])
 (.reg [
  ⟨some p15, (.fieldAddr 0), [(.tmp p2)], none⟩,
  ⟨some p16, (.load false 1), [(.tmp p15)], none⟩,
  ⟨some p17, (.fieldAddr 3), [(.tmp p2)], none⟩,
  ⟨some p18, (.load false 1), [(.tmp p17)], none⟩,
  ⟨some p19, (.build [(.int .i64 (.ofNat 0)), (.int .i64 (.ofNat 0)), (.int .i64 (.ofNat 0)), (.int .i64 (.ofNat 0)), (.int .i64 (.ofNat 0)), (.int .i64 (.ofNat 0)), (.int .i64 (.ofNat 0)), (.int .i64 (.ofNat 0)), (.int .i64 (.ofNat 0)), (.str []), (.str []), (.str []), (.str []), (.bool false)] [(0, 1), (1, 1), (4, 1)]), [(.const (.int .i64 (.ofNat 20))), (.tmp p16), (.tmp p18)], none⟩,
  ⟨some p20, (.buildSlice 38 14 [(.int .i64 (.ofNat 0)), (.int .i64 (.ofNat 0)), (.int .i64 (.ofNat 0)), (.int .i64 (.ofNat 0)), (.int .i64 (.ofNat 0)), (.int .i64 (.ofNat 0)), (.int .i64 (.ofNat 0)), (.int .i64 (.ofNat 0)), (.int .i64 (.ofNat 0)), (.str []), (.str []), (.str []), (.str []), (.bool false)] 1 [(0, 14)]), [(.tmp p19)], none⟩,
  ⟨some p21, .call, [(.const (.fn 52 [] [])), (.tmp p1), (.const (.int .i64 (.ofNat 10))), (.tmp p20)], none⟩])))),
 []⟩
def F64 : IFn := ⟨4,
(.seq (.reg [
  ⟨some p4, (.box 120 1), [(.tmp p0)], none⟩,
  ⟨some p5, (.box 3 1), [(.tmp p1)], none⟩])
 (.seq (.reg [
  ⟨some p10, (.mkFunc 95 0), [(.tmp p4), (.tmp p5)], none⟩,
  ⟨some p8, (.alloc 125 [.fnil]), [], none⟩,
  ⟨none, (.store 1), [(.tmp p8), (.tmp p10)], none⟩])
 (.seq (.reg [
  ⟨some p11, (.mkFunc 96 0), [(.tmp p4), (.tmp p5)], none⟩,
  ⟨some p9, (.alloc 125 [.fnil]), [], none⟩,
  ⟨none, (.store 1), [(.tmp p9), (.tmp p11)], none⟩])
 (.reg [
  ⟨some p12, .move, [(.tmp p2)], none⟩,
  ⟨some p13, .move, [(.tmp p3)], none⟩,
  ⟨some p14, (.load false 1), [(.tmp p8)], none⟩,
  ⟨some p15, (.mkFunc 98 0), [(.tmp p8), (.tmp p9)], none⟩,
  ⟨some p16, (.load false 1), [(.tmp p9)], none⟩,
  ⟨some p17, .call, [(.const (.fn 97 [] [])), (.tmp p12), (.tmp p13), (.const (.fn 41 [] [])), (.tmp p14), (.tmp p15), (.tmp p16)], none⟩])))),
 []⟩
def F70 : IFn := ⟨1,
(.seq (.reg [
  ⟨some p1, (.box 25 2), [(.tmp p0)], none⟩,
  ⟨some p2, (.alloc 25 [.snil, .snil]), [], none⟩])
 (.seq (.drawn [
  ⟨7, ⟨some p3, (.alloc 25 [.snil, .snil]), [], none⟩, (.alloc 2), []⟩,
  ⟨0, ⟨some p8, (.fieldAddr 0), [(.tmp p1)], none⟩, .pure, []⟩,
  ⟨1, ⟨some p9, (.load false 1), [(.tmp p8)], none⟩, (.read 0 0), [0]⟩,
  ⟨2, ⟨some p10, .call, [(.const (.fn 101 [] [])), (.tmp p9)], none⟩, .eff, [1]⟩,
  ⟨3, ⟨some p11, (.fieldAddr 1), [(.tmp p1)], none⟩, .pure, []⟩,
  ⟨4, ⟨some p12, (.load false 1), [(.tmp p11)], none⟩, (.read 0 1), [3]⟩,
  ⟨5, ⟨some p13, .call, [(.const (.fn 102 [] [])), (.tmp p12)], none⟩, .eff, [4, 2]⟩,
  ⟨6, ⟨some p14, (.build [.snil, .snil] [(0, 1), (1, 1)]), [(.tmp p10), (.tmp p13)], none⟩, .pure, [2, 5]⟩,
  ⟨8, ⟨none, (.store 2), [(.tmp p3), (.tmp p14)], none⟩, .eff, [7, 6, 5, 0, 1, 2, 3, 4, 5, 6, 7]⟩])
 (.seq (.seq (.reg [
  ⟨some p15, (.fieldAddr 0), [(.tmp p3)], none⟩,
  ⟨some p16, (.load false 1), [(.tmp p15)], none⟩,
  ⟨some p17, .lenL, [(.tmp p16)], none⟩,
  ⟨some p18, .move, [(.const (.int .i64 (.ofNat 0)))], none⟩])
 (.block 0 [p2, p3] (.loop [p2, p3, p16, p17, p18] (.seq (.reg [
  ⟨some p19, (.bin .lss), [(.tmp p18), (.tmp p17)], none⟩])
 (.seq (.cond (.tmp p19)
 .skip
 (.exit 0 [p2, p3]))
 (.seq (.block 1 [p2, p3, p16, p17, p18] (.seq (.reg [
  ⟨some p20, .move, [(.tmp p18)], none⟩,
  ⟨some p21, (.idxSlice 5), [(.tmp p16), (.tmp p18)], none⟩,
  ⟨some p22, (.load true 5), [(.tmp p21)], none⟩,
  ⟨some p5, (.alloc 60 [(.int .i64 (.ofNat 0)), (.str []), .snil, (.int .i64 (.ofNat 0)), (.int .i64 (.ofNat 0))]), [], none⟩,
  ⟨some p4, .move, [(.tmp p20)], none⟩,
  ⟨none, (.store 5), [(.tmp p5), (.tmp p22)], none⟩])
 (.drawn [
  ⟨0, ⟨some p23, (.fieldAddr 0), [(.tmp p3)], none⟩, .pure, []⟩,
  ⟨1, ⟨some p24, (.load false 1), [(.tmp p23)], none⟩, (.read 0 1), [0]⟩,
  ⟨2, ⟨some p25, .move, [(.tmp p4)], none⟩, .pure, []⟩,
  ⟨3, ⟨some p26, (.fieldAddr 2), [(.tmp p5)], none⟩, .pure, []⟩,
  ⟨4, ⟨some p27, (.load false 1), [(.tmp p26)], none⟩, (.read 0 0), [3]⟩,
  ⟨5, ⟨some p28, .call, [(.const (.fn 103 [] [])), (.tmp p27)], none⟩, .eff, [4]⟩,
  ⟨6, ⟨some p29, (.idxSlice 5), [(.tmp p24), (.tmp p25)], none⟩, .pure, [1, 2, 0, 1, 2, 3, 4, 5]⟩,
  ⟨7, ⟨some p30, (.fieldAddr 2), [(.tmp p29)], none⟩, .pure, [6, 0, 1, 2, 3, 4, 5]⟩,
  ⟨8, ⟨none, (.store 1), [(.tmp p30), (.tmp p28)], none⟩, .eff, [7, 5, 5, 0, 1, 2, 3, 4, 5]⟩])))
 (.reg [
  ⟨some p31, (.bin .add), [(.tmp p18), (.const (.int .i64 (.ofNat 1)))], none⟩,
  ⟨some p18, .move, [(.tmp p31)], none⟩])))))))
 (.seq (.seq (.reg [
  ⟨some p32, (.fieldAddr 1), [(.tmp p3)], none⟩,
  ⟨some p33, (.load false 1), [(.tmp p32)], none⟩,
  ⟨some p34, .lenL, [(.tmp p33)], none⟩,
  ⟨some p35, .move, [(.const (.int .i64 (.ofNat 0)))], none⟩])
 (.block 2 [p2, p3] (.loop [p2, p3, p33, p34, p35] (.seq (.reg [
  ⟨some p36, (.bin .lss), [(.tmp p35), (.tmp p34)], none⟩])
 (.seq (.cond (.tmp p36)
 .skip
 (.exit 2 [p2, p3]))
 (.seq (.block 3 [p2, p3, p33, p34, p35] (.seq (.reg [
  ⟨some p37, .move, [(.tmp p35)], none⟩,
  ⟨some p38, (.idxSlice 6), [(.tmp p33), (.tmp p35)], none⟩,
  ⟨some p39, (.load true 6), [(.tmp p38)], none⟩,
  ⟨some p7, (.alloc 66 [(.int .i64 (.ofNat 0)), (.str []), .snil, (.int .i64 (.ofNat 0)), (.int .i64 (.ofNat 0)), (.bool false)]), [], none⟩,
  ⟨some p6, .move, [(.tmp p37)], none⟩,
  ⟨none, (.store 6), [(.tmp p7), (.tmp p39)], none⟩])
 (.drawn [
  ⟨0, ⟨some p40, (.fieldAddr 1), [(.tmp p3)], none⟩, .pure, []⟩,
  ⟨1, ⟨some p41, (.load false 1), [(.tmp p40)], none⟩, (.read 0 1), [0]⟩,
  ⟨2, ⟨some p42, .move, [(.tmp p6)], none⟩, .pure, []⟩,
  ⟨3, ⟨some p43, (.fieldAddr 2), [(.tmp p7)], none⟩, .pure, []⟩,
  ⟨4, ⟨some p44, (.load false 1), [(.tmp p43)], none⟩, (.read 0 0), [3]⟩,
  ⟨5, ⟨some p45, .call, [(.const (.fn 104 [] [])), (.tmp p44)], none⟩, .eff, [4]⟩,
  ⟨6, ⟨some p46, (.idxSlice 6), [(.tmp p41), (.tmp p42)], none⟩, .pure, [1, 2, 0, 1, 2, 3, 4, 5]⟩,
  ⟨7, ⟨some p47, (.fieldAddr 2), [(.tmp p46)], none⟩, .pure, [6, 0, 1, 2, 3, 4, 5]⟩,
  ⟨8, ⟨none, (.store 1), [(.tmp p47), (.tmp p45)], none⟩, .eff, [7, 5, 5, 0, 1, 2, 3, 4, 5]⟩])))
 (.reg [
  ⟨some p48, (.bin .add), [(.tmp p35), (.const (.int .i64 (.ofNat 1)))], none⟩,
  ⟨some p35, .move, [(.tmp p48)], none⟩])))))))
 (.seq (.reg [
  ⟨some p49, (.load true 2), [(.tmp p3)], none⟩,
  ⟨none, (.store 2), [(.tmp p2), (.tmp p49)], none⟩])
 (.ret [.cell p2 true 2])))))),
 [.cell p2 true 2]⟩
def F71 : IFn := ⟨2,
(.seq (.reg [
  ⟨some p4, .move, [(.const (.bool false))], none⟩])
 (.seq (.reg [
  ⟨some p5, .move, [(.tmp p0)], none⟩,
  ⟨some p6, .move, [(.tmp p1)], none⟩,
  ⟨some p7, .call, [(.const (.fn 105 [] [])), (.tmp p5), (.tmp p6)], none⟩,
  ⟨some p8, (.bin .geq), [(.tmp p7), (.const (.int .i64 (.ofNat 0)))], none⟩,
  ⟨some p4, .move, [(.tmp p8)], none⟩])
 (.ret [.tmp p4]))),
 [.tmp p4]⟩
def F72 : IFn := ⟨2,
(.seq (.reg [
  ⟨some p2, (.box 66 6), [(.tmp p0)], none⟩,
  ⟨some p3, .move, [(.const (.bool false))], none⟩])
 (.seq (.drawn [
  ⟨0, ⟨some p4, (.fieldAddr 2), [(.tmp p2)], none⟩, .pure, []⟩,
  ⟨1, ⟨some p5, (.load false 1), [(.tmp p4)], none⟩, (.read 0 0), [0]⟩,
  ⟨2, ⟨some p6, .call, [(.const (.fn 74 [] [])), (.tmp p5)], none⟩, .eff, [1]⟩,
  ⟨3, ⟨some p7, (.fieldAddr 3), [(.tmp p1)], none⟩, .pure, []⟩,
  ⟨4, ⟨some p8, (.load false 1), [(.tmp p7)], none⟩, (.read 0 1), [3]⟩,
  ⟨5, ⟨some p9, .call, [(.const (.fn 73 [] [])), (.tmp p6), (.tmp p8)], none⟩, .eff, [2, 4, 2]⟩,
  ⟨6, ⟨some p3, .move, [(.tmp p9)], none⟩, .pure, [5, 5, 0, 1, 2, 3, 4, 5]⟩])
 (.ret [.tmp p3]))),
 [.tmp p3]⟩
def F73 : IFn := ⟨2,
(.seq (.reg [
  ⟨some p4, .move, [(.const (.bool false))], none⟩])
 (.seq (.reg [
  ⟨some p5, .move, [(.tmp p0)], none⟩,
  ⟨some p6, .move, [(.tmp p1)], none⟩,
  ⟨some p7, .call, [(.const (.fn 106 [] [])), (.tmp p5), (.tmp p6)], none⟩,
  ⟨some p8, (.bin .geq), [(.tmp p7), (.const (.int .i64 (.ofNat 0)))], none⟩,
  ⟨some p4, .move, [(.tmp p8)], none⟩])
 (.ret [.tmp p4]))),
 [.tmp p4]⟩
def F74 : IFn := ⟨1,
(.seq (.reg [
  ⟨some p2, .move, [(.const .snil)], none⟩])
 (.seq (.reg [
  ⟨some p4, .move, [(.tmp p0)], none⟩,
  ⟨some p5, .call, [(.const (.fn 107 [] [])), (.tmp p4)], none⟩,
  ⟨some p3, .move, [(.tmp p5)], none⟩])
 (.seq (.seq (.reg [
  ⟨some p6, .move, [(.tmp p3)], none⟩,
  ⟨some p7, (.eql (.iface true) false), [(.tmp p6), (.const .inil)], none⟩])
 (.cond (.tmp p7)
 (.seq (.reg [
  ⟨some p2, .move, [(.const .snil)], none⟩])
 (.ret [.tmp p2]))
 .skip))
 (.seq (.reg [
  ⟨some p8, .move, [(.tmp p3)], none⟩,
  ⟨some p9, .call, [(.const (.fn 108 [] [])), (.tmp p8)], none⟩,
  ⟨some p2, .move, [(.tmp p9)], none⟩])
 (.ret [.tmp p2]))))),
 [.tmp p2]⟩
def F75 : IFn := ⟨3,
(.seq (.reg [
  ⟨some p4, (.box 67 1), [(.tmp p1)], none⟩,
  ⟨some p5, (.box 3 1), [(.tmp p2)], none⟩,
  ⟨some p6, .move, [(.const (.int .i64 (.ofNat 0)))], none⟩])
 (.seq (.reg [
  ⟨some p7, .move, [(.tmp p0)], none⟩,
  ⟨some p8, (.mkFunc 109 0), [(.tmp p4), (.tmp p5)], none⟩,
  ⟨some p9, .call, [(.const (.fn 105 [] [])), (.tmp p7), (.tmp p8)], none⟩,
  ⟨some p6, .move, [(.tmp p9)], none⟩])
 (.ret [.tmp p6]))),
 [.tmp p6]⟩
def F76 : IFn := ⟨3,
(.seq (.reg [
  ⟨some p4, (.box 67 1), [(.tmp p1)], none⟩,
  ⟨some p5, (.box 66 6), [(.tmp p2)], none⟩,
  ⟨some p6, .move, [(.const .snil)], none⟩])
 (.seq (.reg [
  ⟨some p8, .move, [(.tmp p0)], none⟩,
  ⟨some p9, (.mkFunc 110 0), [(.tmp p4), (.tmp p5)], none⟩,
  ⟨some p10, .call, [(.const (.fn 105 [] [])), (.tmp p8), (.tmp p9)], none⟩,
  ⟨some p7, .move, [(.tmp p10)], none⟩])
 (.seq (.seq (.reg [
  ⟨some p11, .move, [(.tmp p7)], none⟩,
  ⟨some p12, (.bin .lss), [(.tmp p11), (.const (.int .i64 (.ofNat 0)))], none⟩])
 (.cond (.tmp p12)
 (.reg [
  ⟨some p13, .move, [(.tmp p0)], none⟩,
  ⟨some p14, .lenL, [(.tmp p13)], none⟩,
  ⟨some p7, .move, [(.tmp p14)], none⟩])
 .skip))
 (.seq (.reg [
  ⟨some p15, .move, [(.tmp p0)], none⟩,
  ⟨some p16, .move, [(.tmp p7)], none⟩,
  ⟨some p17, (.load true 6), [(.tmp p5)], none⟩,
  ⟨some p18, (.buildSlice 66 6 [(.int .i64 (.ofNat 0)), (.str []), .snil, (.int .i64 (.ofNat 0)), (.int .i64 (.ofNat 0)), (.bool false)] 1 [(0, 6)]), [(.tmp p17)], none⟩,
  ⟨some p19, .call, [(.const (.fn 111 [] [])), (.tmp p15), (.tmp p16), (.tmp p18)], none⟩,
  ⟨some p6, .move, [(.tmp p19)], none⟩])
 (.ret [.tmp p6]))))),
 [.tmp p6]⟩
def F77 : IFn := ⟨3,
(.seq (.reg [
  ⟨some p4, (.box 61 1), [(.tmp p1)], none⟩,
  ⟨some p5, (.box 3 1), [(.tmp p2)], none⟩,
  ⟨some p6, .move, [(.const (.int .i64 (.ofNat 0)))], none⟩])
 (.seq (.reg [
  ⟨some p7, .move, [(.tmp p0)], none⟩,
  ⟨some p8, (.mkFunc 113 0), [(.tmp p4), (.tmp p5)], none⟩,
  ⟨some p9, .call, [(.const (.fn 112 [] [])), (.tmp p7), (.tmp p8)], none⟩,
  ⟨some p6, .move, [(.tmp p9)], none⟩])
 (.ret [.tmp p6]))),
 [.tmp p6]⟩
def F78 : IFn := ⟨3,
(.seq (.reg [
  ⟨some p4, (.box 61 1), [(.tmp p1)], none⟩,
  ⟨some p5, (.box 60 5), [(.tmp p2)], none⟩,
  ⟨some p6, .move, [(.const .snil)], none⟩])
 (.seq (.reg [
  ⟨some p8, .move, [(.tmp p0)], none⟩,
  ⟨some p9, (.mkFunc 114 0), [(.tmp p4), (.tmp p5)], none⟩,
  ⟨some p10, .call, [(.const (.fn 112 [] [])), (.tmp p8), (.tmp p9)], none⟩,
  ⟨some p7, .move, [(.tmp p10)], none⟩])
 (.seq (.seq (.reg [
  ⟨some p11, .move, [(.tmp p7)], none⟩,
  ⟨some p12, (.bin .lss), [(.tmp p11), (.const (.int .i64 (.ofNat 0)))], none⟩])
 (.cond (.tmp p12)
 (.reg [
  ⟨some p13, .move, [(.tmp p0)], none⟩,
  ⟨some p14, .lenL, [(.tmp p13)], none⟩,
  ⟨some p7, .move, [(.tmp p14)], none⟩])
 .skip))
 (.seq (.reg [
  ⟨some p15, .move, [(.tmp p0)], none⟩,
  ⟨some p16, .move, [(.tmp p7)], none⟩,
  ⟨some p17, (.load true 5), [(.tmp p5)], none⟩,
  ⟨some p18, (.buildSlice 60 5 [(.int .i64 (.ofNat 0)), (.str []), .snil, (.int .i64 (.ofNat 0)), (.int .i64 (.ofNat 0))] 1 [(0, 5)]), [(.tmp p17)], none⟩,
  ⟨some p19, .call, [(.const (.fn 115 [] [])), (.tmp p15), (.tmp p16), (.tmp p18)], none⟩,
  ⟨some p6, .move, [(.tmp p19)], none⟩])
 (.ret [.tmp p6]))))),
 [.tmp p6]⟩
def F79 : IFn := ⟨2,
(.seq (.reg [
  ⟨some p3, (.box 38 14), [(.tmp p1)], none⟩,
  ⟨some p4, .move, [(.const (.bool false))], none⟩])
 (.seq (.drawn [
  ⟨0, ⟨some p13, .move, [(.tmp p0)], none⟩, .pure, []⟩,
  ⟨1, ⟨some p14, .nilCheck, [(.tmp p13)], none⟩, .pure, [0]⟩,
  ⟨2, ⟨some p15, (.fieldAddr 1), [(.tmp p14)], none⟩, .pure, [1]⟩,
  ⟨3, ⟨some p16, (.load false 1), [(.tmp p15)], none⟩, (.read 0 0), [2]⟩,
  ⟨4, ⟨some p17, (.fieldAddr 2), [(.tmp p3)], none⟩, .pure, []⟩,
  ⟨5, ⟨some p18, (.load false 1), [(.tmp p17)], none⟩, (.read 0 0), [4]⟩,
  ⟨6, ⟨some p19, .call, [(.const (.fn 75 [] [])), (.tmp p16), (.const (.fn 38 [] [])), (.tmp p18)], none⟩, .eff, [3, 5]⟩,
  ⟨7, ⟨some p5, .move, [(.tmp p19)], none⟩, .pure, [6, 6, 0, 1, 2, 3, 4, 5, 6]⟩])
 (.seq (.seq (.reg [
  ⟨some p20, .move, [(.tmp p5)], none⟩,
  ⟨some p21, (.bin .lss), [(.tmp p20), (.const (.int .i64 (.ofNat 0)))], none⟩])
 (.cond (.tmp p21)
 (.seq (.reg [
  ⟨some p4, .move, [(.const (.bool false))], none⟩])
 (.ret [.tmp p4]))
 .skip))
 (.seq (.reg [
  ⟨some p22, .move, [(.tmp p0)], none⟩,
  ⟨some p23, .nilCheck, [(.tmp p22)], none⟩,
  ⟨some p24, (.fieldAddr 1), [(.tmp p23)], none⟩,
  ⟨some p25, (.load false 1), [(.tmp p24)], none⟩,
  ⟨some p26, .move, [(.tmp p5)], none⟩,
  ⟨some p27, (.idxSlice 6), [(.tmp p25), (.tmp p26)], none⟩,
  ⟨some p6, .move, [(.tmp p27)], none⟩])
 (.seq (.seq (.reg [
  ⟨some p28, (.fieldAddr 0), [(.tmp p3)], none⟩,
  ⟨some p29, (.load false 1), [(.tmp p28)], none⟩])
 (.block 0 [] (.seq (.reg [
  ⟨some p31, (.eql (.base .int) false), [(.tmp p29), (.const (.int .i64 (.ofNat 11)))], none⟩,
  ⟨some p30, .move, [(.tmp p31)], none⟩])
 (.cond (.tmp p30)
 (.seq (.seq (.reg [
  ⟨some p32, .move, [(.tmp p0)], none⟩,
  ⟨some p33, .nilCheck, [(.tmp p32)], none⟩,
  ⟨some p34, (.fieldAddr 0), [(.tmp p33)], none⟩,
  ⟨some p35, (.load false 1), [(.tmp p34)], none⟩,
  ⟨some p36, .lenL, [(.tmp p35)], none⟩,
  ⟨some p37, .move, [(.const (.int .i64 (.ofNat 0)))], none⟩])
 (.block 1 [p0, p5] (.loop [p0, p3, p5, p35, p36, p37] (.seq (.reg [
  ⟨some p38, (.bin .lss), [(.tmp p37), (.tmp p36)], none⟩])
 (.seq (.cond (.tmp p38)
 .skip
 (.exit 1 [p0, p5]))
 (.seq (.block 2 [p0, p3, p5, p35, p36, p37] (.seq (.reg [
  ⟨some p39, (.idxSlice 5), [(.tmp p35), (.tmp p37)], none⟩,
  ⟨some p40, (.load true 5), [(.tmp p39)], none⟩,
  ⟨some p8, (.alloc 60 [(.int .i64 (.ofNat 0)), (.str []), .snil, (.int .i64 (.ofNat 0)), (.int .i64 (.ofNat 0))]), [], none⟩,
  ⟨none, (.store 5), [(.tmp p8), (.tmp p40)], none⟩])
 (.seq (.reg [
  ⟨some p41, (.fieldAddr 2), [(.tmp p8)], none⟩,
  ⟨some p42, (.load false 1), [(.tmp p41)], none⟩,
  ⟨some p43, (.mkFunc 117 0), [(.tmp p3)], none⟩,
  ⟨some p44, .call, [(.const (.fn 116 [] [])), (.tmp p42), (.tmp p43)], none⟩])
 (.cond (.tmp p44)
 (.seq (.reg [
  ⟨some p4, .move, [(.const (.bool false))], none⟩])
 (.ret [.tmp p4]))
 .skip))))
 (.reg [
  ⟨some p45, (.bin .add), [(.tmp p37), (.const (.int .i64 (.ofNat 1)))], none⟩,
  ⟨some p37, .move, [(.tmp p45)], none⟩])))))))
 (.reg [
  ⟨some p46, .move, [(.tmp p0)], none⟩,
  ⟨some p47, .move, [(.tmp p0)], none⟩,
  ⟨some p48, .nilCheck, [(.tmp p47)], none⟩,
  ⟨some p49, (.fieldAddr 1), [(.tmp p48)], none⟩,
  ⟨some p50, (.load false 1), [(.tmp p49)], none⟩,
  ⟨some p51, .move, [(.tmp p5)], none⟩,
  ⟨some p52, .move, [(.tmp p5)], none⟩,
  ⟨some p53, (.bin .add), [(.tmp p52), (.const (.int .i64 (.ofNat 1)))], none⟩,
  ⟨some p54, .call, [(.const (.fn 118 [] [])), (.tmp p50), (.tmp p51), (.tmp p53)], none⟩,
  ⟨some p55, .nilCheck, [(.tmp p46)], none⟩,
  ⟨some p56, (.fieldAddr 1), [(.tmp p55)], none⟩,
  ⟨none, (.store 1), [(.tmp p56), (.tmp p54)], none⟩]))
 (.seq (.reg [
  ⟨some p58, (.eql (.base .int) false), [(.tmp p29), (.const (.int .i64 (.ofNat 12)))], none⟩,
  ⟨some p57, .move, [(.tmp p58)], none⟩])
 (.cond (.tmp p57)
 (.seq (.reg [
  ⟨some p59, .move, [(.tmp p6)], none⟩,
  ⟨some p60, (.fieldAddr 9), [(.tmp p3)], none⟩,
  ⟨some p61, (.load false 1), [(.tmp p60)], none⟩,
  ⟨some p62, .nilCheck, [(.tmp p59)], none⟩,
  ⟨some p63, (.fieldAddr 1), [(.tmp p62)], none⟩,
  ⟨none, (.store 1), [(.tmp p63), (.tmp p61)], none⟩])
 (.seq (.reg [
  ⟨some p64, (.fieldAddr 9), [(.tmp p3)], none⟩,
  ⟨some p65, (.load false 1), [(.tmp p64)], none⟩,
  ⟨some p66, .call, [(.const (.fn 39 [] [])), (.tmp p65)], none⟩,
  ⟨some p4, .move, [(.tmp p66)], none⟩])
 (.ret [.tmp p4])))
 (.seq (.reg [
  ⟨some p68, (.eql (.base .int) false), [(.tmp p29), (.const (.int .i64 (.ofNat 13)))], none⟩,
  ⟨some p67, .move, [(.tmp p68)], none⟩])
 (.cond (.tmp p67)
 (.seq (.reg [
  ⟨some p70, (.fieldAddr 11), [(.tmp p3)], none⟩,
  ⟨some p71, (.load false 1), [(.tmp p70)], none⟩,
  ⟨some p72, .call, [(.const (.fn 119 [] [])), (.tmp p71)], none⟩,
  ⟨some p69, .move, [(.tmp p72)], none⟩,
  ⟨some p73, (.extract 0), [(.tmp p69)], none⟩,
  ⟨some p74, (.extract 1), [(.tmp p69)], none⟩,
  ⟨some p9, .move, [(.tmp p73)], none⟩,
  ⟨some p10, .move, [(.tmp p74)], none⟩])
 (.seq (.reg [
  ⟨some p76, (.fieldAddr 12), [(.tmp p3)], none⟩,
  ⟨some p77, (.load false 1), [(.tmp p76)], none⟩,
  ⟨some p78, .call, [(.const (.fn 119 [] [])), (.tmp p77)], none⟩,
  ⟨some p75, .move, [(.tmp p78)], none⟩,
  ⟨some p79, (.extract 0), [(.tmp p75)], none⟩,
  ⟨some p80, (.extract 1), [(.tmp p75)], none⟩,
  ⟨some p11, .move, [(.tmp p79)], none⟩,
  ⟨some p12, .move, [(.tmp p80)], none⟩])
 (.seq (.seq (.reg [
  ⟨some p81, .move, [(.tmp p10)], none⟩,
  ⟨some p82, (.eql (.base .int) true), [(.tmp p81), (.const (.int .i64 (.ofNat 0)))], none⟩,
  ⟨some p83, .move, [(.tmp p82)], none⟩,
  ⟨some p84, .move, [(.tmp p12)], some (p83, false)⟩,
  ⟨some p85, (.eql (.base .int) true), [(.tmp p84), (.const (.int .i64 (.ofNat 0)))], some (p83, false)⟩,
  ⟨some p86, .pick, [(.tmp p83), (.const (.bool true)), (.tmp p85)], none⟩,
  ⟨some p87, .move, [(.tmp p86)], none⟩,
  ⟨some p88, (.fieldAddr 13), [(.tmp p3)], some (p87, false)⟩,
  ⟨some p89, (.load false 1), [(.tmp p88)], some (p87, false)⟩,
  ⟨some p90, .not, [(.tmp p89)], some (p87, false)⟩,
  ⟨some p91, .move, [(.tmp p90)], some (p87, false)⟩,
  ⟨some p92, (.fieldAddr 11), [(.tmp p3)], some (p91, true)⟩,
  ⟨some p93, (.load false 1), [(.tmp p92)], some (p91, true)⟩,
  ⟨some p94, (.fieldAddr 12), [(.tmp p3)], some (p91, true)⟩,
  ⟨some p95, (.load false 1), [(.tmp p94)], some (p91, true)⟩,
  ⟨some p96, (.eql (.base .str) true), [(.tmp p93), (.tmp p95)], some (p91, true)⟩,
  ⟨some p97, .pick, [(.tmp p91), (.tmp p96), (.const (.bool false))], some (p87, false)⟩,
  ⟨some p98, .pick, [(.tmp p87), (.const (.bool true)), (.tmp p97)], none⟩])
 (.cond (.tmp p98)
 (.seq (.reg [
  ⟨some p4, .move, [(.const (.bool false))], none⟩])
 (.ret [.tmp p4]))
 .skip))
 (.seq (.seq (.drawn [
  ⟨0, ⟨some p99, (.fieldAddr 13), [(.tmp p3)], none⟩, .pure, []⟩,
  ⟨1, ⟨some p100, (.load false 1), [(.tmp p99)], none⟩, (.read 0 0), [0]⟩,
  ⟨2, ⟨some p101, .move, [(.tmp p100)], none⟩, .pure, [1]⟩,
  ⟨3, ⟨some p102, .move, [(.tmp p9)], some (p101, true)⟩, .pure, [2]⟩,
  ⟨4, ⟨some p103, .lenL, [(.tmp p102)], some (p101, true)⟩, .pure, [3, 2]⟩,
  ⟨5, ⟨some p104, (.eql (.base .int) false), [(.tmp p103), (.const (.int .i64 (.ofNat 1)))], some (p101, true)⟩, (.read 0 0), [4, 2]⟩,
  ⟨6, ⟨some p105, .move, [(.tmp p104)], some (p101, true)⟩, .pure, [5, 2, 2]⟩,
  ⟨7, ⟨some p106, .move, [(.tmp p11)], some (p105, false)⟩, .pure, [6]⟩,
  ⟨8, ⟨some p107, .lenL, [(.tmp p106)], some (p105, false)⟩, .pure, [7, 6]⟩,
  ⟨9, ⟨some p108, (.eql (.base .int) true), [(.tmp p107), (.const (.int .i64 (.ofNat 1)))], some (p105, false)⟩, (.read 0 0), [8, 6]⟩,
  ⟨10, ⟨some p109, .pick, [(.tmp p105), (.const (.bool true)), (.tmp p108)], some (p101, true)⟩, .pure, [6, 9, 2]⟩,
  ⟨11, ⟨some p110, .move, [(.tmp p109)], some (p101, true)⟩, .pure, [10, 6, 2]⟩,
  ⟨12, ⟨some p111, .move, [(.tmp p11)], some (p110, false)⟩, .pure, [11]⟩,
  ⟨13, ⟨some p112, (.idxSlice 7), [(.tmp p111), (.const (.int .i64 (.ofNat 0)))], some (p110, false)⟩, .pure, [12, 11]⟩,
  ⟨14, ⟨some p113, (.fieldAddr 4), [(.tmp p112)], some (p110, false)⟩, .pure, [13, 11]⟩,
  ⟨15, ⟨some p114, (.load false 1), [(.tmp p113)], some (p110, false)⟩, (.read 0 0), [14, 11]⟩,
  ⟨16, ⟨some p115, .move, [(.tmp p9)], some (p110, false)⟩, .pure, [11]⟩,
  ⟨17, ⟨some p116, (.idxSlice 7), [(.tmp p115), (.const (.int .i64 (.ofNat 0)))], some (p110, false)⟩, .pure, [16, 11]⟩,
  ⟨18, ⟨some p117, (.fieldAddr 4), [(.tmp p116)], some (p110, false)⟩, .pure, [17, 11]⟩,
  ⟨19, ⟨some p118, (.load false 1), [(.tmp p117)], some (p110, false)⟩, (.read 0 0), [18, 11]⟩,
  ⟨20, ⟨some p119, (.eql (.base .int) true), [(.tmp p114), (.tmp p118)], some (p110, false)⟩, (.read 0 0), [15, 19, 11]⟩,
  ⟨21, ⟨some p120, .pick, [(.tmp p110), (.const (.bool true)), (.tmp p119)], some (p101, true)⟩, .pure, [11, 20, 2]⟩,
  ⟨22, ⟨some p121, .move, [(.tmp p120)], some (p101, true)⟩, .pure, [21, 11, 2]⟩,
  ⟨23, ⟨some p122, .move, [(.tmp p11)], some (p121, false)⟩, .pure, [22]⟩,
  ⟨24, ⟨some p123, (.idxSlice 7), [(.tmp p122), (.const (.int .i64 (.ofNat 0)))], some (p121, false)⟩, .pure, [23, 22]⟩,
  ⟨25, ⟨some p124, (.fieldAddr 5), [(.tmp p123)], some (p121, false)⟩, .pure, [24, 22]⟩,
  ⟨26, ⟨some p125, (.load false 1), [(.tmp p124)], some (p121, false)⟩, (.read 0 0), [25, 22]⟩,
  ⟨27, ⟨some p126, .move, [(.tmp p9)], some (p121, false)⟩, .pure, [22]⟩,
  ⟨28, ⟨some p127, (.idxSlice 7), [(.tmp p126), (.const (.int .i64 (.ofNat 0)))], some (p121, false)⟩, .pure, [27, 22]⟩,
  ⟨29, ⟨some p128, (.fieldAddr 5), [(.tmp p127)], some (p121, false)⟩, .pure, [28, 22]⟩,
  ⟨30, ⟨some p129, (.load false 1), [(.tmp p128)], some (p121, false)⟩, (.read 0 0), [29, 22]⟩,
  ⟨31, ⟨some p130, (.eql (.base .int) true), [(.tmp p125), (.tmp p129)], some (p121, false)⟩, (.read 0 0), [26, 30, 22]⟩,
  ⟨32, ⟨some p131, .pick, [(.tmp p121), (.const (.bool true)), (.tmp p130)], some (p101, true)⟩, .pure, [22, 31, 2]⟩,
  ⟨33, ⟨some p132, .move, [(.tmp p131)], some (p101, true)⟩, .pure, [32, 22, 2]⟩,
  ⟨34, ⟨some p133, .move, [(.tmp p9)], some (p132, false)⟩, .pure, [33]⟩,
  ⟨35, ⟨some p134, .call, [(.const (.fn 74 [] [])), (.tmp p133)], some (p132, false)⟩, .eff, [34, 33, 33]⟩,
  ⟨36, ⟨some p135, .move, [(.tmp p11)], some (p132, false)⟩, .pure, [33]⟩,
  ⟨37, ⟨some p136, (.idxSlice 7), [(.tmp p135), (.const (.int .i64 (.ofNat 0)))], some (p132, false)⟩, .pure, [36, 33]⟩,
  ⟨38, ⟨some p137, (.fieldAddr 6), [(.tmp p136)], some (p132, false)⟩, .pure, [37, 33]⟩,
  ⟨39, ⟨some p138, (.load false 1), [(.tmp p137)], some (p132, false)⟩, (.read 0 1), [38, 33]⟩,
  ⟨40, ⟨some p139, .call, [(.const (.fn 73 [] [])), (.tmp p134), (.tmp p138)], some (p132, false)⟩, .eff, [35, 39, 35, 33]⟩,
  ⟨41, ⟨some p140, .not, [(.tmp p139)], some (p132, false)⟩, .pure, [40, 33]⟩,
  ⟨42, ⟨some p141, .pick, [(.tmp p132), (.const (.bool true)), (.tmp p140)], some (p101, true)⟩, .pure, [33, 41, 2]⟩,
  ⟨43, ⟨some p142, .pick, [(.tmp p101), (.tmp p141), (.const (.bool false))], none⟩, .pure, [2, 42]⟩])
 (.cond (.tmp p142)
 (.seq (.reg [
  ⟨some p4, .move, [(.const (.bool false))], none⟩])
 (.ret [.tmp p4]))
 .skip))
 (.drawn [
  ⟨0, ⟨some p143, .move, [(.tmp p6)], none⟩, .pure, []⟩,
  ⟨1, ⟨some p144, .move, [(.tmp p6)], none⟩, .pure, []⟩,
  ⟨2, ⟨some p145, .move, [(.tmp p9)], none⟩, .pure, []⟩,
  ⟨3, ⟨some p146, (.fieldAddr 13), [(.tmp p3)], none⟩, .pure, []⟩,
  ⟨4, ⟨some p147, (.load false 1), [(.tmp p146)], none⟩, (.read 0 1), [3]⟩,
  ⟨5, ⟨some p148, .nilCheck, [(.tmp p143)], none⟩, .pure, [0, 0, 2]⟩,
  ⟨6, ⟨some p149, (.fieldAddr 2), [(.tmp p148)], none⟩, .pure, [5, 0, 2]⟩,
  ⟨7, ⟨none, (.store 1), [(.tmp p149), (.tmp p145)], none⟩, .eff, [6, 2, 0, 2]⟩,
  ⟨8, ⟨some p150, .nilCheck, [(.tmp p144)], none⟩, .pure, [1, 0, 1, 2, 3, 4, 5, 6, 7]⟩,
  ⟨9, ⟨some p151, (.fieldAddr 5), [(.tmp p150)], none⟩, .pure, [8, 0, 1, 2, 3, 4, 5, 6, 7]⟩,
  ⟨10, ⟨none, (.store 1), [(.tmp p151), (.tmp p147)], none⟩, .eff, [9, 4, 7, 0, 1, 2, 3, 4, 5, 6, 7]⟩])))))
 (.seq (.reg [
  ⟨some p153, (.eql (.base .int) false), [(.tmp p29), (.const (.int .i64 (.ofNat 14)))], none⟩,
  ⟨some p152, .move, [(.tmp p153)], none⟩])
 (.cond (.tmp p152)
 (.seq (.reg [
  ⟨some p154, .move, [(.tmp p6)], none⟩,
  ⟨some p155, .move, [(.tmp p6)], none⟩,
  ⟨some p156, (.fieldAddr 3), [(.tmp p3)], none⟩,
  ⟨some p157, (.load false 1), [(.tmp p156)], none⟩,
  ⟨some p158, .nilCheck, [(.tmp p154)], none⟩,
  ⟨some p159, (.fieldAddr 3), [(.tmp p158)], none⟩,
  ⟨none, (.store 1), [(.tmp p159), (.tmp p157)], none⟩,
  ⟨some p160, .nilCheck, [(.tmp p155)], none⟩,
  ⟨some p161, (.fieldAddr 4), [(.tmp p160)], none⟩,
  ⟨none, (.store 1), [(.tmp p161), (.const (.int .i64 (.ofNat 0)))], none⟩])
 (.seq (.drawn [
  ⟨0, ⟨some p162, .move, [(.tmp p6)], none⟩, .pure, []⟩,
  ⟨1, ⟨some p163, .nilCheck, [(.tmp p162)], none⟩, .pure, [0]⟩,
  ⟨2, ⟨some p164, (.fieldAddr 2), [(.tmp p163)], none⟩, .pure, [1]⟩,
  ⟨3, ⟨some p165, (.load false 1), [(.tmp p164)], none⟩, (.read 0 0), [2]⟩,
  ⟨4, ⟨some p166, .call, [(.const (.fn 74 [] [])), (.tmp p165)], none⟩, .eff, [3]⟩,
  ⟨5, ⟨some p167, (.fieldAddr 3), [(.tmp p3)], none⟩, .pure, []⟩,
  ⟨6, ⟨some p168, (.load false 1), [(.tmp p167)], none⟩, (.read 0 1), [5]⟩,
  ⟨7, ⟨some p169, .call, [(.const (.fn 73 [] [])), (.tmp p166), (.tmp p168)], none⟩, .eff, [4, 6, 4]⟩,
  ⟨8, ⟨some p4, .move, [(.tmp p169)], none⟩, .pure, [7, 7, 0, 1, 2, 3, 4, 5, 6, 7]⟩])
 (.ret [.tmp p4])))
 .skip))))))))))
 (.seq (.reg [
  ⟨some p4, .move, [(.const (.bool true))], none⟩])
 (.ret [.tmp p4]))))))),
 [.tmp p4]⟩
def F80 : IFn := ⟨2,
(.seq (.reg [
  ⟨some p3, (.box 38 14), [(.tmp p1)], none⟩,
  ⟨some p4, .move, [(.const (.bool false))], none⟩])
 (.seq (.drawn [
  ⟨0, ⟨some p8, .move, [(.tmp p0)], none⟩, .pure, []⟩,
  ⟨1, ⟨some p9, .nilCheck, [(.tmp p8)], none⟩, .pure, [0]⟩,
  ⟨2, ⟨some p10, (.fieldAddr 0), [(.tmp p9)], none⟩, .pure, [1]⟩,
  ⟨3, ⟨some p11, (.load false 1), [(.tmp p10)], none⟩, (.read 0 0), [2]⟩,
  ⟨4, ⟨some p12, (.fieldAddr 1), [(.tmp p3)], none⟩, .pure, []⟩,
  ⟨5, ⟨some p13, (.load false 1), [(.tmp p12)], none⟩, (.read 0 0), [4]⟩,
  ⟨6, ⟨some p14, .call, [(.const (.fn 77 [] [])), (.tmp p11), (.const (.fn 35 [] [])), (.tmp p13)], none⟩, .eff, [3, 5]⟩,
  ⟨7, ⟨some p5, .move, [(.tmp p14)], none⟩, .pure, [6, 6, 0, 1, 2, 3, 4, 5, 6]⟩])
 (.seq (.seq (.reg [
  ⟨some p15, .move, [(.tmp p5)], none⟩,
  ⟨some p16, (.bin .lss), [(.tmp p15), (.const (.int .i64 (.ofNat 0)))], none⟩])
 (.cond (.tmp p16)
 (.seq (.reg [
  ⟨some p4, .move, [(.const (.bool false))], none⟩])
 (.ret [.tmp p4]))
 .skip))
 (.seq (.reg [
  ⟨some p17, .move, [(.tmp p0)], none⟩,
  ⟨some p18, .nilCheck, [(.tmp p17)], none⟩,
  ⟨some p19, (.fieldAddr 0), [(.tmp p18)], none⟩,
  ⟨some p20, (.load false 1), [(.tmp p19)], none⟩,
  ⟨some p21, .move, [(.tmp p5)], none⟩,
  ⟨some p22, (.idxSlice 5), [(.tmp p20), (.tmp p21)], none⟩,
  ⟨some p6, .move, [(.tmp p22)], none⟩])
 (.seq (.drawn [
  ⟨0, ⟨some p23, .move, [(.tmp p6)], none⟩, .pure, []⟩,
  ⟨1, ⟨some p24, .nilCheck, [(.tmp p23)], none⟩, .pure, [0]⟩,
  ⟨2, ⟨some p25, (.fieldAddr 2), [(.tmp p24)], none⟩, .pure, [1]⟩,
  ⟨3, ⟨some p26, (.load false 1), [(.tmp p25)], none⟩, (.read 0 0), [2]⟩,
  ⟨4, ⟨some p27, (.fieldAddr 4), [(.tmp p3)], none⟩, .pure, []⟩,
  ⟨5, ⟨some p28, (.load false 1), [(.tmp p27)], none⟩, (.read 0 0), [4]⟩,
  ⟨6, ⟨some p29, .call, [(.const (.fn 120 [] [])), (.tmp p26), (.const (.fn 41 [] [])), (.tmp p28)], none⟩, .eff, [3, 5]⟩,
  ⟨7, ⟨some p7, .move, [(.tmp p29)], none⟩, .pure, [6, 6, 0, 1, 2, 3, 4, 5, 6]⟩])
 (.seq (.seq (.reg [
  ⟨some p30, (.fieldAddr 0), [(.tmp p3)], none⟩,
  ⟨some p31, (.load false 1), [(.tmp p30)], none⟩])
 (.block 0 [p7] (.seq (.reg [
  ⟨some p33, (.eql (.base .int) false), [(.tmp p31), (.const (.int .i64 (.ofNat 16)))], none⟩,
  ⟨some p32, .move, [(.tmp p33)], none⟩])
 (.cond (.tmp p32)
 (.seq (.reg [
  ⟨some p34, .move, [(.tmp p0)], none⟩,
  ⟨some p35, .move, [(.tmp p0)], none⟩,
  ⟨some p36, .nilCheck, [(.tmp p35)], none⟩,
  ⟨some p37, (.fieldAddr 0), [(.tmp p36)], none⟩,
  ⟨some p38, (.load false 1), [(.tmp p37)], none⟩,
  ⟨some p39, .move, [(.tmp p5)], none⟩,
  ⟨some p40, .move, [(.tmp p5)], none⟩,
  ⟨some p41, (.bin .add), [(.tmp p40), (.const (.int .i64 (.ofNat 1)))], none⟩,
  ⟨some p42, .call, [(.const (.fn 121 [] [])), (.tmp p38), (.tmp p39), (.tmp p41)], none⟩,
  ⟨some p43, .nilCheck, [(.tmp p34)], none⟩,
  ⟨some p44, (.fieldAddr 0), [(.tmp p43)], none⟩,
  ⟨none, (.store 1), [(.tmp p44), (.tmp p42)], none⟩])
 (.seq (.reg [
  ⟨some p4, .move, [(.const (.bool true))], none⟩])
 (.ret [.tmp p4])))
 (.seq (.reg [
  ⟨some p46, (.eql (.base .int) false), [(.tmp p31), (.const (.int .i64 (.ofNat 17)))], none⟩,
  ⟨some p45, .move, [(.tmp p46)], none⟩])
 (.cond (.tmp p45)
 (.seq (.reg [
  ⟨some p47, .move, [(.tmp p6)], none⟩,
  ⟨some p48, (.fieldAddr 9), [(.tmp p3)], none⟩,
  ⟨some p49, (.load false 1), [(.tmp p48)], none⟩,
  ⟨some p50, .nilCheck, [(.tmp p47)], none⟩,
  ⟨some p51, (.fieldAddr 1), [(.tmp p50)], none⟩,
  ⟨none, (.store 1), [(.tmp p51), (.tmp p49)], none⟩])
 (.seq (.reg [
  ⟨some p52, (.fieldAddr 9), [(.tmp p3)], none⟩,
  ⟨some p53, (.load false 1), [(.tmp p52)], none⟩,
  ⟨some p54, .call, [(.const (.fn 39 [] [])), (.tmp p53)], none⟩,
  ⟨some p4, .move, [(.tmp p54)], none⟩])
 (.ret [.tmp p4])))
 (.seq (.reg [
  ⟨some p56, (.eql (.base .int) false), [(.tmp p31), (.const (.int .i64 (.ofNat 18)))], none⟩,
  ⟨some p55, .move, [(.tmp p56)], none⟩])
 (.cond (.tmp p55)
 (.seq (.seq (.drawn [
  ⟨0, ⟨some p57, .move, [(.tmp p7)], none⟩, .pure, []⟩,
  ⟨1, ⟨some p58, (.bin .geq), [(.tmp p57), (.const (.int .i64 (.ofNat 0)))], none⟩, .pure, [0]⟩,
  ⟨2, ⟨some p59, .move, [(.tmp p58)], none⟩, .pure, [1]⟩,
  ⟨3, ⟨some p60, (.fieldAddr 4), [(.tmp p3)], some (p59, false)⟩, .pure, [2]⟩,
  ⟨4, ⟨some p61, (.load false 1), [(.tmp p60)], some (p59, false)⟩, (.read 0 0), [3, 2]⟩,
  ⟨5, ⟨some p62, .call, [(.const (.fn 42 [] [])), (.tmp p61)], some (p59, false)⟩, .eff, [4, 2, 2]⟩,
  ⟨6, ⟨some p63, .not, [(.tmp p62)], some (p59, false)⟩, .pure, [5, 2]⟩,
  ⟨7, ⟨some p64, .pick, [(.tmp p59), (.const (.bool true)), (.tmp p63)], none⟩, .pure, [2, 6]⟩,
  ⟨8, ⟨some p65, .move, [(.tmp p64)], none⟩, .pure, [7, 5]⟩,
  ⟨9, ⟨some p66, .move, [(.tmp p0)], some (p65, false)⟩, .pure, [8]⟩,
  ⟨10, ⟨some p67, .nilCheck, [(.tmp p66)], some (p65, false)⟩, .pure, [9, 8]⟩,
  ⟨11, ⟨some p68, (.fieldAddr 1), [(.tmp p67)], some (p65, false)⟩, .pure, [10, 8]⟩,
  ⟨12, ⟨some p69, (.load false 1), [(.tmp p68)], some (p65, false)⟩, (.read 1 1), [11, 8]⟩,
  ⟨13, ⟨some p70, (.fieldAddr 2), [(.tmp p3)], some (p65, false)⟩, .pure, [8]⟩,
  ⟨14, ⟨some p71, (.load false 1), [(.tmp p70)], some (p65, false)⟩, (.read 1 1), [13, 8]⟩,
  ⟨15, ⟨some p72, .call, [(.const (.fn 75 [] [])), (.tmp p69), (.const (.fn 38 [] [])), (.tmp p71)], some (p65, false)⟩, .eff, [12, 14, 8, 8]⟩,
  ⟨16, ⟨some p73, (.bin .lss), [(.tmp p72), (.const (.int .i64 (.ofNat 0)))], some (p65, false)⟩, .pure, [15, 8]⟩,
  ⟨17, ⟨some p74, .pick, [(.tmp p65), (.const (.bool true)), (.tmp p73)], none⟩, .pure, [8, 16]⟩])
 (.cond (.tmp p74)
 (.seq (.reg [
  ⟨some p4, .move, [(.const (.bool false))], none⟩])
 (.ret [.tmp p4]))
 .skip))
 (.seq (.drawn [
  ⟨0, ⟨some p75, .move, [(.tmp p6)], none⟩, .pure, []⟩,
  ⟨1, ⟨some p76, .move, [(.tmp p6)], none⟩, .pure, []⟩,
  ⟨2, ⟨some p77, .nilCheck, [(.tmp p76)], none⟩, .pure, [1]⟩,
  ⟨3, ⟨some p78, (.fieldAddr 2), [(.tmp p77)], none⟩, .pure, [2]⟩,
  ⟨4, ⟨some p79, (.load false 1), [(.tmp p78)], none⟩, (.read 0 0), [3]⟩,
  ⟨5, ⟨some p80, (.fieldAddr 4), [(.tmp p3)], none⟩, .pure, []⟩,
  ⟨6, ⟨some p81, (.load false 1), [(.tmp p80)], none⟩, (.read 0 0), [5]⟩,
  ⟨7, ⟨some p82, (.fieldAddr 2), [(.tmp p3)], none⟩, .pure, []⟩,
  ⟨8, ⟨some p83, (.load false 1), [(.tmp p82)], none⟩, (.read 0 0), [7]⟩,
  ⟨9, ⟨some p84, (.build [(.int .i64 (.ofNat 0)), (.int .i64 (.ofNat 0))] [(0, 1), (1, 1)]), [(.tmp p81), (.tmp p83)], none⟩, .pure, [6, 8]⟩,
  ⟨10, ⟨some p85, .call, [(.const (.fn 122 [] [])), (.tmp p79), (.const (.fn 41 [] [])), (.tmp p84)], none⟩, .eff, [4, 9]⟩,
  ⟨11, ⟨some p86, .nilCheck, [(.tmp p75)], none⟩, .pure, [0, 0, 1, 2, 3, 4, 5, 6, 7, 8, 9, 10]⟩,
  ⟨12, ⟨some p87, (.fieldAddr 2), [(.tmp p86)], none⟩, .pure, [11, 0, 1, 2, 3, 4, 5, 6, 7, 8, 9, 10]⟩,
  ⟨13, ⟨none, (.store 1), [(.tmp p87), (.tmp p85)], none⟩, .eff, [12, 10, 10, 0, 1, 2, 3, 4, 5, 6, 7, 8, 9, 10]⟩])
 (.seq (.reg [
  ⟨some p4, .move, [(.const (.bool true))], none⟩])
 (.ret [.tmp p4]))))
 (.seq (.reg [
  ⟨some p89, (.eql (.base .int) false), [(.tmp p31), (.const (.int .i64 (.ofNat 19)))], none⟩,
  ⟨some p88, .move, [(.tmp p89)], none⟩])
 (.cond (.tmp p88)
 (.seq (.reg [
  ⟨some p90, .move, [(.tmp p7)], none⟩,
  ⟨some p91, (.bin .geq), [(.tmp p90), (.const (.int .i64 (.ofNat 0)))], none⟩])
 (.cond (.tmp p91)
 (.reg [
  ⟨some p92, .move, [(.tmp p6)], none⟩,
  ⟨some p93, .move, [(.tmp p6)], none⟩,
  ⟨some p94, .nilCheck, [(.tmp p93)], none⟩,
  ⟨some p95, (.fieldAddr 2), [(.tmp p94)], none⟩,
  ⟨some p96, (.load false 1), [(.tmp p95)], none⟩,
  ⟨some p97, .move, [(.tmp p7)], none⟩,
  ⟨some p98, .move, [(.tmp p7)], none⟩,
  ⟨some p99, (.bin .add), [(.tmp p98), (.const (.int .i64 (.ofNat 1)))], none⟩,
  ⟨some p100, .call, [(.const (.fn 123 [] [])), (.tmp p96), (.tmp p97), (.tmp p99)], none⟩,
  ⟨some p101, .nilCheck, [(.tmp p92)], none⟩,
  ⟨some p102, (.fieldAddr 2), [(.tmp p101)], none⟩,
  ⟨none, (.store 1), [(.tmp p102), (.tmp p100)], none⟩])
 .skip))
 (.seq (.reg [
  ⟨some p104, (.eql (.base .int) false), [(.tmp p31), (.const (.int .i64 (.ofNat 20)))], none⟩,
  ⟨some p103, .move, [(.tmp p104)], none⟩])
 (.cond (.tmp p103)
 (.reg [
  ⟨some p105, .move, [(.tmp p6)], none⟩,
  ⟨some p106, .move, [(.tmp p6)], none⟩,
  ⟨some p107, (.fieldAddr 4), [(.tmp p3)], none⟩,
  ⟨some p108, (.load false 1), [(.tmp p107)], none⟩,
  ⟨some p109, .nilCheck, [(.tmp p105)], none⟩,
  ⟨some p110, (.fieldAddr 3), [(.tmp p109)], none⟩,
  ⟨none, (.store 1), [(.tmp p110), (.tmp p108)], none⟩,
  ⟨some p111, .nilCheck, [(.tmp p106)], none⟩,
  ⟨some p112, (.fieldAddr 4), [(.tmp p111)], none⟩,
  ⟨none, (.store 1), [(.tmp p112), (.const (.int .i64 (.negSucc 0)))], none⟩])
 .skip))))))))))))
 (.seq (.reg [
  ⟨some p113, .move, [(.tmp p7)], none⟩,
  ⟨some p114, (.bin .geq), [(.tmp p113), (.const (.int .i64 (.ofNat 0)))], none⟩,
  ⟨some p4, .move, [(.tmp p114)], none⟩])
 (.ret [.tmp p4])))))))),
 [.tmp p4]⟩
def F88 : IFn := ⟨2,
(.seq (.reg [
  ⟨some p4, .move, [(.const (.int .i64 (.ofNat 0)))], none⟩])
 (.seq (.reg [
  ⟨some p5, .move, [(.tmp p0)], none⟩,
  ⟨some p6, .move, [(.tmp p1)], none⟩,
  ⟨some p7, .call, [(.const (.fn 131 [] [])), (.tmp p5), (.tmp p6)], none⟩,
  ⟨some p4, .move, [(.tmp p7)], none⟩])
 (.ret [.tmp p4]))),
 [.tmp p4]⟩
def F92 : IFn := ⟨1,
(.seq (.reg [
  ⟨some p3, .move, [(.tmp p0)], none⟩,
  ⟨some p4, .lenL, [(.tmp p3)], none⟩,
  ⟨some p2, .move, [(.tmp p4)], none⟩])
 (.reg [
  ⟨some p5, .move, [(.tmp p0)], none⟩,
  ⟨some p6, .move, [(.tmp p2)], none⟩,
  ⟨some p7, .move, [(.tmp p2)], none⟩,
  ⟨some p8, (.convInt .u64), [(.tmp p7)], none⟩,
  ⟨some p9, .call, [(.const (.fn 136 [] [])), (.tmp p8)], none⟩,
  ⟨some p10, .call, [(.const (.fn 135 [] [])), (.tmp p5), (.const (.int .i64 (.ofNat 0))), (.tmp p6), (.tmp p9)], none⟩])),
 []⟩
def F93 : IFn := ⟨1,
(.seq (.reg [
  ⟨some p2, .move, [(.const (.str []))], none⟩,
  ⟨some p3, .move, [(.const (.int .i64 (.ofNat 0)))], none⟩])
 (.seq (.seq (.reg [
  ⟨some p7, .move, [(.tmp p0)], none⟩,
  ⟨some p8, .call, [(.const (.fn 137 [] [])), (.tmp p7)], none⟩,
  ⟨some p4, .move, [(.tmp p8)], none⟩])
 (.seq (.reg [
  ⟨some p9, .move, [(.tmp p4)], none⟩,
  ⟨some p10, (.eql (.base .int) true), [(.tmp p9), (.const (.int .i64 (.ofNat 0)))], none⟩])
 (.cond (.tmp p10)
 (.seq (.reg [
  ⟨some p11, .move, [(.tmp p4)], none⟩,
  ⟨some p2, .move, [(.const (.str []))], none⟩,
  ⟨some p3, .move, [(.tmp p11)], none⟩])
 (.ret [.tmp p2, .tmp p3]))
 .skip)))
 (.seq (.reg [
  ⟨some p12, .move, [(.tmp p0)], none⟩,
  ⟨some p13, (.build [.snil, (.int .i64 (.ofNat 0)), .pnil, .snil] [(0, 1)]), [(.tmp p12)], none⟩,
  ⟨some p14, (.box 182 4), [(.tmp p13)], none⟩,
  ⟨some p5, .move, [(.tmp p14)], none⟩])
 (.seq (.reg [
  ⟨some p15, .move, [(.tmp p5)], none⟩,
  ⟨some p16, .call, [(.const (.fn 138 [] [])), (.tmp p15)], none⟩])
 (.seq (.reg [
  ⟨some p17, .move, [(.tmp p5)], none⟩,
  ⟨some p18, .nilCheck, [(.tmp p17)], none⟩,
  ⟨some p19, (.fieldAddr 2), [(.tmp p18)], none⟩,
  ⟨some p20, .call, [(.const (.fn 139 [] [])), (.tmp p19)], none⟩,
  ⟨some p6, .move, [(.tmp p20)], none⟩])
 (.seq (.reg [
  ⟨some p21, .move, [(.tmp p6)], none⟩,
  ⟨some p22, .call, [(.const (.fn 141 [] [])), (.tmp p21)], none⟩,
  ⟨some p23, .call, [(.const (.fn 140 [] [])), (.tmp p22)], none⟩,
  ⟨some p24, (.bin .sadd), [(.tmp p23), (.const (.str [44]))], none⟩,
  ⟨some p25, .move, [(.tmp p6)], none⟩,
  ⟨some p26, (.bin .sadd), [(.tmp p24), (.tmp p25)], none⟩,
  ⟨some p2, .move, [(.tmp p26)], none⟩,
  ⟨some p3, .move, [(.const (.int .i64 (.ofNat 0)))], none⟩])
 (.ret [.tmp p2, .tmp p3]))))))),
 [.tmp p2, .tmp p3]⟩
def F94 : IFn := ⟨3,
(.seq (.reg [
  ⟨some p6, .move, [(.const .snil)], none⟩,
  ⟨some p7, .move, [(.const (.int .i64 (.ofNat 0)))], none⟩])
 (.seq (.block 0 [p0, p1, p2] (.seq (.seq (.reg [
  ⟨some p9, .move, [(.tmp p0)], none⟩,
  ⟨some p10, .call, [(.const (.fn 142 [] [])), (.tmp p9)], none⟩,
  ⟨some p11, .not, [(.tmp p10)], none⟩,
  ⟨some p8, .move, [(.tmp p11)], none⟩])
 (.cond (.tmp p8)
 .skip
 (.reg [
  ⟨some p12, .move, [(.tmp p1)], none⟩,
  ⟨some p13, .call, [(.const (.fn 142 [] [])), (.tmp p12)], none⟩,
  ⟨some p14, .not, [(.tmp p13)], none⟩,
  ⟨some p8, .move, [(.tmp p14)], none⟩])))
 (.cond (.tmp p8)
 (.seq (.reg [
  ⟨some p6, .move, [(.const .snil)], none⟩,
  ⟨some p7, .move, [(.const (.int .i64 (.ofNat 41)))], none⟩])
 (.ret [.tmp p6, .tmp p7]))
 (.seq (.reg [
  ⟨some p16, .move, [(.tmp p2)], none⟩,
  ⟨some p17, .call, [(.const (.fn 143 [] [])), (.tmp p16)], none⟩,
  ⟨some p18, .not, [(.tmp p17)], none⟩,
  ⟨some p15, .move, [(.tmp p18)], none⟩])
 (.cond (.tmp p15)
 (.seq (.reg [
  ⟨some p6, .move, [(.const .snil)], none⟩,
  ⟨some p7, .move, [(.const (.int .i64 (.ofNat 43)))], none⟩])
 (.ret [.tmp p6, .tmp p7]))
 .skip)))))
 (.seq (.reg [
  ⟨some p19, .move, [(.tmp p0)], none⟩,
  ⟨some p20, .move, [(.tmp p1)], none⟩,
  ⟨some p21, .move, [(.tmp p2)], none⟩,
  ⟨some p22, (.build [(.int .i64 (.ofNat 0)), (.int .i64 (.ofNat 0)), (.int .i64 (.ofNat 0)), (.int .i64 (.ofNat 0)), (.int .i64 (.ofNat 0)), (.int .i64 (.ofNat 0)), (.int .i64 (.ofNat 0))] [(1, 1), (4, 1), (5, 1), (6, 1)]), [(.const (.int .i64 (.ofNat 1))), (.tmp p19), (.tmp p20), (.tmp p21)], none⟩,
  ⟨some p23, (.buildSlice 82 7 [(.int .i64 (.ofNat 0)), (.int .i64 (.ofNat 0)), (.int .i64 (.ofNat 0)), (.int .i64 (.ofNat 0)), (.int .i64 (.ofNat 0)), (.int .i64 (.ofNat 0)), (.int .i64 (.ofNat 0))] 1 [(0, 7)]), [(.tmp p22)], none⟩,
  ⟨some p6, .move, [(.tmp p23)], none⟩,
  ⟨some p7, .move, [(.const (.int .i64 (.ofNat 0)))], none⟩])
 (.ret [.tmp p6, .tmp p7])))),
 [.tmp p6, .tmp p7]⟩
def F95 : IFn := ⟨3,
(.seq (.reg [
  ⟨some p3, (.box 73 2), [(.tmp p0)], none⟩])
 (.reg [
  ⟨some p4, (.load false 1), [(.tmp p1)], none⟩,
  ⟨some p5, (.load false 1), [(.tmp p2)], none⟩,
  ⟨some p6, (.fieldAddr 0), [(.tmp p3)], none⟩,
  ⟨some p7, (.load false 1), [(.tmp p6)], none⟩,
  ⟨some p8, (.build [(.int .i64 (.ofNat 0)), (.int .i64 (.ofNat 0)), (.int .i64 (.ofNat 0)), (.int .i64 (.ofNat 0)), (.int .i64 (.ofNat 0)), (.int .i64 (.ofNat 0)), (.int .i64 (.ofNat 0)), (.int .i64 (.ofNat 0)), (.int .i64 (.ofNat 0)), (.str []), (.str []), (.str []), (.str []), (.bool false)] [(0, 1), (1, 1), (4, 1)]), [(.const (.int .i64 (.ofNat 19))), (.tmp p5), (.tmp p7)], none⟩,
  ⟨some p9, (.buildSlice 38 14 [(.int .i64 (.ofNat 0)), (.int .i64 (.ofNat 0)), (.int .i64 (.ofNat 0)), (.int .i64 (.ofNat 0)), (.int .i64 (.ofNat 0)), (.int .i64 (.ofNat 0)), (.int .i64 (.ofNat 0)), (.int .i64 (.ofNat 0)), (.int .i64 (.ofNat 0)), (.str []), (.str []), (.str []), (.str []), (.bool false)] 1 [(0, 14)]), [(.tmp p8)], none⟩,
  ⟨some p10, .call, [(.const (.fn 52 [] [])), (.tmp p4), (.const (.int .i64 (.ofNat 8))), (.tmp p9)], none⟩])),
 []⟩
def F96 : IFn := ⟨3,
(.seq (.reg [
  ⟨some p3, (.box 73 2), [(.tmp p0)], none⟩])
 (.reg [
  ⟨some p4, (.load false 1), [(.tmp p1)], none⟩,
  ⟨some p5, (.load false 1), [(.tmp p2)], none⟩,
  ⟨some p6, (.fieldAddr 0), [(.tmp p3)], none⟩,
  ⟨some p7, (.load false 1), [(.tmp p6)], none⟩,
  ⟨some p8, (.fieldAddr 1), [(.tmp p3)], none⟩,
  ⟨some p9, (.load false 1), [(.tmp p8)], none⟩,
  ⟨some p10, (.build [(.int .i64 (.ofNat 0)), (.int .i64 (.ofNat 0)), (.int .i64 (.ofNat 0)), (.int .i64 (.ofNat 0)), (.int .i64 (.ofNat 0)), (.int .i64 (.ofNat 0)), (.int .i64 (.ofNat 0)), (.int .i64 (.ofNat 0)), (.int .i64 (.ofNat 0)), (.str []), (.str []), (.str []), (.str []), (.bool false)] [(0, 1), (1, 1), (4, 1), (2, 1)]), [(.const (.int .i64 (.ofNat 18))), (.tmp p5), (.tmp p7), (.tmp p9)], none⟩,
  ⟨some p11, (.buildSlice 38 14 [(.int .i64 (.ofNat 0)), (.int .i64 (.ofNat 0)), (.int .i64 (.ofNat 0)), (.int .i64 (.ofNat 0)), (.int .i64 (.ofNat 0)), (.int .i64 (.ofNat 0)), (.int .i64 (.ofNat 0)), (.int .i64 (.ofNat 0)), (.int .i64 (.ofNat 0)), (.str []), (.str []), (.str []), (.str []), (.bool false)] 1 [(0, 14)]), [(.tmp p10)], none⟩,
  ⟨some p12, .call, [(.const (.fn 52 [] [])), (.tmp p4), (.const (.int .i64 (.ofNat 9))), (.tmp p11)], none⟩])),
 []⟩
def F97 : IFn := ⟨6,
(.block 0 [] (.loop [p0, p1, p2, p3, p4, p5] (.seq (.seq (.reg [
  ⟨some p12, .move, [(.tmp p0)], none⟩,
  ⟨some p13, .lenL, [(.tmp p12)], none⟩,
  ⟨some p14, (.bin .gtr), [(.tmp p13), (.const (.int .i64 (.ofNat 0)))], none⟩,
  ⟨some p15, .move, [(.tmp p14)], none⟩,
  ⟨some p16, .move, [(.tmp p1)], some (p15, false)⟩,
  ⟨some p17, .lenL, [(.tmp p16)], some (p15, false)⟩,
  ⟨some p18, (.bin .gtr), [(.tmp p17), (.const (.int .i64 (.ofNat 0)))], some (p15, false)⟩,
  ⟨some p19, .pick, [(.tmp p15), (.const (.bool true)), (.tmp p18)], none⟩])
 (.cond (.tmp p19)
 .skip
 (.exit 0 [])))
 (.block 1 [p0, p1, p2, p3, p4, p5] (.block 2 [p0, p1, p2, p3, p4, p5] (.seq (.drawn [
  ⟨0, ⟨some p33, .move, [(.tmp p1)], none⟩, .pure, []⟩,
  ⟨1, ⟨some p34, .lenL, [(.tmp p33)], none⟩, .pure, [0]⟩,
  ⟨2, ⟨some p35, (.eql (.base .int) false), [(.tmp p34), (.const (.int .i64 (.ofNat 0)))], none⟩, (.read 0 0), [1]⟩,
  ⟨3, ⟨some p36, .move, [(.tmp p35)], none⟩, .pure, [2]⟩,
  ⟨4, ⟨some p37, .move, [(.tmp p0)], some (p36, false)⟩, .pure, [3]⟩,
  ⟨5, ⟨some p38, .lenL, [(.tmp p37)], some (p36, false)⟩, .pure, [4, 3]⟩,
  ⟨6, ⟨some p39, (.bin .gtr), [(.tmp p38), (.const (.int .i64 (.ofNat 0)))], some (p36, false)⟩, .pure, [5, 3]⟩,
  ⟨7, ⟨some p40, .move, [(.tmp p39)], some (p36, false)⟩, .pure, [6, 3, 3]⟩,
  ⟨8, ⟨some p41, .move, [(.tmp p2)], some (p40, true)⟩, .pure, [7]⟩,
  ⟨9, ⟨some p42, .move, [(.tmp p0)], some (p40, true)⟩, .pure, [7]⟩,
  ⟨10, ⟨some p43, (.idxSlice 2), [(.tmp p42), (.const (.int .i64 (.ofNat 0)))], some (p40, true)⟩, .pure, [9, 7]⟩,
  ⟨11, ⟨some p44, (.load true 2), [(.tmp p43)], some (p40, true)⟩, (.read 0 0), [10, 7]⟩,
  ⟨12, ⟨some p45, .call, [(.tmp p41), (.tmp p44)], some (p40, true)⟩, .eff, [8, 11, 7, 7]⟩,
  ⟨13, ⟨some p46, .move, [(.tmp p2)], some (p40, true)⟩, .pure, [7]⟩,
  ⟨14, ⟨some p47, .move, [(.tmp p1)], some (p40, true)⟩, .pure, [7]⟩,
  ⟨15, ⟨some p48, (.idxSlice 2), [(.tmp p47), (.const (.int .i64 (.ofNat 0)))], some (p40, true)⟩, .pure, [14, 7]⟩,
  ⟨16, ⟨some p49, (.load true 2), [(.tmp p48)], some (p40, true)⟩, (.read 0 1), [15, 7]⟩,
  ⟨17, ⟨some p50, .call, [(.tmp p46), (.tmp p49)], some (p40, true)⟩, .eff, [13, 16, 12, 7]⟩,
  ⟨18, ⟨some p51, (.bin .lss), [(.tmp p45), (.tmp p50)], some (p40, true)⟩, .pure, [12, 17, 7]⟩,
  ⟨19, ⟨some p52, .pick, [(.tmp p40), (.tmp p51), (.const (.bool false))], some (p36, false)⟩, .pure, [7, 18, 3]⟩,
  ⟨20, ⟨some p53, .pick, [(.tmp p36), (.const (.bool true)), (.tmp p52)], none⟩, .pure, [3, 19]⟩,
  ⟨21, ⟨some p32, .move, [(.tmp p53)], none⟩, .pure, [20, 17]⟩])
 (.cond (.tmp p32)
 (.seq (.reg [
  ⟨some p54, .move, [(.tmp p3)], none⟩,
  ⟨some p55, .move, [(.tmp p0)], none⟩,
  ⟨some p56, (.idxSlice 2), [(.tmp p55), (.const (.int .i64 (.ofNat 0)))], none⟩,
  ⟨some p57, (.load true 2), [(.tmp p56)], none⟩,
  ⟨some p58, .call, [(.tmp p54), (.tmp p57)], none⟩])
 (.reg [
  ⟨some p59, .move, [(.tmp p0)], none⟩,
  ⟨some p60, (.slSlice 2 true false false), [(.tmp p59), (.const (.int .i64 (.ofNat 1)))], none⟩,
  ⟨some p0, .move, [(.tmp p60)], none⟩]))
 (.seq (.drawn [
  ⟨0, ⟨some p62, .move, [(.tmp p0)], none⟩, .pure, []⟩,
  ⟨1, ⟨some p63, .lenL, [(.tmp p62)], none⟩, .pure, [0]⟩,
  ⟨2, ⟨some p64, (.eql (.base .int) false), [(.tmp p63), (.const (.int .i64 (.ofNat 0)))], none⟩, (.read 0 0), [1]⟩,
  ⟨3, ⟨some p65, .move, [(.tmp p64)], none⟩, .pure, [2]⟩,
  ⟨4, ⟨some p66, .move, [(.tmp p2)], some (p65, false)⟩, .pure, [3]⟩,
  ⟨5, ⟨some p67, .move, [(.tmp p1)], some (p65, false)⟩, .pure, [3]⟩,
  ⟨6, ⟨some p68, (.idxSlice 2), [(.tmp p67), (.const (.int .i64 (.ofNat 0)))], some (p65, false)⟩, .pure, [5, 3]⟩,
  ⟨7, ⟨some p69, (.load true 2), [(.tmp p68)], some (p65, false)⟩, (.read 0 0), [6, 3]⟩,
  ⟨8, ⟨some p70, .call, [(.tmp p66), (.tmp p69)], some (p65, false)⟩, .eff, [4, 7, 3, 3]⟩,
  ⟨9, ⟨some p71, .move, [(.tmp p2)], some (p65, false)⟩, .pure, [3]⟩,
  ⟨10, ⟨some p72, .move, [(.tmp p0)], some (p65, false)⟩, .pure, [3]⟩,
  ⟨11, ⟨some p73, (.idxSlice 2), [(.tmp p72), (.const (.int .i64 (.ofNat 0)))], some (p65, false)⟩, .pure, [10, 3]⟩,
  ⟨12, ⟨some p74, (.load true 2), [(.tmp p73)], some (p65, false)⟩, (.read 0 1), [11, 3]⟩,
  ⟨13, ⟨some p75, .call, [(.tmp p71), (.tmp p74)], some (p65, false)⟩, .eff, [9, 12, 8, 3]⟩,
  ⟨14, ⟨some p76, (.bin .lss), [(.tmp p70), (.tmp p75)], some (p65, false)⟩, .pure, [8, 13, 3]⟩,
  ⟨15, ⟨some p77, .pick, [(.tmp p65), (.const (.bool true)), (.tmp p76)], none⟩, .pure, [3, 14]⟩,
  ⟨16, ⟨some p61, .move, [(.tmp p77)], none⟩, .pure, [15, 13]⟩])
 (.cond (.tmp p61)
 (.seq (.reg [
  ⟨some p78, .move, [(.tmp p5)], none⟩,
  ⟨some p79, .move, [(.tmp p1)], none⟩,
  ⟨some p80, (.idxSlice 2), [(.tmp p79), (.const (.int .i64 (.ofNat 0)))], none⟩,
  ⟨some p81, (.load true 2), [(.tmp p80)], none⟩,
  ⟨some p82, .call, [(.tmp p78), (.tmp p81)], none⟩])
 (.reg [
  ⟨some p83, .move, [(.tmp p1)], none⟩,
  ⟨some p84, (.slSlice 2 true false false), [(.tmp p83), (.const (.int .i64 (.ofNat 1)))], none⟩,
  ⟨some p1, .move, [(.tmp p84)], none⟩]))
 (.seq (.drawn [
  ⟨0, ⟨some p20, .move, [(.tmp p4)], none⟩, .pure, []⟩,
  ⟨1, ⟨some p21, .move, [(.tmp p0)], none⟩, .pure, []⟩,
  ⟨2, ⟨some p22, (.idxSlice 2), [(.tmp p21), (.const (.int .i64 (.ofNat 0)))], none⟩, .pure, [1]⟩,
  ⟨3, ⟨some p23, (.load true 2), [(.tmp p22)], none⟩, (.read 0 0), [2]⟩,
  ⟨4, ⟨some p24, .move, [(.tmp p1)], none⟩, .pure, []⟩,
  ⟨5, ⟨some p25, (.idxSlice 2), [(.tmp p24), (.const (.int .i64 (.ofNat 0)))], none⟩, .pure, [4]⟩,
  ⟨6, ⟨some p26, (.load true 2), [(.tmp p25)], none⟩, (.read 0 0), [5]⟩,
  ⟨7, ⟨some p27, .call, [(.tmp p20), (.tmp p23), (.tmp p26)], none⟩, .eff, [0, 3, 6]⟩])
 (.drawn [
  ⟨0, ⟨some p28, .move, [(.tmp p0)], none⟩, .pure, []⟩,
  ⟨1, ⟨some p29, (.slSlice 2 true false false), [(.tmp p28), (.const (.int .i64 (.ofNat 1)))], none⟩, .pure, [0]⟩,
  ⟨2, ⟨some p30, .move, [(.tmp p1)], none⟩, .pure, []⟩,
  ⟨3, ⟨some p31, (.slSlice 2 true false false), [(.tmp p30), (.const (.int .i64 (.ofNat 1)))], none⟩, .pure, [2]⟩,
  ⟨4, ⟨some p0, .move, [(.tmp p29)], none⟩, .pure, [1, 0, 1]⟩,
  ⟨5, ⟨some p1, .move, [(.tmp p31)], none⟩, .pure, [3, 4, 0, 1, 2, 3, 4]⟩]))))))))))),
 []⟩
def F98 : IFn := ⟨4,
(.seq (.reg [
  ⟨some p4, (.box 73 2), [(.tmp p0)], none⟩,
  ⟨some p5, (.box 73 2), [(.tmp p1)], none⟩])
 (.seq (.reg [
  ⟨some p6, (.fieldAddr 1), [(.tmp p4)], none⟩,
  ⟨some p7, (.load false 1), [(.tmp p6)], none⟩,
  ⟨some p8, (.fieldAddr 1), [(.tmp p5)], none⟩,
  ⟨some p9, (.load false 1), [(.tmp p8)], none⟩,
  ⟨some p10, (.eql (.base .int) true), [(.tmp p7), (.tmp p9)], none⟩])
 (.cond (.tmp p10)
 (.seq (.reg [
  ⟨some p11, (.load false 1), [(.tmp p2)], none⟩,
  ⟨some p12, (.load true 2), [(.tmp p4)], none⟩,
  ⟨some p13, .call, [(.tmp p11), (.tmp p12)], none⟩])
 (.reg [
  ⟨some p14, (.load false 1), [(.tmp p3)], none⟩,
  ⟨some p15, (.load true 2), [(.tmp p5)], none⟩,
  ⟨some p16, .call, [(.tmp p14), (.tmp p15)], none⟩]))
 .skip))),
 []⟩
def F101 : IFn := ⟨1,
(.seq (.reg [
  ⟨some p2, .move, [(.const .snil)], none⟩])
 (.seq (.seq (.reg [
  ⟨some p3, .move, [(.tmp p0)], none⟩,
  ⟨some p4, (.eql .slc false), [(.tmp p3), (.const .snil)], none⟩])
 (.cond (.tmp p4)
 (.seq (.reg [
  ⟨some p2, .move, [(.const .snil)], none⟩])
 (.ret [.tmp p2]))
 .skip))
 (.seq (.reg [
  ⟨some p5, (.buildSlice 60 5 [(.int .i64 (.ofNat 0)), (.str []), .snil, (.int .i64 (.ofNat 0)), (.int .i64 (.ofNat 0))] 0 []), [], none⟩,
  ⟨some p6, .move, [(.tmp p0)], none⟩,
  ⟨some p7, (.append 60 5 64), [(.tmp p5), (.tmp p6)], none⟩,
  ⟨some p2, .move, [(.tmp p7)], none⟩])
 (.ret [.tmp p2])))),
 [.tmp p2]⟩
def F102 : IFn := ⟨1,
(.seq (.reg [
  ⟨some p2, .move, [(.const .snil)], none⟩])
 (.seq (.seq (.reg [
  ⟨some p3, .move, [(.tmp p0)], none⟩,
  ⟨some p4, (.eql .slc false), [(.tmp p3), (.const .snil)], none⟩])
 (.cond (.tmp p4)
 (.seq (.reg [
  ⟨some p2, .move, [(.const .snil)], none⟩])
 (.ret [.tmp p2]))
 .skip))
 (.seq (.reg [
  ⟨some p5, (.buildSlice 66 6 [(.int .i64 (.ofNat 0)), (.str []), .snil, (.int .i64 (.ofNat 0)), (.int .i64 (.ofNat 0)), (.bool false)] 0 []), [], none⟩,
  ⟨some p6, .move, [(.tmp p0)], none⟩,
  ⟨some p7, (.append 66 6 72), [(.tmp p5), (.tmp p6)], none⟩,
  ⟨some p2, .move, [(.tmp p7)], none⟩])
 (.ret [.tmp p2])))),
 [.tmp p2]⟩
def F103 : IFn := ⟨1,
(.seq (.reg [
  ⟨some p2, .move, [(.const .snil)], none⟩])
 (.seq (.seq (.reg [
  ⟨some p3, .move, [(.tmp p0)], none⟩,
  ⟨some p4, (.eql .slc false), [(.tmp p3), (.const .snil)], none⟩])
 (.cond (.tmp p4)
 (.seq (.reg [
  ⟨some p2, .move, [(.const .snil)], none⟩])
 (.ret [.tmp p2]))
 .skip))
 (.seq (.reg [
  ⟨some p5, (.buildSlice 73 2 [(.int .i64 (.ofNat 0)), (.int .i64 (.ofNat 0))] 0 []), [], none⟩,
  ⟨some p6, .move, [(.tmp p0)], none⟩,
  ⟨some p7, (.append 73 2 16), [(.tmp p5), (.tmp p6)], none⟩,
  ⟨some p2, .move, [(.tmp p7)], none⟩])
 (.ret [.tmp p2])))),
 [.tmp p2]⟩
def F104 : IFn := ⟨1,
(.seq (.reg [
  ⟨some p2, .move, [(.const .snil)], none⟩])
 (.seq (.seq (.reg [
  ⟨some p3, .move, [(.tmp p0)], none⟩,
  ⟨some p4, (.eql .slc false), [(.tmp p3), (.const .snil)], none⟩])
 (.cond (.tmp p4)
 (.seq (.reg [
  ⟨some p2, .move, [(.const .snil)], none⟩])
 (.ret [.tmp p2]))
 .skip))
 (.seq (.reg [
  ⟨some p5, (.buildSlice 82 7 [(.int .i64 (.ofNat 0)), (.int .i64 (.ofNat 0)), (.int .i64 (.ofNat 0)), (.int .i64 (.ofNat 0)), (.int .i64 (.ofNat 0)), (.int .i64 (.ofNat 0)), (.int .i64 (.ofNat 0))] 0 []), [], none⟩,
  ⟨some p6, .move, [(.tmp p0)], none⟩,
  ⟨some p7, (.append 82 7 56), [(.tmp p5), (.tmp p6)], none⟩,
  ⟨some p2, .move, [(.tmp p7)], none⟩])
 (.ret [.tmp p2])))),
 [.tmp p2]⟩
def F105 : IFn := ⟨2,
(.seq (.reg [
  ⟨some p4, .move, [(.const (.int .i64 (.ofNat 0)))], none⟩])
 (.seq (.seq (.reg [
  ⟨some p6, .move, [(.tmp p0)], none⟩,
  ⟨some p7, .lenL, [(.tmp p6)], none⟩,
  ⟨some p8, .move, [(.const (.int .i64 (.ofNat 0)))], none⟩])
 (.block 0 [] (.loop [p0, p1, p7, p8] (.seq (.reg [
  ⟨some p9, (.bin .lss), [(.tmp p8), (.tmp p7)], none⟩])
 (.seq (.cond (.tmp p9)
 .skip
 (.exit 0 []))
 (.seq (.block 1 [p0, p1, p7, p8] (.seq (.reg [
  ⟨some p10, .move, [(.tmp p8)], none⟩,
  ⟨some p5, .move, [(.tmp p10)], none⟩])
 (.seq (.reg [
  ⟨some p11, .move, [(.tmp p1)], none⟩,
  ⟨some p12, .move, [(.tmp p0)], none⟩,
  ⟨some p13, .move, [(.tmp p5)], none⟩,
  ⟨some p14, (.idxSlice 6), [(.tmp p12), (.tmp p13)], none⟩,
  ⟨some p15, (.load true 6), [(.tmp p14)], none⟩,
  ⟨some p16, .call, [(.tmp p11), (.tmp p15)], none⟩])
 (.cond (.tmp p16)
 (.seq (.reg [
  ⟨some p17, .move, [(.tmp p5)], none⟩,
  ⟨some p4, .move, [(.tmp p17)], none⟩])
 (.ret [.tmp p4]))
 .skip))))
 (.reg [
  ⟨some p18, (.bin .add), [(.tmp p8), (.const (.int .i64 (.ofNat 1)))], none⟩,
  ⟨some p8, .move, [(.tmp p18)], none⟩])))))))
 (.seq (.reg [
  ⟨some p4, .move, [(.const (.int .i64 (.negSucc 0)))], none⟩])
 (.ret [.tmp p4])))),
 [.tmp p4]⟩
def F106 : IFn := ⟨2,
(.seq (.reg [
  ⟨some p4, .move, [(.const (.int .i64 (.ofNat 0)))], none⟩])
 (.seq (.seq (.reg [
  ⟨some p6, .move, [(.tmp p0)], none⟩,
  ⟨some p7, .lenL, [(.tmp p6)], none⟩,
  ⟨some p8, .move, [(.const (.int .i64 (.ofNat 0)))], none⟩])
 (.block 0 [] (.loop [p0, p1, p7, p8] (.seq (.reg [
  ⟨some p9, (.bin .lss), [(.tmp p8), (.tmp p7)], none⟩])
 (.seq (.cond (.tmp p9)
 .skip
 (.exit 0 []))
 (.seq (.block 1 [p0, p1, p7, p8] (.seq (.reg [
  ⟨some p10, .move, [(.tmp p8)], none⟩,
  ⟨some p5, .move, [(.tmp p10)], none⟩])
 (.seq (.reg [
  ⟨some p11, .move, [(.tmp p1)], none⟩,
  ⟨some p12, .move, [(.tmp p0)], none⟩,
  ⟨some p13, .move, [(.tmp p5)], none⟩,
  ⟨some p14, (.idxSlice 1), [(.tmp p12), (.tmp p13)], none⟩,
  ⟨some p15, (.load false 1), [(.tmp p14)], none⟩,
  ⟨some p16, (.eql (.base .int) false), [(.tmp p11), (.tmp p15)], none⟩])
 (.cond (.tmp p16)
 (.seq (.reg [
  ⟨some p17, .move, [(.tmp p5)], none⟩,
  ⟨some p4, .move, [(.tmp p17)], none⟩])
 (.ret [.tmp p4]))
 .skip))))
 (.reg [
  ⟨some p18, (.bin .add), [(.tmp p8), (.const (.int .i64 (.ofNat 1)))], none⟩,
  ⟨some p8, .move, [(.tmp p18)], none⟩])))))))
 (.seq (.reg [
  ⟨some p4, .move, [(.const (.int .i64 (.negSucc 0)))], none⟩])
 (.ret [.tmp p4])))),
 [.tmp p4]⟩
def F107 : IFn := ⟨1,
(.seq (.reg [
  ⟨some p2, .move, [(.const .inil)], none⟩])
 (.seq (.seq (.reg [
  ⟨some p8, .move, [(.tmp p0)], none⟩,
  ⟨some p9, .lenL, [(.tmp p8)], none⟩,
  ⟨some p10, (.eql (.base .int) false), [(.tmp p9), (.const (.int .i64 (.ofNat 0)))], none⟩,
  ⟨some p11, .move, [(.tmp p10)], none⟩,
  ⟨some p12, .move, [(.tmp p0)], some (p11, false)⟩,
  ⟨some p13, .lenL, [(.tmp p12)], some (p11, false)⟩,
  ⟨some p14, (.bin .gtr), [(.tmp p13), (.const (.int .i64 (.ofNat 64)))], some (p11, false)⟩,
  ⟨some p15, .pick, [(.tmp p11), (.const (.bool true)), (.tmp p14)], none⟩,
  ⟨some p16, .move, [(.tmp p15)], none⟩,
  ⟨some p17, .move, [(.tmp p0)], some (p16, false)⟩,
  ⟨some p18, (.idxSlice 7), [(.tmp p17), (.const (.int .i64 (.ofNat 0)))], some (p16, false)⟩,
  ⟨some p19, (.fieldAddr 4), [(.tmp p18)], some (p16, false)⟩,
  ⟨some p20, (.load false 1), [(.tmp p19)], some (p16, false)⟩,
  ⟨some p21, .call, [(.const (.fn 142 [] [])), (.tmp p20)], some (p16, false)⟩,
  ⟨some p22, .not, [(.tmp p21)], some (p16, false)⟩,
  ⟨some p23, .pick, [(.tmp p16), (.const (.bool true)), (.tmp p22)], none⟩,
  ⟨some p24, .move, [(.tmp p23)], none⟩,
  ⟨some p25, .move, [(.tmp p0)], some (p24, false)⟩,
  ⟨some p26, (.idxSlice 7), [(.tmp p25), (.const (.int .i64 (.ofNat 0)))], some (p24, false)⟩,
  ⟨some p27, (.fieldAddr 5), [(.tmp p26)], some (p24, false)⟩,
  ⟨some p28, (.load false 1), [(.tmp p27)], some (p24, false)⟩,
  ⟨some p29, .call, [(.const (.fn 142 [] [])), (.tmp p28)], some (p24, false)⟩,
  ⟨some p30, .not, [(.tmp p29)], some (p24, false)⟩,
  ⟨some p31, .pick, [(.tmp p24), (.const (.bool true)), (.tmp p30)], none⟩])
 (.cond (.tmp p31)
 (.seq (.reg [
  ⟨some p2, .move, [(.const .inil)], none⟩])
 (.ret [.tmp p2]))
 .skip))
 (.seq (.reg [
  ⟨some p32, .mkMap, [], none⟩,
  ⟨some p3, .move, [(.tmp p32)], none⟩])
 (.seq (.seq (.reg [
  ⟨some p33, .move, [(.tmp p0)], none⟩,
  ⟨some p34, .lenL, [(.tmp p33)], none⟩,
  ⟨some p35, .move, [(.const (.int .i64 (.ofNat 0)))], none⟩])
 (.block 0 [p0, p3] (.loop [p0, p3, p33, p34, p35] (.seq (.reg [
  ⟨some p36, (.bin .lss), [(.tmp p35), (.tmp p34)], none⟩])
 (.seq (.cond (.tmp p36)
 .skip
 (.exit 0 [p0, p3]))
 (.seq (.block 1 [p0, p3, p33, p34, p35] (.seq (.reg [
  ⟨some p37, (.idxSlice 7), [(.tmp p33), (.tmp p35)], none⟩,
  ⟨some p38, (.load true 7), [(.tmp p37)], none⟩,
  ⟨some p5, (.alloc 82 [(.int .i64 (.ofNat 0)), (.int .i64 (.ofNat 0)), (.int .i64 (.ofNat 0)), (.int .i64 (.ofNat 0)), (.int .i64 (.ofNat 0)), (.int .i64 (.ofNat 0)), (.int .i64 (.ofNat 0))]), [], none⟩,
  ⟨none, (.store 7), [(.tmp p5), (.tmp p38)], none⟩])
 (.seq (.seq (.reg [
  ⟨some p39, (.fieldAddr 4), [(.tmp p5)], none⟩,
  ⟨some p40, (.load false 1), [(.tmp p39)], none⟩,
  ⟨some p41, (.bin .lss), [(.tmp p40), (.const (.int .i64 (.ofNat 1)))], none⟩,
  ⟨some p42, .move, [(.tmp p41)], none⟩,
  ⟨some p43, (.fieldAddr 4), [(.tmp p5)], some (p42, false)⟩,
  ⟨some p44, (.load false 1), [(.tmp p43)], some (p42, false)⟩,
  ⟨some p45, (.bin .gtr), [(.tmp p44), (.const (.int .i64 (.ofNat 1000)))], some (p42, false)⟩,
  ⟨some p46, .pick, [(.tmp p42), (.const (.bool true)), (.tmp p45)], none⟩,
  ⟨some p47, .move, [(.tmp p46)], none⟩,
  ⟨some p48, (.fieldAddr 5), [(.tmp p5)], some (p47, false)⟩,
  ⟨some p49, (.load false 1), [(.tmp p48)], some (p47, false)⟩,
  ⟨some p50, (.bin .lss), [(.tmp p49), (.const (.int .i64 (.ofNat 1)))], some (p47, false)⟩,
  ⟨some p51, .pick, [(.tmp p47), (.const (.bool true)), (.tmp p50)], none⟩,
  ⟨some p52, .move, [(.tmp p51)], none⟩,
  ⟨some p53, (.fieldAddr 5), [(.tmp p5)], some (p52, false)⟩,
  ⟨some p54, (.load false 1), [(.tmp p53)], some (p52, false)⟩,
  ⟨some p55, (.bin .gtr), [(.tmp p54), (.const (.int .i64 (.ofNat 1000)))], some (p52, false)⟩,
  ⟨some p56, .pick, [(.tmp p52), (.const (.bool true)), (.tmp p55)], none⟩])
 (.cond (.tmp p56)
 (.seq (.reg [
  ⟨some p2, .move, [(.const .inil)], none⟩])
 (.ret [.tmp p2]))
 .skip))
 (.seq (.reg [
  ⟨some p57, (.fieldAddr 1), [(.tmp p5)], none⟩,
  ⟨some p58, (.load false 1), [(.tmp p57)], none⟩,
  ⟨some p59, (.eql (.base .int) false), [(.tmp p58), (.const (.int .i64 (.ofNat 1)))], none⟩])
 (.cond (.tmp p59)
 (.seq (.seq (.reg [
  ⟨some p60, (.fieldAddr 6), [(.tmp p5)], none⟩,
  ⟨some p61, (.load false 1), [(.tmp p60)], none⟩,
  ⟨some p62, .call, [(.const (.fn 143 [] [])), (.tmp p61)], none⟩,
  ⟨some p63, .not, [(.tmp p62)], none⟩,
  ⟨some p64, .move, [(.tmp p63)], none⟩,
  ⟨some p65, .move, [(.tmp p3)], some (p64, false)⟩,
  ⟨some p66, (.fieldAddr 6), [(.tmp p5)], some (p64, false)⟩,
  ⟨some p67, (.load false 1), [(.tmp p66)], some (p64, false)⟩,
  ⟨some p68, (.lookup false (.int .i64 (.ofNat 0)) false), [(.tmp p65), (.tmp p67)], some (p64, false)⟩,
  ⟨some p69, (.bin .gtr), [(.tmp p68), (.const (.int .i64 (.ofNat 0)))], some (p64, false)⟩,
  ⟨some p70, .pick, [(.tmp p64), (.const (.bool true)), (.tmp p69)], none⟩])
 (.cond (.tmp p70)
 (.seq (.reg [
  ⟨some p2, .move, [(.const .inil)], none⟩])
 (.ret [.tmp p2]))
 .skip))
 (.reg [
  ⟨some p71, .move, [(.tmp p3)], none⟩,
  ⟨some p72, (.fieldAddr 6), [(.tmp p5)], none⟩,
  ⟨some p73, (.load false 1), [(.tmp p72)], none⟩,
  ⟨some p74, (.lookup false (.int .i64 (.ofNat 0)) false), [(.tmp p71), (.tmp p73)], none⟩,
  ⟨some p75, (.bin .add), [(.tmp p74), (.const (.int .i64 (.ofNat 1)))], none⟩,
  ⟨none, (.mapUpdate false), [(.tmp p71), (.tmp p73), (.tmp p75)], none⟩]))
 (.seq (.reg [
  ⟨some p76, (.fieldAddr 6), [(.tmp p5)], none⟩,
  ⟨some p77, (.load false 1), [(.tmp p76)], none⟩,
  ⟨some p78, (.eql (.base .int) true), [(.tmp p77), (.const (.int .i64 (.ofNat 0)))], none⟩,
  ⟨some p79, .move, [(.tmp p78)], none⟩,
  ⟨some p80, (.fieldAddr 1), [(.tmp p5)], some (p79, false)⟩,
  ⟨some p81, (.load false 1), [(.tmp p80)], some (p79, false)⟩,
  ⟨some p82, .call, [(.const (.fn 146 [] [])), (.tmp p81)], some (p79, false)⟩,
  ⟨some p83, .not, [(.tmp p82)], some (p79, false)⟩,
  ⟨some p84, .pick, [(.tmp p79), (.const (.bool true)), (.tmp p83)], none⟩])
 (.cond (.tmp p84)
 (.seq (.reg [
  ⟨some p2, .move, [(.const .inil)], none⟩])
 (.ret [.tmp p2]))
 .skip)))))))
 (.reg [
  ⟨some p85, (.bin .add), [(.tmp p35), (.const (.int .i64 (.ofNat 1)))], none⟩,
  ⟨some p35, .move, [(.tmp p85)], none⟩])))))))
 (.seq (.seq (.reg [
  ⟨some p86, .move, [(.tmp p3)], none⟩,
  ⟨some p87, .lenM, [(.tmp p86)], none⟩,
  ⟨some p88, (.bin .gtr), [(.tmp p87), (.const (.int .i64 (.ofNat 32)))], none⟩])
 (.cond (.tmp p88)
 (.seq (.reg [
  ⟨some p2, .move, [(.const .inil)], none⟩])
 (.ret [.tmp p2]))
 .skip))
 (.seq (.reg [
  ⟨some p90, .move, [(.tmp p0)], none⟩,
  ⟨some p91, .call, [(.const (.fn 147 [] [])), (.tmp p90), (.const (.int .i64 (.ofNat 0)))], none⟩,
  ⟨some p89, .move, [(.tmp p91)], none⟩,
  ⟨some p92, (.extract 0), [(.tmp p89)], none⟩,
  ⟨some p93, (.extract 1), [(.tmp p89)], none⟩,
  ⟨some p6, .move, [(.tmp p92)], none⟩,
  ⟨some p7, .move, [(.tmp p93)], none⟩])
 (.seq (.seq (.reg [
  ⟨some p94, .move, [(.tmp p6)], none⟩,
  ⟨some p95, (.eql (.iface true) false), [(.tmp p94), (.const .inil)], none⟩,
  ⟨some p96, .move, [(.tmp p95)], none⟩,
  ⟨some p97, .move, [(.tmp p7)], some (p96, false)⟩,
  ⟨some p98, .lenL, [(.tmp p97)], some (p96, false)⟩,
  ⟨some p99, (.bin .gtr), [(.tmp p98), (.const (.int .i64 (.ofNat 0)))], some (p96, false)⟩,
  ⟨some p100, .pick, [(.tmp p96), (.const (.bool true)), (.tmp p99)], none⟩,
  ⟨some p101, .move, [(.tmp p100)], none⟩,
  ⟨some p102, .move, [(.tmp p6)], some (p101, false)⟩,
  ⟨some p103, .call, [(.const (.fn 149 [] [])), (.tmp p102)], some (p101, false)⟩,
  ⟨some p104, .move, [(.tmp p0)], some (p101, false)⟩,
  ⟨some p105, .call, [(.const (.fn 148 [] [])), (.tmp p103), (.tmp p104)], some (p101, false)⟩,
  ⟨some p106, .not, [(.tmp p105)], some (p101, false)⟩,
  ⟨some p107, .pick, [(.tmp p101), (.const (.bool true)), (.tmp p106)], none⟩])
 (.cond (.tmp p107)
 (.seq (.reg [
  ⟨some p2, .move, [(.const .inil)], none⟩])
 (.ret [.tmp p2]))
 .skip))
 (.seq (.reg [
  ⟨some p108, .move, [(.tmp p6)], none⟩,
  ⟨some p2, .move, [(.tmp p108)], none⟩])
 (.ret [.tmp p2]))))))))),
 [.tmp p2]⟩
def F108 : IFn := ⟨1,
(.seq (.reg [
  ⟨some p2, .move, [(.const .snil)], none⟩])
 (.seq (.reg [
  ⟨some p3, .move, [(.const .snil)], none⟩])
 (.seq (.seq (.reg [
  ⟨some p6, .move, [(.tmp p0)], none⟩,
  ⟨some p7, .call, [(.const (.fn 150 [] [])), (.tmp p6)], none⟩,
  ⟨some p8, .lenL, [(.tmp p7)], none⟩,
  ⟨some p9, .move, [(.const (.int .i64 (.ofNat 0)))], none⟩])
 (.block 0 [p3] (.loop [p3, p7, p8, p9] (.seq (.reg [
  ⟨some p10, (.bin .lss), [(.tmp p9), (.tmp p8)], none⟩])
 (.seq (.cond (.tmp p10)
 .skip
 (.exit 0 [p3]))
 (.seq (.block 1 [p3, p7, p8, p9] (.seq (.reg [
  ⟨some p11, (.idxSlice 1), [(.tmp p7), (.tmp p9)], none⟩,
  ⟨some p12, (.load false 1), [(.tmp p11)], none⟩,
  ⟨some p5, .move, [(.tmp p12)], none⟩])
 (.reg [
  ⟨some p13, .move, [(.tmp p3)], none⟩,
  ⟨some p14, .move, [(.tmp p5)], none⟩,
  ⟨some p15, .nilCheck, [(.tmp p14)], none⟩,
  ⟨some p16, (.fieldAddr 4), [(.tmp p15)], none⟩,
  ⟨some p17, (.load false 1), [(.tmp p16)], none⟩,
  ⟨some p18, (.buildSlice 3 1 [(.int .i64 (.ofNat 0))] 1 [(0, 1)]), [(.tmp p17)], none⟩,
  ⟨some p19, (.append 3 1 8), [(.tmp p13), (.tmp p18)], none⟩,
  ⟨some p3, .move, [(.tmp p19)], none⟩])))
 (.reg [
  ⟨some p20, (.bin .add), [(.tmp p9), (.const (.int .i64 (.ofNat 1)))], none⟩,
  ⟨some p9, .move, [(.tmp p20)], none⟩])))))))
 (.seq (.reg [
  ⟨some p21, .move, [(.tmp p3)], none⟩,
  ⟨some p2, .move, [(.tmp p21)], none⟩])
 (.ret [.tmp p2]))))),
 [.tmp p2]⟩
def F109 : IFn := ⟨3,
(.seq (.reg [
  ⟨some p3, (.box 66 6), [(.tmp p0)], none⟩,
  ⟨some p4, .move, [(.const (.bool false))], none⟩])
 (.seq (.drawn [
  ⟨0, ⟨some p5, (.load false 1), [(.tmp p1)], none⟩, (.read 0 0), []⟩,
  ⟨1, ⟨some p6, (.load true 6), [(.tmp p3)], none⟩, (.read 0 0), []⟩,
  ⟨2, ⟨some p7, .call, [(.tmp p5), (.tmp p6)], none⟩, .eff, [0, 1]⟩,
  ⟨3, ⟨some p8, (.load false 1), [(.tmp p2)], none⟩, (.read 0 1), []⟩,
  ⟨4, ⟨some p9, (.eql (.base .int) false), [(.tmp p7), (.tmp p8)], none⟩, (.read 1 1), [2, 3]⟩,
  ⟨5, ⟨some p4, .move, [(.tmp p9)], none⟩, .pure, [4, 2, 0, 1, 2, 3, 4]⟩])
 (.ret [.tmp p4]))),
 [.tmp p4]⟩
def F110 : IFn := ⟨3,
(.seq (.reg [
  ⟨some p3, (.box 66 6), [(.tmp p0)], none⟩,
  ⟨some p4, .move, [(.const (.bool false))], none⟩])
 (.seq (.drawn [
  ⟨0, ⟨some p5, (.load false 1), [(.tmp p1)], none⟩, (.read 0 0), []⟩,
  ⟨1, ⟨some p6, (.load true 6), [(.tmp p3)], none⟩, (.read 0 0), []⟩,
  ⟨2, ⟨some p7, .call, [(.tmp p5), (.tmp p6)], none⟩, .eff, [0, 1]⟩,
  ⟨3, ⟨some p8, (.load false 1), [(.tmp p1)], none⟩, (.read 0 1), []⟩,
  ⟨4, ⟨some p9, (.load true 6), [(.tmp p2)], none⟩, (.read 0 1), []⟩,
  ⟨5, ⟨some p10, .call, [(.tmp p8), (.tmp p9)], none⟩, .eff, [3, 4, 2]⟩,
  ⟨6, ⟨some p11, (.bin .gtr), [(.tmp p7), (.tmp p10)], none⟩, .pure, [2, 5]⟩,
  ⟨7, ⟨some p4, .move, [(.tmp p11)], none⟩, .pure, [6, 5, 0, 1, 2, 3, 4, 5, 6]⟩])
 (.ret [.tmp p4]))),
 [.tmp p4]⟩
def F111 : IFn := ⟨3,
(.seq (.reg [
  ⟨some p6, .move, [(.const .snil)], none⟩])
 (.seq (.reg [
  ⟨some p10, .move, [(.tmp p0)], none⟩,
  ⟨some p11, .move, [(.tmp p1)], none⟩,
  ⟨some p12, (.slSlice 6 true false false), [(.tmp p10), (.tmp p11)], none⟩])
 (.seq (.reg [
  ⟨some p13, .move, [(.tmp p2)], none⟩,
  ⟨some p14, .lenL, [(.tmp p13)], none⟩,
  ⟨some p7, .move, [(.tmp p14)], none⟩])
 (.seq (.seq (.reg [
  ⟨some p15, .move, [(.tmp p7)], none⟩,
  ⟨some p16, (.eql (.base .int) false), [(.tmp p15), (.const (.int .i64 (.ofNat 0)))], none⟩])
 (.cond (.tmp p16)
 (.seq (.reg [
  ⟨some p17, .move, [(.tmp p0)], none⟩,
  ⟨some p6, .move, [(.tmp p17)], none⟩])
 (.ret [.tmp p6]))
 .skip))
 (.seq (.reg [
  ⟨some p18, .move, [(.tmp p0)], none⟩,
  ⟨some p19, .lenL, [(.tmp p18)], none⟩,
  ⟨some p8, .move, [(.tmp p19)], none⟩])
 (.seq (.seq (.reg [
  ⟨some p20, .move, [(.tmp p1)], none⟩,
  ⟨some p21, .move, [(.tmp p8)], none⟩,
  ⟨some p22, (.eql (.base .int) false), [(.tmp p20), (.tmp p21)], none⟩])
 (.cond (.tmp p22)
 (.seq (.reg [
  ⟨some p23, .move, [(.tmp p0)], none⟩,
  ⟨some p24, .move, [(.tmp p2)], none⟩,
  ⟨some p25, (.append 66 6 72), [(.tmp p23), (.tmp p24)], none⟩,
  ⟨some p6, .move, [(.tmp p25)], none⟩])
 (.ret [.tmp p6]))
 .skip))
 (.seq (.seq (.reg [
  ⟨some p26, .move, [(.tmp p8)], none⟩,
  ⟨some p27, .move, [(.tmp p7)], none⟩,
  ⟨some p28, (.bin .add), [(.tmp p26), (.tmp p27)], none⟩,
  ⟨some p29, .move, [(.tmp p0)], none⟩,
  ⟨some p30, .cap, [(.tmp p29)], none⟩,
  ⟨some p31, (.bin .gtr), [(.tmp p28), (.tmp p30)], none⟩])
 (.cond (.tmp p31)
 (.seq (.reg [
  ⟨some p32, .move, [(.tmp p0)], none⟩,
  ⟨some p33, .move, [(.tmp p1)], none⟩,
  ⟨some p34, (.slSlice 6 false true false), [(.tmp p32), (.tmp p33)], none⟩,
  ⟨some p35, .move, [(.tmp p8)], none⟩,
  ⟨some p36, .move, [(.tmp p7)], none⟩,
  ⟨some p37, (.bin .add), [(.tmp p35), (.tmp p36)], none⟩,
  ⟨some p38, .move, [(.tmp p1)], none⟩,
  ⟨some p39, (.bin .sub), [(.tmp p37), (.tmp p38)], none⟩,
  ⟨some p40, .never, [], none⟩,
  ⟨some p9, .move, [(.tmp p40)], none⟩])
 (.seq (.reg [
  ⟨some p41, .move, [(.tmp p9)], none⟩,
  ⟨some p42, .move, [(.tmp p1)], none⟩,
  ⟨some p43, (.slSlice 6 true false false), [(.tmp p41), (.tmp p42)], none⟩,
  ⟨some p44, .move, [(.tmp p2)], none⟩,
  ⟨some p45, (.copy 6), [(.tmp p43), (.tmp p44)], none⟩])
 (.seq (.drawn [
  ⟨0, ⟨some p46, .move, [(.tmp p9)], none⟩, .pure, []⟩,
  ⟨1, ⟨some p47, .move, [(.tmp p1)], none⟩, .pure, []⟩,
  ⟨2, ⟨some p48, .move, [(.tmp p7)], none⟩, .pure, []⟩,
  ⟨3, ⟨some p49, (.bin .add), [(.tmp p47), (.tmp p48)], none⟩, .pure, [1, 2]⟩,
  ⟨4, ⟨some p50, (.slSlice 6 true false false), [(.tmp p46), (.tmp p49)], none⟩, .pure, [0, 3]⟩,
  ⟨5, ⟨some p51, .move, [(.tmp p0)], none⟩, .pure, []⟩,
  ⟨6, ⟨some p52, .move, [(.tmp p1)], none⟩, .pure, []⟩,
  ⟨7, ⟨some p53, (.slSlice 6 true false false), [(.tmp p51), (.tmp p52)], none⟩, .pure, [5, 6]⟩,
  ⟨8, ⟨some p54, (.copy 6), [(.tmp p50), (.tmp p53)], none⟩, .eff, [4, 7]⟩])
 (.seq (.reg [
  ⟨some p55, .move, [(.tmp p9)], none⟩,
  ⟨some p6, .move, [(.tmp p55)], none⟩])
 (.ret [.tmp p6])))))
 .skip))
 (.seq (.reg [
  ⟨some p56, .move, [(.tmp p0)], none⟩,
  ⟨some p57, .move, [(.tmp p8)], none⟩,
  ⟨some p58, .move, [(.tmp p7)], none⟩,
  ⟨some p59, (.bin .add), [(.tmp p57), (.tmp p58)], none⟩,
  ⟨some p60, (.slSlice 6 false true false), [(.tmp p56), (.tmp p59)], none⟩,
  ⟨some p0, .move, [(.tmp p60)], none⟩])
 (.seq (.seq (.reg [
  ⟨some p61, .move, [(.tmp p2)], none⟩,
  ⟨some p62, .move, [(.tmp p0)], none⟩,
  ⟨some p63, .move, [(.tmp p1)], none⟩,
  ⟨some p64, .move, [(.tmp p7)], none⟩,
  ⟨some p65, (.bin .add), [(.tmp p63), (.tmp p64)], none⟩,
  ⟨some p66, (.slSlice 6 true false false), [(.tmp p62), (.tmp p65)], none⟩,
  ⟨some p67, .call, [(.const (.fn 151 [] [])), (.tmp p61), (.tmp p66)], none⟩,
  ⟨some p68, .not, [(.tmp p67)], none⟩])
 (.cond (.tmp p68)
 (.seq (.drawn [
  ⟨0, ⟨some p69, .move, [(.tmp p0)], none⟩, .pure, []⟩,
  ⟨1, ⟨some p70, .move, [(.tmp p1)], none⟩, .pure, []⟩,
  ⟨2, ⟨some p71, .move, [(.tmp p7)], none⟩, .pure, []⟩,
  ⟨3, ⟨some p72, (.bin .add), [(.tmp p70), (.tmp p71)], none⟩, .pure, [1, 2]⟩,
  ⟨4, ⟨some p73, (.slSlice 6 true false false), [(.tmp p69), (.tmp p72)], none⟩, .pure, [0, 3]⟩,
  ⟨5, ⟨some p74, .move, [(.tmp p0)], none⟩, .pure, []⟩,
  ⟨6, ⟨some p75, .move, [(.tmp p1)], none⟩, .pure, []⟩,
  ⟨7, ⟨some p76, (.slSlice 6 true false false), [(.tmp p74), (.tmp p75)], none⟩, .pure, [5, 6]⟩,
  ⟨8, ⟨some p77, (.copy 6), [(.tmp p73), (.tmp p76)], none⟩, .eff, [4, 7]⟩])
 (.seq (.reg [
  ⟨some p78, .move, [(.tmp p0)], none⟩,
  ⟨some p79, .move, [(.tmp p1)], none⟩,
  ⟨some p80, (.slSlice 6 true false false), [(.tmp p78), (.tmp p79)], none⟩,
  ⟨some p81, .move, [(.tmp p2)], none⟩,
  ⟨some p82, (.copy 6), [(.tmp p80), (.tmp p81)], none⟩])
 (.seq (.reg [
  ⟨some p83, .move, [(.tmp p0)], none⟩,
  ⟨some p6, .move, [(.tmp p83)], none⟩])
 (.ret [.tmp p6]))))
 .skip))
 (.seq (.reg [
  ⟨some p84, .move, [(.tmp p0)], none⟩,
  ⟨some p85, .move, [(.tmp p8)], none⟩,
  ⟨some p86, (.slSlice 6 true false false), [(.tmp p84), (.tmp p85)], none⟩,
  ⟨some p87, .move, [(.tmp p2)], none⟩,
  ⟨some p88, (.copy 6), [(.tmp p86), (.tmp p87)], none⟩])
 (.seq (.reg [
  ⟨some p89, .move, [(.tmp p0)], none⟩,
  ⟨some p90, .move, [(.tmp p1)], none⟩,
  ⟨some p91, (.slSlice 6 true false false), [(.tmp p89), (.tmp p90)], none⟩,
  ⟨some p92, .move, [(.tmp p7)], none⟩,
  ⟨some p93, .call, [(.const (.fn 152 [] [])), (.tmp p91), (.tmp p92)], none⟩])
 (.seq (.reg [
  ⟨some p94, .move, [(.tmp p0)], none⟩,
  ⟨some p6, .move, [(.tmp p94)], none⟩])
 (.ret [.tmp p6]))))))))))))),
 [.tmp p6]⟩
def F112 : IFn := ⟨2,
(.seq (.reg [
  ⟨some p4, .move, [(.const (.int .i64 (.ofNat 0)))], none⟩])
 (.seq (.seq (.reg [
  ⟨some p6, .move, [(.tmp p0)], none⟩,
  ⟨some p7, .lenL, [(.tmp p6)], none⟩,
  ⟨some p8, .move, [(.const (.int .i64 (.ofNat 0)))], none⟩])
 (.block 0 [] (.loop [p0, p1, p7, p8] (.seq (.reg [
  ⟨some p9, (.bin .lss), [(.tmp p8), (.tmp p7)], none⟩])
 (.seq (.cond (.tmp p9)
 .skip
 (.exit 0 []))
 (.seq (.block 1 [p0, p1, p7, p8] (.seq (.reg [
  ⟨some p10, .move, [(.tmp p8)], none⟩,
  ⟨some p5, .move, [(.tmp p10)], none⟩])
 (.seq (.reg [
  ⟨some p11, .move, [(.tmp p1)], none⟩,
  ⟨some p12, .move, [(.tmp p0)], none⟩,
  ⟨some p13, .move, [(.tmp p5)], none⟩,
  ⟨some p14, (.idxSlice 5), [(.tmp p12), (.tmp p13)], none⟩,
  ⟨some p15, (.load true 5), [(.tmp p14)], none⟩,
  ⟨some p16, .call, [(.tmp p11), (.tmp p15)], none⟩])
 (.cond (.tmp p16)
 (.seq (.reg [
  ⟨some p17, .move, [(.tmp p5)], none⟩,
  ⟨some p4, .move, [(.tmp p17)], none⟩])
 (.ret [.tmp p4]))
 .skip))))
 (.reg [
  ⟨some p18, (.bin .add), [(.tmp p8), (.const (.int .i64 (.ofNat 1)))], none⟩,
  ⟨some p8, .move, [(.tmp p18)], none⟩])))))))
 (.seq (.reg [
  ⟨some p4, .move, [(.const (.int .i64 (.negSucc 0)))], none⟩])
 (.ret [.tmp p4])))),
 [.tmp p4]⟩
def F113 : IFn := ⟨3,
(.seq (.reg [
  ⟨some p3, (.box 60 5), [(.tmp p0)], none⟩,
  ⟨some p4, .move, [(.const (.bool false))], none⟩])
 (.seq (.drawn [
  ⟨0, ⟨some p5, (.load false 1), [(.tmp p1)], none⟩, (.read 0 0), []⟩,
  ⟨1, ⟨some p6, (.load true 5), [(.tmp p3)], none⟩, (.read 0 0), []⟩,
  ⟨2, ⟨some p7, .call, [(.tmp p5), (.tmp p6)], none⟩, .eff, [0, 1]⟩,
  ⟨3, ⟨some p8, (.load false 1), [(.tmp p2)], none⟩, (.read 0 1), []⟩,
  ⟨4, ⟨some p9, (.eql (.base .int) false), [(.tmp p7), (.tmp p8)], none⟩, (.read 1 1), [2, 3]⟩,
  ⟨5, ⟨some p4, .move, [(.tmp p9)], none⟩, .pure, [4, 2, 0, 1, 2, 3, 4]⟩])
 (.ret [.tmp p4]))),
 [.tmp p4]⟩
def F114 : IFn := ⟨3,
(.seq (.reg [
  ⟨some p3, (.box 60 5), [(.tmp p0)], none⟩,
  ⟨some p4, .move, [(.const (.bool false))], none⟩])
 (.seq (.drawn [
  ⟨0, ⟨some p5, (.load false 1), [(.tmp p1)], none⟩, (.read 0 0), []⟩,
  ⟨1, ⟨some p6, (.load true 5), [(.tmp p3)], none⟩, (.read 0 0), []⟩,
  ⟨2, ⟨some p7, .call, [(.tmp p5), (.tmp p6)], none⟩, .eff, [0, 1]⟩,
  ⟨3, ⟨some p8, (.load false 1), [(.tmp p1)], none⟩, (.read 0 1), []⟩,
  ⟨4, ⟨some p9, (.load true 5), [(.tmp p2)], none⟩, (.read 0 1), []⟩,
  ⟨5, ⟨some p10, .call, [(.tmp p8), (.tmp p9)], none⟩, .eff, [3, 4, 2]⟩,
  ⟨6, ⟨some p11, (.bin .gtr), [(.tmp p7), (.tmp p10)], none⟩, .pure, [2, 5]⟩,
  ⟨7, ⟨some p4, .move, [(.tmp p11)], none⟩, .pure, [6, 5, 0, 1, 2, 3, 4, 5, 6]⟩])
 (.ret [.tmp p4]))),
 [.tmp p4]⟩
def F115 : IFn := ⟨3,
(.seq (.reg [
  ⟨some p6, .move, [(.const .snil)], none⟩])
 (.seq (.reg [
  ⟨some p10, .move, [(.tmp p0)], none⟩,
  ⟨some p11, .move, [(.tmp p1)], none⟩,
  ⟨some p12, (.slSlice 5 true false false), [(.tmp p10), (.tmp p11)], none⟩])
 (.seq (.reg [
  ⟨some p13, .move, [(.tmp p2)], none⟩,
  ⟨some p14, .lenL, [(.tmp p13)], none⟩,
  ⟨some p7, .move, [(.tmp p14)], none⟩])
 (.seq (.seq (.reg [
  ⟨some p15, .move, [(.tmp p7)], none⟩,
  ⟨some p16, (.eql (.base .int) false), [(.tmp p15), (.const (.int .i64 (.ofNat 0)))], none⟩])
 (.cond (.tmp p16)
 (.seq (.reg [
  ⟨some p17, .move, [(.tmp p0)], none⟩,
  ⟨some p6, .move, [(.tmp p17)], none⟩])
 (.ret [.tmp p6]))
 .skip))
 (.seq (.reg [
  ⟨some p18, .move, [(.tmp p0)], none⟩,
  ⟨some p19, .lenL, [(.tmp p18)], none⟩,
  ⟨some p8, .move, [(.tmp p19)], none⟩])
 (.seq (.seq (.reg [
  ⟨some p20, .move, [(.tmp p1)], none⟩,
  ⟨some p21, .move, [(.tmp p8)], none⟩,
  ⟨some p22, (.eql (.base .int) false), [(.tmp p20), (.tmp p21)], none⟩])
 (.cond (.tmp p22)
 (.seq (.reg [
  ⟨some p23, .move, [(.tmp p0)], none⟩,
  ⟨some p24, .move, [(.tmp p2)], none⟩,
  ⟨some p25, (.append 60 5 64), [(.tmp p23), (.tmp p24)], none⟩,
  ⟨some p6, .move, [(.tmp p25)], none⟩])
 (.ret [.tmp p6]))
 .skip))
 (.seq (.seq (.reg [
  ⟨some p26, .move, [(.tmp p8)], none⟩,
  ⟨some p27, .move, [(.tmp p7)], none⟩,
  ⟨some p28, (.bin .add), [(.tmp p26), (.tmp p27)], none⟩,
  ⟨some p29, .move, [(.tmp p0)], none⟩,
  ⟨some p30, .cap, [(.tmp p29)], none⟩,
  ⟨some p31, (.bin .gtr), [(.tmp p28), (.tmp p30)], none⟩])
 (.cond (.tmp p31)
 (.seq (.reg [
  ⟨some p32, .move, [(.tmp p0)], none⟩,
  ⟨some p33, .move, [(.tmp p1)], none⟩,
  ⟨some p34, (.slSlice 5 false true false), [(.tmp p32), (.tmp p33)], none⟩,
  ⟨some p35, .move, [(.tmp p8)], none⟩,
  ⟨some p36, .move, [(.tmp p7)], none⟩,
  ⟨some p37, (.bin .add), [(.tmp p35), (.tmp p36)], none⟩,
  ⟨some p38, .move, [(.tmp p1)], none⟩,
  ⟨some p39, (.bin .sub), [(.tmp p37), (.tmp p38)], none⟩,
  ⟨some p40, .never, [], none⟩,
  ⟨some p9, .move, [(.tmp p40)], none⟩])
 (.seq (.reg [
  ⟨some p41, .move, [(.tmp p9)], none⟩,
  ⟨some p42, .move, [(.tmp p1)], none⟩,
  ⟨some p43, (.slSlice 5 true false false), [(.tmp p41), (.tmp p42)], none⟩,
  ⟨some p44, .move, [(.tmp p2)], none⟩,
  ⟨some p45, (.copy 5), [(.tmp p43), (.tmp p44)], none⟩])
 (.seq (.drawn [
  ⟨0, ⟨some p46, .move, [(.tmp p9)], none⟩, .pure, []⟩,
  ⟨1, ⟨some p47, .move, [(.tmp p1)], none⟩, .pure, []⟩,
  ⟨2, ⟨some p48, .move, [(.tmp p7)], none⟩, .pure, []⟩,
  ⟨3, ⟨some p49, (.bin .add), [(.tmp p47), (.tmp p48)], none⟩, .pure, [1, 2]⟩,
  ⟨4, ⟨some p50, (.slSlice 5 true false false), [(.tmp p46), (.tmp p49)], none⟩, .pure, [0, 3]⟩,
  ⟨5, ⟨some p51, .move, [(.tmp p0)], none⟩, .pure, []⟩,
  ⟨6, ⟨some p52, .move, [(.tmp p1)], none⟩, .pure, []⟩,
  ⟨7, ⟨some p53, (.slSlice 5 true false false), [(.tmp p51), (.tmp p52)], none⟩, .pure, [5, 6]⟩,
  ⟨8, ⟨some p54, (.copy 5), [(.tmp p50), (.tmp p53)], none⟩, .eff, [4, 7]⟩])
 (.seq (.reg [
  ⟨some p55, .move, [(.tmp p9)], none⟩,
  ⟨some p6, .move, [(.tmp p55)], none⟩])
 (.ret [.tmp p6])))))
 .skip))
 (.seq (.reg [
  ⟨some p56, .move, [(.tmp p0)], none⟩,
  ⟨some p57, .move, [(.tmp p8)], none⟩,
  ⟨some p58, .move, [(.tmp p7)], none⟩,
  ⟨some p59, (.bin .add), [(.tmp p57), (.tmp p58)], none⟩,
  ⟨some p60, (.slSlice 5 false true false), [(.tmp p56), (.tmp p59)], none⟩,
  ⟨some p0, .move, [(.tmp p60)], none⟩])
 (.seq (.seq (.reg [
  ⟨some p61, .move, [(.tmp p2)], none⟩,
  ⟨some p62, .move, [(.tmp p0)], none⟩,
  ⟨some p63, .move, [(.tmp p1)], none⟩,
  ⟨some p64, .move, [(.tmp p7)], none⟩,
  ⟨some p65, (.bin .add), [(.tmp p63), (.tmp p64)], none⟩,
  ⟨some p66, (.slSlice 5 true false false), [(.tmp p62), (.tmp p65)], none⟩,
  ⟨some p67, .call, [(.const (.fn 153 [] [])), (.tmp p61), (.tmp p66)], none⟩,
  ⟨some p68, .not, [(.tmp p67)], none⟩])
 (.cond (.tmp p68)
 (.seq (.drawn [
  ⟨0, ⟨some p69, .move, [(.tmp p0)], none⟩, .pure, []⟩,
  ⟨1, ⟨some p70, .move, [(.tmp p1)], none⟩, .pure, []⟩,
  ⟨2, ⟨some p71, .move, [(.tmp p7)], none⟩, .pure, []⟩,
  ⟨3, ⟨some p72, (.bin .add), [(.tmp p70), (.tmp p71)], none⟩, .pure, [1, 2]⟩,
  ⟨4, ⟨some p73, (.slSlice 5 true false false), [(.tmp p69), (.tmp p72)], none⟩, .pure, [0, 3]⟩,
  ⟨5, ⟨some p74, .move, [(.tmp p0)], none⟩, .pure, []⟩,
  ⟨6, ⟨some p75, .move, [(.tmp p1)], none⟩, .pure, []⟩,
  ⟨7, ⟨some p76, (.slSlice 5 true false false), [(.tmp p74), (.tmp p75)], none⟩, .pure, [5, 6]⟩,
  ⟨8, ⟨some p77, (.copy 5), [(.tmp p73), (.tmp p76)], none⟩, .eff, [4, 7]⟩])
 (.seq (.reg [
  ⟨some p78, .move, [(.tmp p0)], none⟩,
  ⟨some p79, .move, [(.tmp p1)], none⟩,
  ⟨some p80, (.slSlice 5 true false false), [(.tmp p78), (.tmp p79)], none⟩,
  ⟨some p81, .move, [(.tmp p2)], none⟩,
  ⟨some p82, (.copy 5), [(.tmp p80), (.tmp p81)], none⟩])
 (.seq (.reg [
  ⟨some p83, .move, [(.tmp p0)], none⟩,
  ⟨some p6, .move, [(.tmp p83)], none⟩])
 (.ret [.tmp p6]))))
 .skip))
 (.seq (.reg [
  ⟨some p84, .move, [(.tmp p0)], none⟩,
  ⟨some p85, .move, [(.tmp p8)], none⟩,
  ⟨some p86, (.slSlice 5 true false false), [(.tmp p84), (.tmp p85)], none⟩,
  ⟨some p87, .move, [(.tmp p2)], none⟩,
  ⟨some p88, (.copy 5), [(.tmp p86), (.tmp p87)], none⟩])
 (.seq (.reg [
  ⟨some p89, .move, [(.tmp p0)], none⟩,
  ⟨some p90, .move, [(.tmp p1)], none⟩,
  ⟨some p91, (.slSlice 5 true false false), [(.tmp p89), (.tmp p90)], none⟩,
  ⟨some p92, .move, [(.tmp p7)], none⟩,
  ⟨some p93, .call, [(.const (.fn 154 [] [])), (.tmp p91), (.tmp p92)], none⟩])
 (.seq (.reg [
  ⟨some p94, .move, [(.tmp p0)], none⟩,
  ⟨some p6, .move, [(.tmp p94)], none⟩])
 (.ret [.tmp p6]))))))))))))),
 [.tmp p6]⟩
def F116 : IFn := ⟨2,
(.seq (.reg [
  ⟨some p4, .move, [(.const (.bool false))], none⟩])
 (.seq (.reg [
  ⟨some p5, .move, [(.tmp p0)], none⟩,
  ⟨some p6, .move, [(.tmp p1)], none⟩,
  ⟨some p7, .call, [(.const (.fn 155 [] [])), (.tmp p5), (.tmp p6)], none⟩,
  ⟨some p8, (.bin .geq), [(.tmp p7), (.const (.int .i64 (.ofNat 0)))], none⟩,
  ⟨some p4, .move, [(.tmp p8)], none⟩])
 (.ret [.tmp p4]))),
 [.tmp p4]⟩
def F117 : IFn := ⟨2,
(.seq (.reg [
  ⟨some p2, (.box 73 2), [(.tmp p0)], none⟩,
  ⟨some p3, .move, [(.const (.bool false))], none⟩])
 (.seq (.reg [
  ⟨some p4, (.fieldAddr 1), [(.tmp p2)], none⟩,
  ⟨some p5, (.load false 1), [(.tmp p4)], none⟩,
  ⟨some p6, (.fieldAddr 2), [(.tmp p1)], none⟩,
  ⟨some p7, (.load false 1), [(.tmp p6)], none⟩,
  ⟨some p8, (.eql (.base .int) false), [(.tmp p5), (.tmp p7)], none⟩,
  ⟨some p3, .move, [(.tmp p8)], none⟩])
 (.ret [.tmp p3]))),
 [.tmp p3]⟩
def F118 : IFn := ⟨3,
(.seq (.reg [
  ⟨some p6, .move, [(.const .snil)], none⟩])
 (.seq (.reg [
  ⟨some p8, .move, [(.tmp p0)], none⟩,
  ⟨some p9, .move, [(.tmp p1)], none⟩,
  ⟨some p10, .move, [(.tmp p2)], none⟩,
  ⟨some p11, .move, [(.tmp p0)], none⟩,
  ⟨some p12, .lenL, [(.tmp p11)], none⟩,
  ⟨some p13, (.slSlice 6 true true true), [(.tmp p8), (.tmp p9), (.tmp p10), (.tmp p12)], none⟩])
 (.seq (.seq (.reg [
  ⟨some p14, .move, [(.tmp p1)], none⟩,
  ⟨some p15, .move, [(.tmp p2)], none⟩,
  ⟨some p16, (.eql (.base .int) false), [(.tmp p14), (.tmp p15)], none⟩])
 (.cond (.tmp p16)
 (.seq (.reg [
  ⟨some p17, .move, [(.tmp p0)], none⟩,
  ⟨some p6, .move, [(.tmp p17)], none⟩])
 (.ret [.tmp p6]))
 .skip))
 (.seq (.reg [
  ⟨some p18, .move, [(.tmp p0)], none⟩,
  ⟨some p19, .lenL, [(.tmp p18)], none⟩,
  ⟨some p7, .move, [(.tmp p19)], none⟩])
 (.seq (.drawn [
  ⟨0, ⟨some p20, .move, [(.tmp p0)], none⟩, .pure, []⟩,
  ⟨1, ⟨some p21, .move, [(.tmp p1)], none⟩, .pure, []⟩,
  ⟨2, ⟨some p22, (.slSlice 6 false true false), [(.tmp p20), (.tmp p21)], none⟩, .pure, [0, 1]⟩,
  ⟨3, ⟨some p23, .move, [(.tmp p0)], none⟩, .pure, []⟩,
  ⟨4, ⟨some p24, .move, [(.tmp p2)], none⟩, .pure, []⟩,
  ⟨5, ⟨some p25, (.slSlice 6 true false false), [(.tmp p23), (.tmp p24)], none⟩, .pure, [3, 4]⟩,
  ⟨6, ⟨some p26, (.append 66 6 72), [(.tmp p22), (.tmp p25)], none⟩, .eff, [2, 5]⟩,
  ⟨7, ⟨some p0, .move, [(.tmp p26)], none⟩, .pure, [6, 6, 0, 1, 2, 3, 4, 5, 6]⟩])
 (.seq (.reg [
  ⟨some p27, .move, [(.tmp p0)], none⟩,
  ⟨some p28, .move, [(.tmp p0)], none⟩,
  ⟨some p29, .lenL, [(.tmp p28)], none⟩,
  ⟨some p30, .move, [(.tmp p7)], none⟩,
  ⟨some p31, (.slSlice 6 true true false), [(.tmp p27), (.tmp p29), (.tmp p30)], none⟩,
  ⟨none, (.clear 6 [(.int .i64 (.ofNat 0)), (.str []), .snil, (.int .i64 (.ofNat 0)), (.int .i64 (.ofNat 0)), (.bool false)]), [(.tmp p31)], none⟩])
 (.seq (.reg [
  ⟨some p32, .move, [(.tmp p0)], none⟩,
  ⟨some p6, .move, [(.tmp p32)], none⟩])
 (.ret [.tmp p6])))))))),
 [.tmp p6]⟩
def F119 : IFn := ⟨1,
(.seq (.reg [
  ⟨some p2, .move, [(.const .snil)], none⟩,
  ⟨some p3, .move, [(.const (.int .i64 (.ofNat 0)))], none⟩])
 (.seq (.seq (.reg [
  ⟨some p8, .move, [(.tmp p0)], none⟩,
  ⟨some p9, .lenS, [(.tmp p8)], none⟩,
  ⟨some p10, (.bin .gtr), [(.tmp p9), (.const (.int .i64 (.ofNat 2048)))], none⟩])
 (.cond (.tmp p10)
 (.seq (.reg [
  ⟨some p2, .move, [(.const .snil)], none⟩,
  ⟨some p3, .move, [(.const (.int .i64 (.ofNat 2)))], none⟩])
 (.ret [.tmp p2, .tmp p3]))
 .skip))
 (.seq (.seq (.reg [
  ⟨some p11, .move, [(.tmp p0)], none⟩,
  ⟨some p12, .lenS, [(.tmp p11)], none⟩,
  ⟨some p13, (.bin .lss), [(.tmp p12), (.const (.int .i64 (.ofNat 5)))], none⟩,
  ⟨some p14, .move, [(.tmp p13)], none⟩,
  ⟨some p15, .move, [(.tmp p0)], some (p14, false)⟩,
  ⟨some p16, .idxStr, [(.tmp p15), (.const (.int .i64 (.ofNat 4)))], some (p14, false)⟩,
  ⟨some p17, (.eql (.base .int) true), [(.tmp p16), (.const (.int .u8 (.ofNat 44)))], some (p14, false)⟩,
  ⟨some p18, .pick, [(.tmp p14), (.const (.bool true)), (.tmp p17)], none⟩])
 (.cond (.tmp p18)
 (.seq (.reg [
  ⟨some p2, .move, [(.const .snil)], none⟩,
  ⟨some p3, .move, [(.const (.int .i64 (.ofNat 50)))], none⟩])
 (.ret [.tmp p2, .tmp p3]))
 .skip))
 (.seq (.seq (.reg [
  ⟨some p4, .move, [(.const (.int .i64 (.ofNat 0)))], none⟩])
 (.block 0 [p0] (.loop [p0, p4] (.seq (.seq (.reg [
  ⟨some p19, .move, [(.tmp p4)], none⟩,
  ⟨some p20, (.bin .lss), [(.tmp p19), (.const (.int .i64 (.ofNat 4)))], none⟩])
 (.cond (.tmp p20)
 .skip
 (.exit 0 [p0])))
 (.seq (.block 1 [p0, p4] (.seq (.reg [
  ⟨some p23, .move, [(.tmp p0)], none⟩,
  ⟨some p24, .move, [(.tmp p4)], none⟩,
  ⟨some p25, .idxStr, [(.tmp p23), (.tmp p24)], none⟩,
  ⟨some p26, .call, [(.const (.fn 88 [] [])), (.const (.str [48, 49, 50, 51, 52, 53, 54, 55, 56, 57, 97, 98, 99, 100, 101, 102])), (.tmp p25)], none⟩,
  ⟨some p27, (.bin .lss), [(.tmp p26), (.const (.int .i64 (.ofNat 0)))], none⟩])
 (.cond (.tmp p27)
 (.seq (.reg [
  ⟨some p2, .move, [(.const .snil)], none⟩,
  ⟨some p3, .move, [(.const (.int .i64 (.ofNat 50)))], none⟩])
 (.ret [.tmp p2, .tmp p3]))
 .skip)))
 (.reg [
  ⟨some p21, .move, [(.tmp p4)], none⟩,
  ⟨some p22, (.bin .add), [(.tmp p21), (.const (.int .i64 (.ofNat 1)))], none⟩,
  ⟨some p4, .move, [(.tmp p22)], none⟩]))))))
 (.seq (.seq (.drawn [
  ⟨0, ⟨some p28, .move, [(.tmp p0)], none⟩, .pure, []⟩,
  ⟨1, ⟨some p29, (.slStr false true), [(.tmp p28), (.const (.int .i64 (.ofNat 4)))], none⟩, .pure, [0]⟩,
  ⟨2, ⟨some p30, .move, [(.tmp p0)], none⟩, .pure, []⟩,
  ⟨3, ⟨some p31, (.slStr true false), [(.tmp p30), (.const (.int .i64 (.ofNat 5)))], none⟩, .pure, [2]⟩,
  ⟨4, ⟨some p32, .call, [(.const (.fn 141 [] [])), (.tmp p31)], none⟩, .eff, [3]⟩,
  ⟨5, ⟨some p33, .call, [(.const (.fn 140 [] [])), (.tmp p32)], none⟩, .eff, [4, 4]⟩,
  ⟨6, ⟨some p34, (.eql (.base .str) true), [(.tmp p29), (.tmp p33)], none⟩, (.read 2 2), [1, 5]⟩])
 (.cond (.tmp p34)
 (.seq (.reg [
  ⟨some p2, .move, [(.const .snil)], none⟩,
  ⟨some p3, .move, [(.const (.int .i64 (.ofNat 51)))], none⟩])
 (.ret [.tmp p2, .tmp p3]))
 .skip))
 (.seq (.reg [
  ⟨some p36, .move, [(.tmp p0)], none⟩,
  ⟨some p37, (.slStr true false), [(.tmp p36), (.const (.int .i64 (.ofNat 5)))], none⟩,
  ⟨some p38, .call, [(.const (.fn 156 [] [])), (.tmp p37)], none⟩,
  ⟨some p35, .move, [(.tmp p38)], none⟩,
  ⟨some p39, (.extract 0), [(.tmp p35)], none⟩,
  ⟨some p40, (.extract 1), [(.tmp p35)], none⟩,
  ⟨some p5, .move, [(.tmp p39)], none⟩,
  ⟨some p6, .move, [(.tmp p40)], none⟩])
 (.seq (.seq (.reg [
  ⟨some p41, .move, [(.tmp p6)], none⟩,
  ⟨some p42, .not, [(.tmp p41)], none⟩])
 (.cond (.tmp p42)
 (.seq (.reg [
  ⟨some p2, .move, [(.const .snil)], none⟩,
  ⟨some p3, .move, [(.const (.int .i64 (.ofNat 50)))], none⟩])
 (.ret [.tmp p2, .tmp p3]))
 .skip))
 (.seq (.seq (.reg [
  ⟨some p43, .move, [(.tmp p5)], none⟩,
  ⟨some p44, .call, [(.const (.fn 137 [] [])), (.tmp p43)], none⟩,
  ⟨some p7, .move, [(.tmp p44)], none⟩])
 (.seq (.reg [
  ⟨some p45, .move, [(.tmp p7)], none⟩,
  ⟨some p46, (.eql (.base .int) true), [(.tmp p45), (.const (.int .i64 (.ofNat 0)))], none⟩])
 (.cond (.tmp p46)
 (.seq (.reg [
  ⟨some p47, .move, [(.tmp p7)], none⟩,
  ⟨some p2, .move, [(.const .snil)], none⟩,
  ⟨some p3, .move, [(.tmp p47)], none⟩])
 (.ret [.tmp p2, .tmp p3]))
 .skip)))
 (.seq (.reg [
  ⟨some p48, .move, [(.tmp p5)], none⟩,
  ⟨some p2, .move, [(.tmp p48)], none⟩,
  ⟨some p3, .move, [(.const (.int .i64 (.ofNat 0)))], none⟩])
 (.ret [.tmp p2, .tmp p3])))))))))),
 [.tmp p2, .tmp p3]⟩
def F120 : IFn := ⟨3,
(.seq (.reg [
  ⟨some p4, (.box 74 1), [(.tmp p1)], none⟩,
  ⟨some p5, (.box 3 1), [(.tmp p2)], none⟩,
  ⟨some p6, .move, [(.const (.int .i64 (.ofNat 0)))], none⟩])
 (.seq (.reg [
  ⟨some p7, .move, [(.tmp p0)], none⟩,
  ⟨some p8, (.mkFunc 157 0), [(.tmp p4), (.tmp p5)], none⟩,
  ⟨some p9, .call, [(.const (.fn 155 [] [])), (.tmp p7), (.tmp p8)], none⟩,
  ⟨some p6, .move, [(.tmp p9)], none⟩])
 (.ret [.tmp p6]))),
 [.tmp p6]⟩
def F121 : IFn := ⟨3,
(.seq (.reg [
  ⟨some p6, .move, [(.const .snil)], none⟩])
 (.seq (.reg [
  ⟨some p8, .move, [(.tmp p0)], none⟩,
  ⟨some p9, .move, [(.tmp p1)], none⟩,
  ⟨some p10, .move, [(.tmp p2)], none⟩,
  ⟨some p11, .move, [(.tmp p0)], none⟩,
  ⟨some p12, .lenL, [(.tmp p11)], none⟩,
  ⟨some p13, (.slSlice 5 true true true), [(.tmp p8), (.tmp p9), (.tmp p10), (.tmp p12)], none⟩])
 (.seq (.seq (.reg [
  ⟨some p14, .move, [(.tmp p1)], none⟩,
  ⟨some p15, .move, [(.tmp p2)], none⟩,
  ⟨some p16, (.eql (.base .int) false), [(.tmp p14), (.tmp p15)], none⟩])
 (.cond (.tmp p16)
 (.seq (.reg [
  ⟨some p17, .move, [(.tmp p0)], none⟩,
  ⟨some p6, .move, [(.tmp p17)], none⟩])
 (.ret [.tmp p6]))
 .skip))
 (.seq (.reg [
  ⟨some p18, .move, [(.tmp p0)], none⟩,
  ⟨some p19, .lenL, [(.tmp p18)], none⟩,
  ⟨some p7, .move, [(.tmp p19)], none⟩])
 (.seq (.drawn [
  ⟨0, ⟨some p20, .move, [(.tmp p0)], none⟩, .pure, []⟩,
  ⟨1, ⟨some p21, .move, [(.tmp p1)], none⟩, .pure, []⟩,
  ⟨2, ⟨some p22, (.slSlice 5 false true false), [(.tmp p20), (.tmp p21)], none⟩, .pure, [0, 1]⟩,
  ⟨3, ⟨some p23, .move, [(.tmp p0)], none⟩, .pure, []⟩,
  ⟨4, ⟨some p24, .move, [(.tmp p2)], none⟩, .pure, []⟩,
  ⟨5, ⟨some p25, (.slSlice 5 true false false), [(.tmp p23), (.tmp p24)], none⟩, .pure, [3, 4]⟩,
  ⟨6, ⟨some p26, (.append 60 5 64), [(.tmp p22), (.tmp p25)], none⟩, .eff, [2, 5]⟩,
  ⟨7, ⟨some p0, .move, [(.tmp p26)], none⟩, .pure, [6, 6, 0, 1, 2, 3, 4, 5, 6]⟩])
 (.seq (.reg [
  ⟨some p27, .move, [(.tmp p0)], none⟩,
  ⟨some p28, .move, [(.tmp p0)], none⟩,
  ⟨some p29, .lenL, [(.tmp p28)], none⟩,
  ⟨some p30, .move, [(.tmp p7)], none⟩,
  ⟨some p31, (.slSlice 5 true true false), [(.tmp p27), (.tmp p29), (.tmp p30)], none⟩,
  ⟨none, (.clear 5 [(.int .i64 (.ofNat 0)), (.str []), .snil, (.int .i64 (.ofNat 0)), (.int .i64 (.ofNat 0))]), [(.tmp p31)], none⟩])
 (.seq (.reg [
  ⟨some p32, .move, [(.tmp p0)], none⟩,
  ⟨some p6, .move, [(.tmp p32)], none⟩])
 (.ret [.tmp p6])))))))),
 [.tmp p6]⟩
def F122 : IFn := ⟨3,
(.seq (.reg [
  ⟨some p4, (.box 74 1), [(.tmp p1)], none⟩,
  ⟨some p5, (.box 73 2), [(.tmp p2)], none⟩,
  ⟨some p6, .move, [(.const .snil)], none⟩])
 (.seq (.reg [
  ⟨some p8, .move, [(.tmp p0)], none⟩,
  ⟨some p9, (.mkFunc 158 0), [(.tmp p4), (.tmp p5)], none⟩,
  ⟨some p10, .call, [(.const (.fn 155 [] [])), (.tmp p8), (.tmp p9)], none⟩,
  ⟨some p7, .move, [(.tmp p10)], none⟩])
 (.seq (.seq (.reg [
  ⟨some p11, .move, [(.tmp p7)], none⟩,
  ⟨some p12, (.bin .lss), [(.tmp p11), (.const (.int .i64 (.ofNat 0)))], none⟩])
 (.cond (.tmp p12)
 (.reg [
  ⟨some p13, .move, [(.tmp p0)], none⟩,
  ⟨some p14, .lenL, [(.tmp p13)], none⟩,
  ⟨some p7, .move, [(.tmp p14)], none⟩])
 .skip))
 (.seq (.reg [
  ⟨some p15, .move, [(.tmp p0)], none⟩,
  ⟨some p16, .move, [(.tmp p7)], none⟩,
  ⟨some p17, (.load true 2), [(.tmp p5)], none⟩,
  ⟨some p18, (.buildSlice 73 2 [(.int .i64 (.ofNat 0)), (.int .i64 (.ofNat 0))] 1 [(0, 2)]), [(.tmp p17)], none⟩,
  ⟨some p19, .call, [(.const (.fn 159 [] [])), (.tmp p15), (.tmp p16), (.tmp p18)], none⟩,
  ⟨some p6, .move, [(.tmp p19)], none⟩])
 (.ret [.tmp p6]))))),
 [.tmp p6]⟩
def F123 : IFn := ⟨3,
(.seq (.reg [
  ⟨some p6, .move, [(.const .snil)], none⟩])
 (.seq (.reg [
  ⟨some p8, .move, [(.tmp p0)], none⟩,
  ⟨some p9, .move, [(.tmp p1)], none⟩,
  ⟨some p10, .move, [(.tmp p2)], none⟩,
  ⟨some p11, .move, [(.tmp p0)], none⟩,
  ⟨some p12, .lenL, [(.tmp p11)], none⟩,
  ⟨some p13, (.slSlice 2 true true true), [(.tmp p8), (.tmp p9), (.tmp p10), (.tmp p12)], none⟩])
 (.seq (.seq (.reg [
  ⟨some p14, .move, [(.tmp p1)], none⟩,
  ⟨some p15, .move, [(.tmp p2)], none⟩,
  ⟨some p16, (.eql (.base .int) false), [(.tmp p14), (.tmp p15)], none⟩])
 (.cond (.tmp p16)
 (.seq (.reg [
  ⟨some p17, .move, [(.tmp p0)], none⟩,
  ⟨some p6, .move, [(.tmp p17)], none⟩])
 (.ret [.tmp p6]))
 .skip))
 (.seq (.reg [
  ⟨some p18, .move, [(.tmp p0)], none⟩,
  ⟨some p19, .lenL, [(.tmp p18)], none⟩,
  ⟨some p7, .move, [(.tmp p19)], none⟩])
 (.seq (.drawn [
  ⟨0, ⟨some p20, .move, [(.tmp p0)], none⟩, .pure, []⟩,
  ⟨1, ⟨some p21, .move, [(.tmp p1)], none⟩, .pure, []⟩,
  ⟨2, ⟨some p22, (.slSlice 2 false true false), [(.tmp p20), (.tmp p21)], none⟩, .pure, [0, 1]⟩,
  ⟨3, ⟨some p23, .move, [(.tmp p0)], none⟩, .pure, []⟩,
  ⟨4, ⟨some p24, .move, [(.tmp p2)], none⟩, .pure, []⟩,
  ⟨5, ⟨some p25, (.slSlice 2 true false false), [(.tmp p23), (.tmp p24)], none⟩, .pure, [3, 4]⟩,
  ⟨6, ⟨some p26, (.append 73 2 16), [(.tmp p22), (.tmp p25)], none⟩, .eff, [2, 5]⟩,
  ⟨7, ⟨some p0, .move, [(.tmp p26)], none⟩, .pure, [6, 6, 0, 1, 2, 3, 4, 5, 6]⟩])
 (.seq (.reg [
  ⟨some p27, .move, [(.tmp p0)], none⟩,
  ⟨some p28, .move, [(.tmp p0)], none⟩,
  ⟨some p29, .lenL, [(.tmp p28)], none⟩,
  ⟨some p30, .move, [(.tmp p7)], none⟩,
  ⟨some p31, (.slSlice 2 true true false), [(.tmp p27), (.tmp p29), (.tmp p30)], none⟩,
  ⟨none, (.clear 2 [(.int .i64 (.ofNat 0)), (.int .i64 (.ofNat 0))]), [(.tmp p31)], none⟩])
 (.seq (.reg [
  ⟨some p32, .move, [(.tmp p0)], none⟩,
  ⟨some p6, .move, [(.tmp p32)], none⟩])
 (.ret [.tmp p6])))))))),
 [.tmp p6]⟩
def F131 : IFn := ⟨2,
(.seq (.reg [
  ⟨some p4, .move, [(.const (.int .i64 (.ofNat 0)))], none⟩])
 (.seq (.reg [
  ⟨some p5, .move, [(.tmp p0)], none⟩,
  ⟨some p6, .move, [(.tmp p1)], none⟩,
  ⟨some p7, .call, [(.const (.fn 172 [] [])), (.tmp p5), (.tmp p6)], none⟩,
  ⟨some p4, .move, [(.tmp p7)], none⟩])
 (.ret [.tmp p4]))),
 [.tmp p4]⟩
end Go.Proofs.YtaepllhjnbencaaGreatDoor.Ir

/- The functions of the program in the small code: printed by a program of this session (mkseat.py). -/
import Derived.Test.YtkceoangoobbkaaGreatDoorMuFn
import Derived.Test.YtkceoangoobbkaaGreatDoorMuPrims
set_option linter.unusedVariables false
namespace Go.Proofs.YtkceoangoobbkaaGreatDoor.Ir
open Mu
abbrev p0 : P := .h
abbrev p1 : P := (.o .h)
abbrev p2 : P := (.i .h)
abbrev p3 : P := (.o (.o .h))
abbrev p4 : P := (.i (.o .h))
abbrev p5 : P := (.o (.i .h))
abbrev p6 : P := (.i (.i .h))
abbrev p7 : P := (.o (.o (.o .h)))
abbrev p8 : P := (.i (.o (.o .h)))
abbrev p9 : P := (.o (.i (.o .h)))
abbrev p10 : P := (.i (.i (.o .h)))
abbrev p11 : P := (.o (.o (.i .h)))
abbrev p12 : P := (.i (.o (.i .h)))
abbrev p13 : P := (.o (.i (.i .h)))
abbrev p14 : P := (.i (.i (.i .h)))
abbrev p15 : P := (.o (.o (.o (.o .h))))
abbrev p16 : P := (.i (.o (.o (.o .h))))
abbrev p17 : P := (.o (.i (.o (.o .h))))
abbrev p18 : P := (.i (.i (.o (.o .h))))
abbrev p19 : P := (.o (.o (.i (.o .h))))
abbrev p20 : P := (.i (.o (.i (.o .h))))
abbrev p21 : P := (.o (.i (.i (.o .h))))
abbrev p22 : P := (.i (.i (.i (.o .h))))
abbrev p23 : P := (.o (.o (.o (.i .h))))
abbrev p24 : P := (.i (.o (.o (.i .h))))
abbrev p25 : P := (.o (.i (.o (.i .h))))
abbrev p26 : P := (.i (.i (.o (.i .h))))
abbrev p27 : P := (.o (.o (.i (.i .h))))
abbrev p28 : P := (.i (.o (.i (.i .h))))
abbrev p29 : P := (.o (.i (.i (.i .h))))
abbrev p30 : P := (.i (.i (.i (.i .h))))
abbrev p31 : P := (.o (.o (.o (.o (.o .h)))))
abbrev p32 : P := (.i (.o (.o (.o (.o .h)))))
abbrev p33 : P := (.o (.i (.o (.o (.o .h)))))
abbrev p34 : P := (.i (.i (.o (.o (.o .h)))))
abbrev p35 : P := (.o (.o (.i (.o (.o .h)))))
abbrev p36 : P := (.i (.o (.i (.o (.o .h)))))
abbrev p37 : P := (.o (.i (.i (.o (.o .h)))))
abbrev p38 : P := (.i (.i (.i (.o (.o .h)))))
abbrev p39 : P := (.o (.o (.o (.i (.o .h)))))
abbrev p40 : P := (.i (.o (.o (.i (.o .h)))))
abbrev p41 : P := (.o (.i (.o (.i (.o .h)))))
abbrev p42 : P := (.i (.i (.o (.i (.o .h)))))
abbrev p43 : P := (.o (.o (.i (.i (.o .h)))))
abbrev p44 : P := (.i (.o (.i (.i (.o .h)))))
abbrev p45 : P := (.o (.i (.i (.i (.o .h)))))
abbrev p46 : P := (.i (.i (.i (.i (.o .h)))))
abbrev p47 : P := (.o (.o (.o (.o (.i .h)))))
abbrev p48 : P := (.i (.o (.o (.o (.i .h)))))
abbrev p49 : P := (.o (.i (.o (.o (.i .h)))))
abbrev p50 : P := (.i (.i (.o (.o (.i .h)))))
abbrev p51 : P := (.o (.o (.i (.o (.i .h)))))
abbrev p52 : P := (.i (.o (.i (.o (.i .h)))))
abbrev p53 : P := (.o (.i (.i (.o (.i .h)))))
abbrev p54 : P := (.i (.i (.i (.o (.i .h)))))
abbrev p55 : P := (.o (.o (.o (.i (.i .h)))))
abbrev p56 : P := (.i (.o (.o (.i (.i .h)))))
abbrev p57 : P := (.o (.i (.o (.i (.i .h)))))
abbrev p58 : P := (.i (.i (.o (.i (.i .h)))))
abbrev p59 : P := (.o (.o (.i (.i (.i .h)))))
abbrev p60 : P := (.i (.o (.i (.i (.i .h)))))
abbrev p61 : P := (.o (.i (.i (.i (.i .h)))))
abbrev p62 : P := (.i (.i (.i (.i (.i .h)))))
abbrev p63 : P := (.o (.o (.o (.o (.o (.o .h))))))
abbrev p64 : P := (.i (.o (.o (.o (.o (.o .h))))))
abbrev p65 : P := (.o (.i (.o (.o (.o (.o .h))))))
abbrev p66 : P := (.i (.i (.o (.o (.o (.o .h))))))
abbrev p67 : P := (.o (.o (.i (.o (.o (.o .h))))))
abbrev p68 : P := (.i (.o (.i (.o (.o (.o .h))))))
abbrev p69 : P := (.o (.i (.i (.o (.o (.o .h))))))
abbrev p70 : P := (.i (.i (.i (.o (.o (.o .h))))))
abbrev p71 : P := (.o (.o (.o (.i (.o (.o .h))))))
abbrev p72 : P := (.i (.o (.o (.i (.o (.o .h))))))
abbrev p73 : P := (.o (.i (.o (.i (.o (.o .h))))))
abbrev p74 : P := (.i (.i (.o (.i (.o (.o .h))))))
abbrev p75 : P := (.o (.o (.i (.i (.o (.o .h))))))
abbrev p76 : P := (.i (.o (.i (.i (.o (.o .h))))))
abbrev p77 : P := (.o (.i (.i (.i (.o (.o .h))))))
abbrev p78 : P := (.i (.i (.i (.i (.o (.o .h))))))
abbrev p79 : P := (.o (.o (.o (.o (.i (.o .h))))))
abbrev p80 : P := (.i (.o (.o (.o (.i (.o .h))))))
abbrev p81 : P := (.o (.i (.o (.o (.i (.o .h))))))
abbrev p82 : P := (.i (.i (.o (.o (.i (.o .h))))))
abbrev p83 : P := (.o (.o (.i (.o (.i (.o .h))))))
abbrev p84 : P := (.i (.o (.i (.o (.i (.o .h))))))
abbrev p85 : P := (.o (.i (.i (.o (.i (.o .h))))))
abbrev p86 : P := (.i (.i (.i (.o (.i (.o .h))))))
abbrev p87 : P := (.o (.o (.o (.i (.i (.o .h))))))
abbrev p88 : P := (.i (.o (.o (.i (.i (.o .h))))))
abbrev p89 : P := (.o (.i (.o (.i (.i (.o .h))))))
abbrev p90 : P := (.i (.i (.o (.i (.i (.o .h))))))
abbrev p91 : P := (.o (.o (.i (.i (.i (.o .h))))))
abbrev p92 : P := (.i (.o (.i (.i (.i (.o .h))))))
abbrev p93 : P := (.o (.i (.i (.i (.i (.o .h))))))
abbrev p94 : P := (.i (.i (.i (.i (.i (.o .h))))))
abbrev p95 : P := (.o (.o (.o (.o (.o (.i .h))))))
abbrev p96 : P := (.i (.o (.o (.o (.o (.i .h))))))
abbrev p97 : P := (.o (.i (.o (.o (.o (.i .h))))))
abbrev p98 : P := (.i (.i (.o (.o (.o (.i .h))))))
abbrev p99 : P := (.o (.o (.i (.o (.o (.i .h))))))
abbrev p100 : P := (.i (.o (.i (.o (.o (.i .h))))))
abbrev p101 : P := (.o (.i (.i (.o (.o (.i .h))))))
abbrev p102 : P := (.i (.i (.i (.o (.o (.i .h))))))
abbrev p103 : P := (.o (.o (.o (.i (.o (.i .h))))))
abbrev p104 : P := (.i (.o (.o (.i (.o (.i .h))))))
abbrev p105 : P := (.o (.i (.o (.i (.o (.i .h))))))
abbrev p106 : P := (.i (.i (.o (.i (.o (.i .h))))))
abbrev p107 : P := (.o (.o (.i (.i (.o (.i .h))))))
abbrev p108 : P := (.i (.o (.i (.i (.o (.i .h))))))
abbrev p109 : P := (.o (.i (.i (.i (.o (.i .h))))))
abbrev p110 : P := (.i (.i (.i (.i (.o (.i .h))))))
abbrev p111 : P := (.o (.o (.o (.o (.i (.i .h))))))
abbrev p112 : P := (.i (.o (.o (.o (.i (.i .h))))))
abbrev p113 : P := (.o (.i (.o (.o (.i (.i .h))))))
abbrev p114 : P := (.i (.i (.o (.o (.i (.i .h))))))
abbrev p115 : P := (.o (.o (.i (.o (.i (.i .h))))))
abbrev p116 : P := (.i (.o (.i (.o (.i (.i .h))))))
abbrev p117 : P := (.o (.i (.i (.o (.i (.i .h))))))
abbrev p118 : P := (.i (.i (.i (.o (.i (.i .h))))))
abbrev p119 : P := (.o (.o (.o (.i (.i (.i .h))))))
abbrev p120 : P := (.i (.o (.o (.i (.i (.i .h))))))
abbrev p121 : P := (.o (.i (.o (.i (.i (.i .h))))))
abbrev p122 : P := (.i (.i (.o (.i (.i (.i .h))))))
abbrev p123 : P := (.o (.o (.i (.i (.i (.i .h))))))
abbrev p124 : P := (.i (.o (.i (.i (.i (.i .h))))))
abbrev p125 : P := (.o (.i (.i (.i (.i (.i .h))))))
abbrev p126 : P := (.i (.i (.i (.i (.i (.i .h))))))
abbrev p127 : P := (.o (.o (.o (.o (.o (.o (.o .h)))))))
abbrev p128 : P := (.i (.o (.o (.o (.o (.o (.o .h)))))))
abbrev p129 : P := (.o (.i (.o (.o (.o (.o (.o .h)))))))
abbrev p130 : P := (.i (.i (.o (.o (.o (.o (.o .h)))))))
abbrev p131 : P := (.o (.o (.i (.o (.o (.o (.o .h)))))))
abbrev p132 : P := (.i (.o (.i (.o (.o (.o (.o .h)))))))
abbrev p133 : P := (.o (.i (.i (.o (.o (.o (.o .h)))))))
abbrev p134 : P := (.i (.i (.i (.o (.o (.o (.o .h)))))))
abbrev p135 : P := (.o (.o (.o (.i (.o (.o (.o .h)))))))
abbrev p136 : P := (.i (.o (.o (.i (.o (.o (.o .h)))))))
abbrev p137 : P := (.o (.i (.o (.i (.o (.o (.o .h)))))))
abbrev p138 : P := (.i (.i (.o (.i (.o (.o (.o .h)))))))
abbrev p139 : P := (.o (.o (.i (.i (.o (.o (.o .h)))))))
abbrev p140 : P := (.i (.o (.i (.i (.o (.o (.o .h)))))))
abbrev p141 : P := (.o (.i (.i (.i (.o (.o (.o .h)))))))
abbrev p142 : P := (.i (.i (.i (.i (.o (.o (.o .h)))))))
abbrev p143 : P := (.o (.o (.o (.o (.i (.o (.o .h)))))))
abbrev p144 : P := (.i (.o (.o (.o (.i (.o (.o .h)))))))
abbrev p145 : P := (.o (.i (.o (.o (.i (.o (.o .h)))))))
abbrev p146 : P := (.i (.i (.o (.o (.i (.o (.o .h)))))))
abbrev p147 : P := (.o (.o (.i (.o (.i (.o (.o .h)))))))
abbrev p148 : P := (.i (.o (.i (.o (.i (.o (.o .h)))))))
abbrev p149 : P := (.o (.i (.i (.o (.i (.o (.o .h)))))))
abbrev p150 : P := (.i (.i (.i (.o (.i (.o (.o .h)))))))
abbrev p151 : P := (.o (.o (.o (.i (.i (.o (.o .h)))))))
abbrev p152 : P := (.i (.o (.o (.i (.i (.o (.o .h)))))))
abbrev p153 : P := (.o (.i (.o (.i (.i (.o (.o .h)))))))
abbrev p154 : P := (.i (.i (.o (.i (.i (.o (.o .h)))))))
abbrev p155 : P := (.o (.o (.i (.i (.i (.o (.o .h)))))))
abbrev p156 : P := (.i (.o (.i (.i (.i (.o (.o .h)))))))
abbrev p157 : P := (.o (.i (.i (.i (.i (.o (.o .h)))))))
abbrev p158 : P := (.i (.i (.i (.i (.i (.o (.o .h)))))))
abbrev p159 : P := (.o (.o (.o (.o (.o (.i (.o .h)))))))
abbrev p160 : P := (.i (.o (.o (.o (.o (.i (.o .h)))))))
abbrev p161 : P := (.o (.i (.o (.o (.o (.i (.o .h)))))))
abbrev p162 : P := (.i (.i (.o (.o (.o (.i (.o .h)))))))
abbrev p163 : P := (.o (.o (.i (.o (.o (.i (.o .h)))))))
abbrev p164 : P := (.i (.o (.i (.o (.o (.i (.o .h)))))))
abbrev p165 : P := (.o (.i (.i (.o (.o (.i (.o .h)))))))
abbrev p166 : P := (.i (.i (.i (.o (.o (.i (.o .h)))))))
abbrev p167 : P := (.o (.o (.o (.i (.o (.i (.o .h)))))))
def F3 : IFn := ⟨1,
(.seq (.reg [
  ⟨some p1, (.box 23 3), [(.tmp p0)], none⟩,
  ⟨some p2, .move, [(.const (.bool false))], none⟩])
 (.seq (.reg [
  ⟨some p6, (.load true 3), [(.tmp p1)], none⟩,
  ⟨some p7, .call, [(.const (.fn 4 [] [])), (.tmp p6)], none⟩,
  ⟨some p5, .move, [(.tmp p7)], none⟩,
  ⟨some p8, (.extract 0), [(.tmp p5)], none⟩,
  ⟨some p9, (.extract 1), [(.tmp p5)], none⟩,
  ⟨some p3, .move, [(.tmp p8)], none⟩,
  ⟨some p4, .move, [(.tmp p9)], none⟩])
 (.seq (.drawn [
  ⟨0, ⟨some p10, .move, [(.tmp p4)], none⟩, .pure, []⟩,
  ⟨1, ⟨some p11, .move, [(.tmp p10)], none⟩, .pure, [0]⟩,
  ⟨2, ⟨some p12, .move, [(.tmp p3)], some (p11, true)⟩, .pure, [1]⟩,
  ⟨3, ⟨some p13, (.eql .ptr false), [(.tmp p12), (.const .pnil)], some (p11, true)⟩, (.read 0 0), [2, 1]⟩,
  ⟨4, ⟨some p14, .move, [(.tmp p13)], some (p11, true)⟩, .pure, [3, 1, 1]⟩,
  ⟨5, ⟨some p15, .move, [(.tmp p3)], some (p14, false)⟩, .pure, [4]⟩,
  ⟨6, ⟨some p16, .nilCheck, [(.tmp p15)], some (p14, false)⟩, .pure, [5, 4]⟩,
  ⟨7, ⟨some p17, (.fieldAddr 0), [(.tmp p16)], some (p14, false)⟩, .pure, [6, 4]⟩,
  ⟨8, ⟨some p18, (.idxArr 1 2), [(.tmp p17), (.const (.int .i64 (.ofNat 0)))], some (p14, false)⟩, .pure, [7, 4]⟩,
  ⟨9, ⟨some p19, (.load false 1), [(.tmp p18)], some (p14, false)⟩, (.read 0 0), [8, 4]⟩,
  ⟨10, ⟨some p20, .call, [(.const (.fn 5 [] [])), (.tmp p19)], some (p14, false)⟩, .eff, [9, 4, 4]⟩,
  ⟨11, ⟨some p21, (.load true 3), [(.tmp p1)], some (p14, false)⟩, (.read 0 1), [4]⟩,
  ⟨12, ⟨some p22, (.eql (.struct [(0, .int), (1, .int), (2, .int)]) false), [(.tmp p20), (.tmp p21)], some (p14, false)⟩, (.read 1 1), [10, 11, 4]⟩,
  ⟨13, ⟨some p23, .move, [(.tmp p22)], some (p14, false)⟩, .pure, [12, 10, 4]⟩,
  ⟨14, ⟨some p24, .move, [(.tmp p3)], some (p23, true)⟩, .pure, [13]⟩,
  ⟨15, ⟨some p25, .nilCheck, [(.tmp p24)], some (p23, true)⟩, .pure, [14, 13]⟩,
  ⟨16, ⟨some p26, (.fieldAddr 0), [(.tmp p25)], some (p23, true)⟩, .pure, [15, 13]⟩,
  ⟨17, ⟨some p27, (.idxArr 1 2), [(.tmp p26), (.const (.int .i64 (.ofNat 0)))], some (p23, true)⟩, .pure, [16, 13]⟩,
  ⟨18, ⟨some p28, (.load false 1), [(.tmp p27)], some (p23, true)⟩, (.read 1 1), [17, 13]⟩,
  ⟨19, ⟨some p29, .call, [(.const (.fn 7 [] [])), (.tmp p28)], some (p23, true)⟩, .eff, [18, 13, 13]⟩,
  ⟨20, ⟨some p30, (.build [.snil, .snil] []), [], some (p23, true)⟩, .pure, [13]⟩,
  ⟨21, ⟨some p31, .call, [(.const (.fn 6 [] [])), (.tmp p29), (.tmp p30)], some (p23, true)⟩, .eff, [19, 20, 19, 13]⟩,
  ⟨22, ⟨some p32, .pick, [(.tmp p23), (.tmp p31), (.const (.bool false))], some (p14, false)⟩, .pure, [13, 21, 4]⟩,
  ⟨23, ⟨some p33, .pick, [(.tmp p14), (.const (.bool true)), (.tmp p32)], some (p11, true)⟩, .pure, [4, 22, 1]⟩,
  ⟨24, ⟨some p34, .pick, [(.tmp p11), (.tmp p33), (.const (.bool false))], none⟩, .pure, [1, 23]⟩,
  ⟨25, ⟨some p35, .move, [(.tmp p34)], none⟩, .pure, [24, 21]⟩,
  ⟨26, ⟨some p36, .call, [(.const (.fn 8 [] []))], some (p35, true)⟩, .eff, [25, 25]⟩,
  ⟨27, ⟨some p37, .pick, [(.tmp p35), (.tmp p36), (.const (.bool false))], none⟩, .pure, [25, 26]⟩,
  ⟨28, ⟨some p2, .move, [(.tmp p37)], none⟩, .pure, [27, 26, 0, 1, 2, 3, 4, 5, 6, 7, 8, 9, 10, 11, 12, 13, 14, 15, 16, 17, 18, 19, 20, 21, 22, 23, 24, 25, 26, 27]⟩])
 (.ret [.tmp p2])))),
 [.tmp p2]⟩
def F4 : IFn := ⟨1,
(.seq (.reg [
  ⟨some p1, (.box 23 3), [(.tmp p0)], none⟩,
  ⟨some p2, .move, [(.const .pnil)], none⟩,
  ⟨some p3, .move, [(.const (.bool false))], none⟩])
 (.seq (.reg [
  ⟨some p10, (.build [.pnil, .pnil, (.int .i64 (.ofNat 0)), (.int .i64 (.ofNat 0)), (.int .i64 (.ofNat 0)), .snil, .snil, .snil, (.int .i64 (.ofNat 0)), (.int .i64 (.ofNat 0)), (.int .i64 (.ofNat 0)), (.int .i64 (.ofNat 0)), (.int .i64 (.ofNat 0)), (.int .i64 (.ofNat 0)), .snil, .snil, .snil, (.int .i64 (.ofNat 0)), (.int .i64 (.ofNat 0)), (.int .i64 (.ofNat 0))] []), [], none⟩,
  ⟨some p11, (.box 36 20), [(.tmp p10)], none⟩,
  ⟨some p4, .move, [(.tmp p11)], none⟩])
 (.seq (.seq (.reg [
  ⟨some p5, .move, [(.const (.int .i64 (.ofNat 0)))], none⟩])
 (.block 0 [p4] (.loop [p1, p4, p5] (.seq (.seq (.reg [
  ⟨some p12, .move, [(.tmp p5)], none⟩,
  ⟨some p13, (.bin .lss), [(.tmp p12), (.const (.int .i64 (.ofNat 2)))], none⟩])
 (.cond (.tmp p13)
 .skip
 (.exit 0 [p4])))
 (.seq (.block 1 [p1, p4, p5] (.seq (.reg [
  ⟨some p17, (.load true 3), [(.tmp p1)], none⟩,
  ⟨some p18, .call, [(.const (.fn 9 [] [])), (.tmp p17)], none⟩,
  ⟨some p16, .move, [(.tmp p18)], none⟩,
  ⟨some p19, (.extract 0), [(.tmp p16)], none⟩,
  ⟨some p20, (.extract 1), [(.tmp p16)], none⟩,
  ⟨some p6, .move, [(.tmp p19)], none⟩,
  ⟨some p7, .move, [(.tmp p20)], none⟩])
 (.seq (.reg [
  ⟨some p22, (.load true 3), [(.tmp p1)], none⟩,
  ⟨some p23, .call, [(.const (.fn 10 [] [])), (.tmp p22)], none⟩,
  ⟨some p21, .move, [(.tmp p23)], none⟩,
  ⟨some p24, (.extract 0), [(.tmp p21)], none⟩,
  ⟨some p25, (.extract 1), [(.tmp p21)], none⟩,
  ⟨some p8, (.alloc 33 [(.int .i64 (.ofNat 0)), (.int .i64 (.ofNat 0)), (.int .i64 (.ofNat 0)), .snil, .snil, .snil, (.int .i64 (.ofNat 0)), (.int .i64 (.ofNat 0)), (.int .i64 (.ofNat 0))]), [], none⟩,
  ⟨none, (.store 9), [(.tmp p8), (.tmp p24)], none⟩,
  ⟨some p9, .move, [(.tmp p25)], none⟩])
 (.seq (.seq (.reg [
  ⟨some p26, .move, [(.tmp p7)], none⟩,
  ⟨some p27, .call, [(.const (.fn 11 [] [])), (.tmp p26)], none⟩,
  ⟨some p28, .move, [(.tmp p9)], none⟩,
  ⟨some p29, (.eql (.base .int) true), [(.tmp p27), (.tmp p28)], none⟩,
  ⟨some p30, .move, [(.tmp p29)], none⟩,
  ⟨some p31, .move, [(.tmp p6)], some (p30, false)⟩,
  ⟨some p32, (.eql .ptr false), [(.tmp p31), (.const .pnil)], some (p30, false)⟩,
  ⟨some p33, .move, [(.tmp p9)], some (p30, false)⟩,
  ⟨some p34, (.eql (.base .int) true), [(.tmp p33), (.const (.int .i64 (.ofNat 0)))], some (p30, false)⟩,
  ⟨some p35, (.eql (.base .bool) true), [(.tmp p32), (.tmp p34)], some (p30, false)⟩,
  ⟨some p36, .pick, [(.tmp p30), (.const (.bool true)), (.tmp p35)], none⟩])
 (.cond (.tmp p36)
 (.seq (.reg [
  ⟨some p2, .move, [(.const .pnil)], none⟩,
  ⟨some p3, .move, [(.const (.bool false))], none⟩])
 (.ret [.tmp p2, .tmp p3]))
 .skip))
 (.seq (.seq (.reg [
  ⟨some p37, .move, [(.tmp p6)], none⟩,
  ⟨some p38, (.eql .ptr false), [(.tmp p37), (.const .pnil)], none⟩])
 (.cond (.tmp p38)
 (.seq (.reg [
  ⟨some p2, .move, [(.const .pnil)], none⟩,
  ⟨some p3, .move, [(.const (.bool true))], none⟩])
 (.ret [.tmp p2, .tmp p3]))
 .skip))
 (.seq (.reg [
  ⟨some p39, .move, [(.tmp p4)], none⟩,
  ⟨some p40, .move, [(.tmp p5)], none⟩,
  ⟨some p41, .move, [(.tmp p6)], none⟩,
  ⟨some p42, .nilCheck, [(.tmp p39)], none⟩,
  ⟨some p43, (.fieldAddr 0), [(.tmp p42)], none⟩,
  ⟨some p44, (.idxArr 1 2), [(.tmp p43), (.tmp p40)], none⟩,
  ⟨none, (.store 1), [(.tmp p44), (.tmp p41)], none⟩])
 (.drawn [
  ⟨0, ⟨some p45, .move, [(.tmp p4)], none⟩, .pure, []⟩,
  ⟨1, ⟨some p46, .move, [(.tmp p5)], none⟩, .pure, []⟩,
  ⟨2, ⟨some p47, (.load true 9), [(.tmp p8)], none⟩, (.read 0 0), []⟩,
  ⟨3, ⟨some p48, .nilCheck, [(.tmp p45)], none⟩, .pure, [0]⟩,
  ⟨4, ⟨some p49, (.fieldAddr 2), [(.tmp p48)], none⟩, .pure, [3]⟩,
  ⟨5, ⟨some p50, (.idxArr 9 2), [(.tmp p49), (.tmp p46)], none⟩, .pure, [4, 1, 0, 1, 2]⟩,
  ⟨6, ⟨none, (.store 9), [(.tmp p50), (.tmp p47)], none⟩, .eff, [5, 2, 0, 1, 2]⟩])))))))
 (.reg [
  ⟨some p14, .move, [(.tmp p5)], none⟩,
  ⟨some p15, (.bin .add), [(.tmp p14), (.const (.int .i64 (.ofNat 1)))], none⟩,
  ⟨some p5, .move, [(.tmp p15)], none⟩]))))))
 (.seq (.reg [
  ⟨some p51, .move, [(.tmp p4)], none⟩,
  ⟨some p2, .move, [(.tmp p51)], none⟩,
  ⟨some p3, .move, [(.const (.bool true))], none⟩])
 (.ret [.tmp p2, .tmp p3]))))),
 [.tmp p2, .tmp p3]⟩
def F5 : IFn := ⟨1,
(.seq (.reg [
  ⟨some p2, (.alloc 23 [(.int .i64 (.ofNat 0)), (.int .i64 (.ofNat 0)), (.int .i64 (.ofNat 0))]), [], none⟩])
 (.seq (.reg [
  ⟨some p3, .move, [(.tmp p0)], none⟩,
  ⟨some p4, .nilCheck, [(.tmp p3)], none⟩,
  ⟨some p5, (.fieldAddr 0), [(.tmp p4)], none⟩,
  ⟨some p6, (.load true 3), [(.tmp p5)], none⟩,
  ⟨none, (.store 3), [(.tmp p2), (.tmp p6)], none⟩])
 (.ret [.cell p2 true 3]))),
 [.cell p2 true 3]⟩
def F6 : IFn := ⟨2,
(.seq (.reg [
  ⟨some p2, (.box 40 2), [(.tmp p0)], none⟩,
  ⟨some p3, (.box 40 2), [(.tmp p1)], none⟩,
  ⟨some p4, .move, [(.const (.bool false))], none⟩])
 (.seq (.seq (.reg [
  ⟨some p12, (.fieldAddr 0), [(.tmp p2)], none⟩,
  ⟨some p13, (.load false 1), [(.tmp p12)], none⟩,
  ⟨some p14, .lenL, [(.tmp p13)], none⟩,
  ⟨some p15, (.fieldAddr 0), [(.tmp p3)], none⟩,
  ⟨some p16, (.load false 1), [(.tmp p15)], none⟩,
  ⟨some p17, .lenL, [(.tmp p16)], none⟩,
  ⟨some p18, (.eql (.base .int) true), [(.tmp p14), (.tmp p17)], none⟩,
  ⟨some p19, .move, [(.tmp p18)], none⟩,
  ⟨some p20, (.fieldAddr 1), [(.tmp p2)], some (p19, false)⟩,
  ⟨some p21, (.load false 1), [(.tmp p20)], some (p19, false)⟩,
  ⟨some p22, .lenL, [(.tmp p21)], some (p19, false)⟩,
  ⟨some p23, (.fieldAddr 1), [(.tmp p3)], some (p19, false)⟩,
  ⟨some p24, (.load false 1), [(.tmp p23)], some (p19, false)⟩,
  ⟨some p25, .lenL, [(.tmp p24)], some (p19, false)⟩,
  ⟨some p26, (.eql (.base .int) true), [(.tmp p22), (.tmp p25)], some (p19, false)⟩,
  ⟨some p27, .pick, [(.tmp p19), (.const (.bool true)), (.tmp p26)], none⟩])
 (.cond (.tmp p27)
 (.seq (.reg [
  ⟨some p4, .move, [(.const (.bool false))], none⟩])
 (.ret [.tmp p4]))
 .skip))
 (.seq (.seq (.reg [
  ⟨some p5, .move, [(.const (.int .i64 (.ofNat 0)))], none⟩])
 (.block 0 [p2, p3] (.loop [p2, p3, p5] (.seq (.seq (.reg [
  ⟨some p28, .move, [(.tmp p5)], none⟩,
  ⟨some p29, (.fieldAddr 0), [(.tmp p2)], none⟩,
  ⟨some p30, (.load false 1), [(.tmp p29)], none⟩,
  ⟨some p31, .lenL, [(.tmp p30)], none⟩,
  ⟨some p32, (.bin .lss), [(.tmp p28), (.tmp p31)], none⟩])
 (.cond (.tmp p32)
 .skip
 (.exit 0 [p2, p3])))
 (.seq (.block 1 [p2, p3, p5] (.seq (.drawn [
  ⟨0, ⟨some p35, (.fieldAddr 0), [(.tmp p2)], none⟩, .pure, []⟩,
  ⟨1, ⟨some p36, (.load false 1), [(.tmp p35)], none⟩, (.read 0 0), [0]⟩,
  ⟨2, ⟨some p37, .move, [(.tmp p5)], none⟩, .pure, []⟩,
  ⟨3, ⟨some p38, (.idxSlice 5), [(.tmp p36), (.tmp p37)], none⟩, .pure, [1, 2]⟩,
  ⟨4, ⟨some p39, (.load true 5), [(.tmp p38)], none⟩, (.read 0 0), [3]⟩,
  ⟨5, ⟨some p40, (.fieldAddr 0), [(.tmp p3)], none⟩, .pure, []⟩,
  ⟨6, ⟨some p41, (.load false 1), [(.tmp p40)], none⟩, (.read 0 1), [5]⟩,
  ⟨7, ⟨some p42, .move, [(.tmp p5)], none⟩, .pure, []⟩,
  ⟨8, ⟨some p43, (.idxSlice 5), [(.tmp p41), (.tmp p42)], none⟩, .pure, [6, 7]⟩,
  ⟨9, ⟨some p44, (.load true 5), [(.tmp p43)], none⟩, (.read 0 1), [8]⟩,
  ⟨10, ⟨some p6, (.alloc 57 [(.int .i64 (.ofNat 0)), (.str []), .snil, (.int .i64 (.ofNat 0)), (.int .i64 (.ofNat 0))]), [], none⟩, (.alloc 0), []⟩,
  ⟨11, ⟨some p7, (.alloc 57 [(.int .i64 (.ofNat 0)), (.str []), .snil, (.int .i64 (.ofNat 0)), (.int .i64 (.ofNat 0))]), [], none⟩, (.alloc 0), []⟩,
  ⟨12, ⟨none, (.store 5), [(.tmp p6), (.tmp p39)], none⟩, .eff, [10, 4, 0, 1, 2, 3, 4, 10, 11]⟩,
  ⟨13, ⟨none, (.store 5), [(.tmp p7), (.tmp p44)], none⟩, .eff, [11, 9, 12, 0, 1, 2, 3, 4, 5, 6, 7, 8, 9, 10, 11, 12]⟩])
 (.seq (.seq (.reg [
  ⟨some p45, (.fieldAddr 0), [(.tmp p6)], none⟩,
  ⟨some p46, (.load false 1), [(.tmp p45)], none⟩,
  ⟨some p47, (.fieldAddr 0), [(.tmp p7)], none⟩,
  ⟨some p48, (.load false 1), [(.tmp p47)], none⟩,
  ⟨some p49, (.eql (.base .int) true), [(.tmp p46), (.tmp p48)], none⟩,
  ⟨some p50, .move, [(.tmp p49)], none⟩,
  ⟨some p51, (.fieldAddr 1), [(.tmp p6)], some (p50, false)⟩,
  ⟨some p52, (.load false 1), [(.tmp p51)], some (p50, false)⟩,
  ⟨some p53, (.fieldAddr 1), [(.tmp p7)], some (p50, false)⟩,
  ⟨some p54, (.load false 1), [(.tmp p53)], some (p50, false)⟩,
  ⟨some p55, (.eql (.base .str) true), [(.tmp p52), (.tmp p54)], some (p50, false)⟩,
  ⟨some p56, .pick, [(.tmp p50), (.const (.bool true)), (.tmp p55)], none⟩,
  ⟨some p57, .move, [(.tmp p56)], none⟩,
  ⟨some p58, (.fieldAddr 3), [(.tmp p6)], some (p57, false)⟩,
  ⟨some p59, (.load false 1), [(.tmp p58)], some (p57, false)⟩,
  ⟨some p60, (.fieldAddr 3), [(.tmp p7)], some (p57, false)⟩,
  ⟨some p61, (.load false 1), [(.tmp p60)], some (p57, false)⟩,
  ⟨some p62, (.eql (.base .int) true), [(.tmp p59), (.tmp p61)], some (p57, false)⟩,
  ⟨some p63, .pick, [(.tmp p57), (.const (.bool true)), (.tmp p62)], none⟩,
  ⟨some p64, .move, [(.tmp p63)], none⟩,
  ⟨some p65, (.fieldAddr 4), [(.tmp p6)], some (p64, false)⟩,
  ⟨some p66, (.load false 1), [(.tmp p65)], some (p64, false)⟩,
  ⟨some p67, (.fieldAddr 4), [(.tmp p7)], some (p64, false)⟩,
  ⟨some p68, (.load false 1), [(.tmp p67)], some (p64, false)⟩,
  ⟨some p69, (.eql (.base .int) true), [(.tmp p66), (.tmp p68)], some (p64, false)⟩,
  ⟨some p70, .pick, [(.tmp p64), (.const (.bool true)), (.tmp p69)], none⟩,
  ⟨some p71, .move, [(.tmp p70)], none⟩,
  ⟨some p72, (.fieldAddr 2), [(.tmp p6)], some (p71, false)⟩,
  ⟨some p73, (.load false 1), [(.tmp p72)], some (p71, false)⟩,
  ⟨some p74, .lenL, [(.tmp p73)], some (p71, false)⟩,
  ⟨some p75, (.fieldAddr 2), [(.tmp p7)], some (p71, false)⟩,
  ⟨some p76, (.load false 1), [(.tmp p75)], some (p71, false)⟩,
  ⟨some p77, .lenL, [(.tmp p76)], some (p71, false)⟩,
  ⟨some p78, (.eql (.base .int) true), [(.tmp p74), (.tmp p77)], some (p71, false)⟩,
  ⟨some p79, .pick, [(.tmp p71), (.const (.bool true)), (.tmp p78)], none⟩])
 (.cond (.tmp p79)
 (.seq (.reg [
  ⟨some p4, .move, [(.const (.bool false))], none⟩])
 (.ret [.tmp p4]))
 .skip))
 (.seq (.reg [
  ⟨some p8, .move, [(.const (.int .i64 (.ofNat 0)))], none⟩])
 (.block 2 [p2, p3, p5] (.loop [p2, p3, p5, p6, p7, p8] (.seq (.seq (.reg [
  ⟨some p80, .move, [(.tmp p8)], none⟩,
  ⟨some p81, (.fieldAddr 2), [(.tmp p6)], none⟩,
  ⟨some p82, (.load false 1), [(.tmp p81)], none⟩,
  ⟨some p83, .lenL, [(.tmp p82)], none⟩,
  ⟨some p84, (.bin .lss), [(.tmp p80), (.tmp p83)], none⟩])
 (.cond (.tmp p84)
 .skip
 (.exit 2 [p2, p3, p5])))
 (.seq (.block 3 [p2, p3, p5, p6, p7, p8] (.seq (.drawn [
  ⟨0, ⟨some p87, (.fieldAddr 2), [(.tmp p6)], none⟩, .pure, []⟩,
  ⟨1, ⟨some p88, (.load false 1), [(.tmp p87)], none⟩, (.read 0 0), [0]⟩,
  ⟨2, ⟨some p89, .move, [(.tmp p8)], none⟩, .pure, []⟩,
  ⟨3, ⟨some p90, (.idxSlice 2), [(.tmp p88), (.tmp p89)], none⟩, .pure, [1, 2]⟩,
  ⟨4, ⟨some p91, (.load true 2), [(.tmp p90)], none⟩, (.read 0 0), [3]⟩,
  ⟨5, ⟨some p92, (.fieldAddr 2), [(.tmp p7)], none⟩, .pure, []⟩,
  ⟨6, ⟨some p93, (.load false 1), [(.tmp p92)], none⟩, (.read 0 0), [5]⟩,
  ⟨7, ⟨some p94, .move, [(.tmp p8)], none⟩, .pure, []⟩,
  ⟨8, ⟨some p95, (.idxSlice 2), [(.tmp p93), (.tmp p94)], none⟩, .pure, [6, 7]⟩,
  ⟨9, ⟨some p96, (.load true 2), [(.tmp p95)], none⟩, (.read 0 0), [8]⟩,
  ⟨10, ⟨some p97, (.eql (.struct [(0, .int), (1, .int)]) true), [(.tmp p91), (.tmp p96)], none⟩, (.read 0 0), [4, 9]⟩])
 (.cond (.tmp p97)
 (.seq (.reg [
  ⟨some p4, .move, [(.const (.bool false))], none⟩])
 (.ret [.tmp p4]))
 .skip)))
 (.reg [
  ⟨some p85, .move, [(.tmp p8)], none⟩,
  ⟨some p86, (.bin .add), [(.tmp p85), (.const (.int .i64 (.ofNat 1)))], none⟩,
  ⟨some p8, .move, [(.tmp p86)], none⟩])))))))))
 (.reg [
  ⟨some p33, .move, [(.tmp p5)], none⟩,
  ⟨some p34, (.bin .add), [(.tmp p33), (.const (.int .i64 (.ofNat 1)))], none⟩,
  ⟨some p5, .move, [(.tmp p34)], none⟩]))))))
 (.seq (.seq (.reg [
  ⟨some p9, .move, [(.const (.int .i64 (.ofNat 0)))], none⟩])
 (.block 4 [] (.loop [p2, p3, p9] (.seq (.seq (.reg [
  ⟨some p98, .move, [(.tmp p9)], none⟩,
  ⟨some p99, (.fieldAddr 1), [(.tmp p2)], none⟩,
  ⟨some p100, (.load false 1), [(.tmp p99)], none⟩,
  ⟨some p101, .lenL, [(.tmp p100)], none⟩,
  ⟨some p102, (.bin .lss), [(.tmp p98), (.tmp p101)], none⟩])
 (.cond (.tmp p102)
 .skip
 (.exit 4 [])))
 (.seq (.block 5 [p2, p3, p9] (.seq (.drawn [
  ⟨0, ⟨some p105, (.fieldAddr 1), [(.tmp p2)], none⟩, .pure, []⟩,
  ⟨1, ⟨some p106, (.load false 1), [(.tmp p105)], none⟩, (.read 0 0), [0]⟩,
  ⟨2, ⟨some p107, .move, [(.tmp p9)], none⟩, .pure, []⟩,
  ⟨3, ⟨some p108, (.idxSlice 6), [(.tmp p106), (.tmp p107)], none⟩, .pure, [1, 2]⟩,
  ⟨4, ⟨some p109, (.load true 6), [(.tmp p108)], none⟩, (.read 0 0), [3]⟩,
  ⟨5, ⟨some p110, (.fieldAddr 1), [(.tmp p3)], none⟩, .pure, []⟩,
  ⟨6, ⟨some p111, (.load false 1), [(.tmp p110)], none⟩, (.read 0 1), [5]⟩,
  ⟨7, ⟨some p112, .move, [(.tmp p9)], none⟩, .pure, []⟩,
  ⟨8, ⟨some p113, (.idxSlice 6), [(.tmp p111), (.tmp p112)], none⟩, .pure, [6, 7]⟩,
  ⟨9, ⟨some p114, (.load true 6), [(.tmp p113)], none⟩, (.read 0 1), [8]⟩,
  ⟨10, ⟨some p10, (.alloc 62 [(.int .i64 (.ofNat 0)), (.str []), .snil, (.int .i64 (.ofNat 0)), (.int .i64 (.ofNat 0)), (.bool false)]), [], none⟩, (.alloc 0), []⟩,
  ⟨11, ⟨some p11, (.alloc 62 [(.int .i64 (.ofNat 0)), (.str []), .snil, (.int .i64 (.ofNat 0)), (.int .i64 (.ofNat 0)), (.bool false)]), [], none⟩, (.alloc 0), []⟩,
  ⟨12, ⟨none, (.store 6), [(.tmp p10), (.tmp p109)], none⟩, .eff, [10, 4, 0, 1, 2, 3, 4, 10, 11]⟩,
  ⟨13, ⟨none, (.store 6), [(.tmp p11), (.tmp p114)], none⟩, .eff, [11, 9, 12, 0, 1, 2, 3, 4, 5, 6, 7, 8, 9, 10, 11, 12]⟩])
 (.seq (.reg [
  ⟨some p115, (.fieldAddr 0), [(.tmp p10)], none⟩,
  ⟨some p116, (.load false 1), [(.tmp p115)], none⟩,
  ⟨some p117, (.fieldAddr 0), [(.tmp p11)], none⟩,
  ⟨some p118, (.load false 1), [(.tmp p117)], none⟩,
  ⟨some p119, (.eql (.base .int) true), [(.tmp p116), (.tmp p118)], none⟩,
  ⟨some p120, .move, [(.tmp p119)], none⟩,
  ⟨some p121, (.fieldAddr 1), [(.tmp p10)], some (p120, false)⟩,
  ⟨some p122, (.load false 1), [(.tmp p121)], some (p120, false)⟩,
  ⟨some p123, (.fieldAddr 1), [(.tmp p11)], some (p120, false)⟩,
  ⟨some p124, (.load false 1), [(.tmp p123)], some (p120, false)⟩,
  ⟨some p125, (.eql (.base .str) true), [(.tmp p122), (.tmp p124)], some (p120, false)⟩,
  ⟨some p126, .pick, [(.tmp p120), (.const (.bool true)), (.tmp p125)], none⟩,
  ⟨some p127, .move, [(.tmp p126)], none⟩,
  ⟨some p128, (.fieldAddr 3), [(.tmp p10)], some (p127, false)⟩,
  ⟨some p129, (.load false 1), [(.tmp p128)], some (p127, false)⟩,
  ⟨some p130, (.fieldAddr 3), [(.tmp p11)], some (p127, false)⟩,
  ⟨some p131, (.load false 1), [(.tmp p130)], some (p127, false)⟩,
  ⟨some p132, (.eql (.base .int) true), [(.tmp p129), (.tmp p131)], some (p127, false)⟩,
  ⟨some p133, .pick, [(.tmp p127), (.const (.bool true)), (.tmp p132)], none⟩,
  ⟨some p134, .move, [(.tmp p133)], none⟩,
  ⟨some p135, (.fieldAddr 4), [(.tmp p10)], some (p134, false)⟩,
  ⟨some p136, (.load false 1), [(.tmp p135)], some (p134, false)⟩,
  ⟨some p137, (.fieldAddr 4), [(.tmp p11)], some (p134, false)⟩,
  ⟨some p138, (.load false 1), [(.tmp p137)], some (p134, false)⟩,
  ⟨some p139, (.eql (.base .int) true), [(.tmp p136), (.tmp p138)], some (p134, false)⟩,
  ⟨some p140, .pick, [(.tmp p134), (.const (.bool true)), (.tmp p139)], none⟩,
  ⟨some p141, .move, [(.tmp p140)], none⟩,
  ⟨some p142, (.fieldAddr 5), [(.tmp p10)], some (p141, false)⟩,
  ⟨some p143, (.load false 1), [(.tmp p142)], some (p141, false)⟩,
  ⟨some p144, (.fieldAddr 5), [(.tmp p11)], some (p141, false)⟩,
  ⟨some p145, (.load false 1), [(.tmp p144)], some (p141, false)⟩,
  ⟨some p146, (.eql (.base .bool) true), [(.tmp p143), (.tmp p145)], some (p141, false)⟩,
  ⟨some p147, .pick, [(.tmp p141), (.const (.bool true)), (.tmp p146)], none⟩,
  ⟨some p148, .move, [(.tmp p147)], none⟩,
  ⟨some p149, (.fieldAddr 2), [(.tmp p10)], some (p148, false)⟩,
  ⟨some p150, (.load false 1), [(.tmp p149)], some (p148, false)⟩,
  ⟨some p151, (.fieldAddr 2), [(.tmp p11)], some (p148, false)⟩,
  ⟨some p152, (.load false 1), [(.tmp p151)], some (p148, false)⟩,
  ⟨some p153, .call, [(.const (.fn 12 [] [])), (.tmp p150), (.tmp p152)], some (p148, false)⟩,
  ⟨some p154, .not, [(.tmp p153)], some (p148, false)⟩,
  ⟨some p155, .pick, [(.tmp p148), (.const (.bool true)), (.tmp p154)], none⟩])
 (.cond (.tmp p155)
 (.seq (.reg [
  ⟨some p4, .move, [(.const (.bool false))], none⟩])
 (.ret [.tmp p4]))
 .skip))))
 (.reg [
  ⟨some p103, .move, [(.tmp p9)], none⟩,
  ⟨some p104, (.bin .add), [(.tmp p103), (.const (.int .i64 (.ofNat 1)))], none⟩,
  ⟨some p9, .move, [(.tmp p104)], none⟩]))))))
 (.seq (.reg [
  ⟨some p4, .move, [(.const (.bool true))], none⟩])
 (.ret [.tmp p4])))))),
 [.tmp p4]⟩
def F7 : IFn := ⟨1,
(.seq (.reg [
  ⟨some p2, (.alloc 40 [.snil, .snil]), [], none⟩])
 (.seq (.reg [
  ⟨some p3, (.alloc 40 [.snil, .snil]), [], none⟩])
 (.seq (.seq (.reg [
  ⟨some p10, .move, [(.tmp p0)], none⟩,
  ⟨some p11, .nilCheck, [(.tmp p10)], none⟩,
  ⟨some p12, (.fieldAddr 3), [(.tmp p11)], none⟩,
  ⟨some p13, (.load false 1), [(.tmp p12)], none⟩,
  ⟨some p14, .call, [(.const (.fn 13 [] [])), (.tmp p13)], none⟩,
  ⟨some p15, .lenL, [(.tmp p14)], none⟩,
  ⟨some p16, .move, [(.const (.int .i64 (.ofNat 0)))], none⟩])
 (.block 0 [p0, p2, p3] (.loop [p0, p2, p3, p14, p15, p16] (.seq (.reg [
  ⟨some p17, (.bin .lss), [(.tmp p16), (.tmp p15)], none⟩])
 (.seq (.cond (.tmp p17)
 .skip
 (.exit 0 [p0, p2, p3]))
 (.seq (.block 1 [p0, p2, p3, p14, p15, p16] (.seq (.reg [
  ⟨some p18, (.idxSlice 1), [(.tmp p14), (.tmp p16)], none⟩,
  ⟨some p19, (.load false 1), [(.tmp p18)], none⟩,
  ⟨some p5, .move, [(.tmp p19)], none⟩])
 (.seq (.reg [
  ⟨some p20, .move, [(.tmp p0)], none⟩,
  ⟨some p21, .nilCheck, [(.tmp p20)], none⟩,
  ⟨some p22, (.fieldAddr 3), [(.tmp p21)], none⟩,
  ⟨some p23, (.load false 1), [(.tmp p22)], none⟩,
  ⟨some p24, .move, [(.tmp p5)], none⟩,
  ⟨some p25, .call, [(.const (.fn 14 [] [])), (.tmp p23), (.tmp p24)], none⟩,
  ⟨some p6, .move, [(.tmp p25)], none⟩])
 (.drawn [
  ⟨0, ⟨some p26, (.fieldAddr 0), [(.tmp p3)], none⟩, .pure, []⟩,
  ⟨1, ⟨some p27, (.load false 1), [(.tmp p26)], none⟩, (.read 0 2), [0]⟩,
  ⟨2, ⟨some p28, .move, [(.tmp p6)], none⟩, .pure, []⟩,
  ⟨3, ⟨some p29, .nilCheck, [(.tmp p28)], none⟩, .pure, [2]⟩,
  ⟨4, ⟨some p30, (.fieldAddr 0), [(.tmp p29)], none⟩, .pure, [3]⟩,
  ⟨5, ⟨some p31, (.load false 1), [(.tmp p30)], none⟩, (.read 0 1), [4]⟩,
  ⟨6, ⟨some p32, .move, [(.tmp p6)], none⟩, .pure, []⟩,
  ⟨7, ⟨some p33, .nilCheck, [(.tmp p32)], none⟩, .pure, [6]⟩,
  ⟨8, ⟨some p34, (.fieldAddr 1), [(.tmp p33)], none⟩, .pure, [7]⟩,
  ⟨9, ⟨some p35, (.load false 1), [(.tmp p34)], none⟩, (.read 0 1), [8]⟩,
  ⟨10, ⟨some p36, .move, [(.tmp p6)], none⟩, .pure, []⟩,
  ⟨11, ⟨some p37, .nilCheck, [(.tmp p36)], none⟩, .pure, [10]⟩,
  ⟨12, ⟨some p38, (.fieldAddr 2), [(.tmp p37)], none⟩, .pure, [11]⟩,
  ⟨13, ⟨some p39, (.load false 1), [(.tmp p38)], none⟩, (.read 0 0), [12]⟩,
  ⟨14, ⟨some p40, (.append 59 2), [(.const .snil), (.tmp p39)], none⟩, .eff, [13]⟩,
  ⟨15, ⟨some p41, .move, [(.tmp p6)], none⟩, .pure, []⟩,
  ⟨16, ⟨some p42, .nilCheck, [(.tmp p41)], none⟩, .pure, [15]⟩,
  ⟨17, ⟨some p43, (.fieldAddr 3), [(.tmp p42)], none⟩, .pure, [16]⟩,
  ⟨18, ⟨some p44, (.load false 1), [(.tmp p43)], none⟩, (.read 0 1), [17]⟩,
  ⟨19, ⟨some p45, .move, [(.tmp p6)], none⟩, .pure, []⟩,
  ⟨20, ⟨some p46, .nilCheck, [(.tmp p45)], none⟩, .pure, [19]⟩,
  ⟨21, ⟨some p47, (.fieldAddr 4), [(.tmp p46)], none⟩, .pure, [20]⟩,
  ⟨22, ⟨some p48, (.load false 1), [(.tmp p47)], none⟩, (.read 0 1), [21]⟩,
  ⟨23, ⟨some p49, (.build [(.int .i64 (.ofNat 0)), (.str []), .snil, (.int .i64 (.ofNat 0)), (.int .i64 (.ofNat 0))] [(0, 1), (1, 1), (2, 1), (3, 1), (4, 1)]), [(.tmp p31), (.tmp p35), (.tmp p40), (.tmp p44), (.tmp p48)], none⟩, .pure, [5, 9, 14, 18, 22]⟩,
  ⟨24, ⟨some p50, (.buildSlice 57 5 [(.int .i64 (.ofNat 0)), (.str []), .snil, (.int .i64 (.ofNat 0)), (.int .i64 (.ofNat 0))] 1 [(0, 5)]), [(.tmp p49)], none⟩, .eff, [23]⟩,
  ⟨25, ⟨some p51, (.append 57 5), [(.tmp p27), (.tmp p50)], none⟩, .eff, [1, 24, 14]⟩,
  ⟨26, ⟨some p52, (.fieldAddr 0), [(.tmp p3)], none⟩, .pure, [0, 1, 2, 3, 4, 5, 6, 7, 8, 9, 10, 11, 12, 13, 14, 15, 16, 17, 18, 19, 20, 21, 22, 23, 24, 25]⟩,
  ⟨27, ⟨none, (.store 1), [(.tmp p52), (.tmp p51)], none⟩, .eff, [26, 25, 25, 0, 1, 2, 3, 4, 5, 6, 7, 8, 9, 10, 11, 12, 13, 14, 15, 16, 17, 18, 19, 20, 21, 22, 23, 24, 25]⟩]))))
 (.reg [
  ⟨some p53, (.bin .add), [(.tmp p16), (.const (.int .i64 (.ofNat 1)))], none⟩,
  ⟨some p16, .move, [(.tmp p53)], none⟩])))))))
 (.seq (.seq (.reg [
  ⟨some p54, .move, [(.tmp p0)], none⟩,
  ⟨some p55, .nilCheck, [(.tmp p54)], none⟩,
  ⟨some p56, (.fieldAddr 4), [(.tmp p55)], none⟩,
  ⟨some p57, (.load false 1), [(.tmp p56)], none⟩,
  ⟨some p58, .call, [(.const (.fn 15 [] [])), (.tmp p57)], none⟩,
  ⟨some p59, .lenL, [(.tmp p58)], none⟩,
  ⟨some p60, .move, [(.const (.int .i64 (.ofNat 0)))], none⟩])
 (.block 2 [p2, p3] (.loop [p0, p2, p3, p58, p59, p60] (.seq (.reg [
  ⟨some p61, (.bin .lss), [(.tmp p60), (.tmp p59)], none⟩])
 (.seq (.cond (.tmp p61)
 .skip
 (.exit 2 [p2, p3]))
 (.seq (.block 3 [p0, p2, p3, p58, p59, p60] (.seq (.reg [
  ⟨some p62, (.idxSlice 1), [(.tmp p58), (.tmp p60)], none⟩,
  ⟨some p63, (.load false 1), [(.tmp p62)], none⟩,
  ⟨some p8, .move, [(.tmp p63)], none⟩])
 (.seq (.reg [
  ⟨some p64, .move, [(.tmp p0)], none⟩,
  ⟨some p65, .nilCheck, [(.tmp p64)], none⟩,
  ⟨some p66, (.fieldAddr 4), [(.tmp p65)], none⟩,
  ⟨some p67, (.load false 1), [(.tmp p66)], none⟩,
  ⟨some p68, .move, [(.tmp p8)], none⟩,
  ⟨some p69, .call, [(.const (.fn 16 [] [])), (.tmp p67), (.tmp p68)], none⟩,
  ⟨some p9, .move, [(.tmp p69)], none⟩])
 (.drawn [
  ⟨0, ⟨some p70, (.fieldAddr 1), [(.tmp p3)], none⟩, .pure, []⟩,
  ⟨1, ⟨some p71, (.load false 1), [(.tmp p70)], none⟩, (.read 0 2), [0]⟩,
  ⟨2, ⟨some p72, .move, [(.tmp p9)], none⟩, .pure, []⟩,
  ⟨3, ⟨some p73, .nilCheck, [(.tmp p72)], none⟩, .pure, [2]⟩,
  ⟨4, ⟨some p74, (.fieldAddr 0), [(.tmp p73)], none⟩, .pure, [3]⟩,
  ⟨5, ⟨some p75, (.load false 1), [(.tmp p74)], none⟩, (.read 0 1), [4]⟩,
  ⟨6, ⟨some p76, .move, [(.tmp p9)], none⟩, .pure, []⟩,
  ⟨7, ⟨some p77, .nilCheck, [(.tmp p76)], none⟩, .pure, [6]⟩,
  ⟨8, ⟨some p78, (.fieldAddr 1), [(.tmp p77)], none⟩, .pure, [7]⟩,
  ⟨9, ⟨some p79, (.load false 1), [(.tmp p78)], none⟩, (.read 0 1), [8]⟩,
  ⟨10, ⟨some p80, .move, [(.tmp p9)], none⟩, .pure, []⟩,
  ⟨11, ⟨some p81, .nilCheck, [(.tmp p80)], none⟩, .pure, [10]⟩,
  ⟨12, ⟨some p82, (.fieldAddr 2), [(.tmp p81)], none⟩, .pure, [11]⟩,
  ⟨13, ⟨some p83, (.load false 1), [(.tmp p82)], none⟩, (.read 0 0), [12]⟩,
  ⟨14, ⟨some p84, (.append 91 7), [(.const .snil), (.tmp p83)], none⟩, .eff, [13]⟩,
  ⟨15, ⟨some p85, .move, [(.tmp p9)], none⟩, .pure, []⟩,
  ⟨16, ⟨some p86, .nilCheck, [(.tmp p85)], none⟩, .pure, [15]⟩,
  ⟨17, ⟨some p87, (.fieldAddr 3), [(.tmp p86)], none⟩, .pure, [16]⟩,
  ⟨18, ⟨some p88, (.load false 1), [(.tmp p87)], none⟩, (.read 0 1), [17]⟩,
  ⟨19, ⟨some p89, .move, [(.tmp p9)], none⟩, .pure, []⟩,
  ⟨20, ⟨some p90, .nilCheck, [(.tmp p89)], none⟩, .pure, [19]⟩,
  ⟨21, ⟨some p91, (.fieldAddr 4), [(.tmp p90)], none⟩, .pure, [20]⟩,
  ⟨22, ⟨some p92, (.load false 1), [(.tmp p91)], none⟩, (.read 0 1), [21]⟩,
  ⟨23, ⟨some p93, .move, [(.tmp p9)], none⟩, .pure, []⟩,
  ⟨24, ⟨some p94, .nilCheck, [(.tmp p93)], none⟩, .pure, [23]⟩,
  ⟨25, ⟨some p95, (.fieldAddr 5), [(.tmp p94)], none⟩, .pure, [24]⟩,
  ⟨26, ⟨some p96, (.load false 1), [(.tmp p95)], none⟩, (.read 0 1), [25]⟩,
  ⟨27, ⟨some p97, (.build [(.int .i64 (.ofNat 0)), (.str []), .snil, (.int .i64 (.ofNat 0)), (.int .i64 (.ofNat 0)), (.bool false)] [(0, 1), (1, 1), (2, 1), (3, 1), (4, 1), (5, 1)]), [(.tmp p75), (.tmp p79), (.tmp p84), (.tmp p88), (.tmp p92), (.tmp p96)], none⟩, .pure, [5, 9, 14, 18, 22, 26]⟩,
  ⟨28, ⟨some p98, (.buildSlice 62 6 [(.int .i64 (.ofNat 0)), (.str []), .snil, (.int .i64 (.ofNat 0)), (.int .i64 (.ofNat 0)), (.bool false)] 1 [(0, 6)]), [(.tmp p97)], none⟩, .eff, [27]⟩,
  ⟨29, ⟨some p99, (.append 62 6), [(.tmp p71), (.tmp p98)], none⟩, .eff, [1, 28, 14]⟩,
  ⟨30, ⟨some p100, (.fieldAddr 1), [(.tmp p3)], none⟩, .pure, [0, 1, 2, 3, 4, 5, 6, 7, 8, 9, 10, 11, 12, 13, 14, 15, 16, 17, 18, 19, 20, 21, 22, 23, 24, 25, 26, 27, 28, 29]⟩,
  ⟨31, ⟨none, (.store 1), [(.tmp p100), (.tmp p99)], none⟩, .eff, [30, 29, 29, 0, 1, 2, 3, 4, 5, 6, 7, 8, 9, 10, 11, 12, 13, 14, 15, 16, 17, 18, 19, 20, 21, 22, 23, 24, 25, 26, 27, 28, 29]⟩]))))
 (.reg [
  ⟨some p101, (.bin .add), [(.tmp p60), (.const (.int .i64 (.ofNat 1)))], none⟩,
  ⟨some p60, .move, [(.tmp p101)], none⟩])))))))
 (.seq (.reg [
  ⟨some p102, (.load true 2), [(.tmp p3)], none⟩,
  ⟨none, (.store 2), [(.tmp p2), (.tmp p102)], none⟩])
 (.ret [.cell p2 true 2])))))),
 [.cell p2 true 2]⟩
def F8 : IFn := ⟨0,
(.seq (.reg [
  ⟨some p0, .move, [(.const (.bool false))], none⟩])
 (.seq (.reg [
  ⟨some p13, (.build [(.int .i64 (.ofNat 0)), (.int .i64 (.ofNat 0)), (.int .i64 (.ofNat 0))] [(0, 1), (1, 1), (2, 1)]), [(.const (.int .i64 (.ofNat 80))), (.const (.int .i64 (.ofNat 24))), (.const (.int .i64 (.ofNat 100)))], none⟩,
  ⟨some p1, (.alloc 23 [(.int .i64 (.ofNat 0)), (.int .i64 (.ofNat 0)), (.int .i64 (.ofNat 0))]), [], none⟩,
  ⟨none, (.store 3), [(.tmp p1), (.tmp p13)], none⟩])
 (.seq (.reg [
  ⟨some p15, (.load true 3), [(.tmp p1)], none⟩,
  ⟨some p16, .call, [(.const (.fn 9 [] [])), (.tmp p15)], none⟩,
  ⟨some p14, .move, [(.tmp p16)], none⟩,
  ⟨some p17, (.extract 0), [(.tmp p14)], none⟩,
  ⟨some p18, (.extract 1), [(.tmp p14)], none⟩,
  ⟨some p2, .move, [(.tmp p17)], none⟩,
  ⟨some p3, .move, [(.tmp p18)], none⟩])
 (.seq (.seq (.drawn [
  ⟨0, ⟨some p19, .move, [(.tmp p2)], none⟩, .pure, []⟩,
  ⟨1, ⟨some p20, (.eql .ptr false), [(.tmp p19), (.const .pnil)], none⟩, (.read 0 0), [0]⟩,
  ⟨2, ⟨some p21, .move, [(.tmp p20)], none⟩, .pure, [1]⟩,
  ⟨3, ⟨some p22, .move, [(.tmp p3)], some (p21, false)⟩, .pure, [2]⟩,
  ⟨4, ⟨some p23, .call, [(.const (.fn 11 [] [])), (.tmp p22)], some (p21, false)⟩, .eff, [3, 2, 2]⟩,
  ⟨5, ⟨some p24, (.eql (.base .int) true), [(.tmp p23), (.const (.int .i64 (.ofNat 0)))], some (p21, false)⟩, (.read 1 1), [4, 2]⟩,
  ⟨6, ⟨some p25, .pick, [(.tmp p21), (.const (.bool true)), (.tmp p24)], none⟩, .pure, [2, 5]⟩,
  ⟨7, ⟨some p26, .move, [(.tmp p25)], none⟩, .pure, [6, 4]⟩,
  ⟨8, ⟨some p27, .move, [(.tmp p2)], some (p26, false)⟩, .pure, [7]⟩,
  ⟨9, ⟨some p28, .call, [(.const (.fn 5 [] [])), (.tmp p27)], some (p26, false)⟩, .eff, [8, 7, 7]⟩,
  ⟨10, ⟨some p29, (.load true 3), [(.tmp p1)], some (p26, false)⟩, (.read 1 2), [7]⟩,
  ⟨11, ⟨some p30, (.eql (.struct [(0, .int), (1, .int), (2, .int)]) true), [(.tmp p28), (.tmp p29)], some (p26, false)⟩, (.read 2 2), [9, 10, 7]⟩,
  ⟨12, ⟨some p31, .pick, [(.tmp p26), (.const (.bool true)), (.tmp p30)], none⟩, .pure, [7, 11]⟩])
 (.cond (.tmp p31)
 (.seq (.reg [
  ⟨some p0, .move, [(.const (.bool false))], none⟩])
 (.ret [.tmp p0]))
 .skip))
 (.seq (.reg [
  ⟨some p33, .move, [(.tmp p2)], none⟩,
  ⟨some p34, .call, [(.const (.fn 17 [] [])), (.tmp p33), (.const (.str [119, 111, 114, 107])), (.const (.str [])), (.const (.int .i64 (.ofNat 0))), (.const (.int .i64 (.ofNat 0)))], none⟩,
  ⟨some p32, .move, [(.tmp p34)], none⟩,
  ⟨some p35, (.extract 0), [(.tmp p32)], none⟩,
  ⟨some p36, (.extract 1), [(.tmp p32)], none⟩,
  ⟨some p4, (.alloc 75 [(.int .i64 (.ofNat 0)), (.int .i64 (.ofNat 0)), (.int .i64 (.ofNat 0)), (.int .i64 (.ofNat 0))]), [], none⟩,
  ⟨none, (.store 4), [(.tmp p4), (.tmp p35)], none⟩,
  ⟨some p3, .move, [(.tmp p36)], none⟩])
 (.seq (.reg [
  ⟨some p38, .move, [(.tmp p2)], none⟩,
  ⟨some p39, .call, [(.const (.fn 18 [] [])), (.tmp p38), (.const (.int .i64 (.ofNat 1))), (.const (.int .i64 (.ofNat 2))), (.const (.int .i64 (.ofNat 0))), (.const (.bool false)), (.const (.bool true))], none⟩,
  ⟨some p37, .move, [(.tmp p39)], none⟩,
  ⟨some p40, (.extract 0), [(.tmp p37)], none⟩,
  ⟨some p41, (.extract 1), [(.tmp p37)], none⟩,
  ⟨some p5, .move, [(.tmp p40)], none⟩,
  ⟨some p6, .move, [(.tmp p41)], none⟩])
 (.seq (.reg [
  ⟨some p43, .move, [(.tmp p2)], none⟩,
  ⟨some p44, .call, [(.const (.fn 19 [] [])), (.tmp p43), (.const (.int .i64 (.ofNat 2))), (.const (.str [97, 98, 99]))], none⟩,
  ⟨some p42, .move, [(.tmp p44)], none⟩,
  ⟨some p45, (.extract 0), [(.tmp p42)], none⟩,
  ⟨some p46, (.extract 1), [(.tmp p42)], none⟩,
  ⟨some p7, .move, [(.tmp p45)], none⟩,
  ⟨some p8, .move, [(.tmp p46)], none⟩])
 (.seq (.reg [
  ⟨some p47, .move, [(.tmp p2)], none⟩,
  ⟨some p48, .call, [(.const (.fn 7 [] [])), (.tmp p47)], none⟩,
  ⟨some p9, (.alloc 40 [.snil, .snil]), [], none⟩,
  ⟨none, (.store 2), [(.tmp p9), (.tmp p48)], none⟩])
 (.seq (.seq (.reg [
  ⟨some p49, .move, [(.tmp p3)], none⟩,
  ⟨some p50, .call, [(.const (.fn 11 [] [])), (.tmp p49)], none⟩,
  ⟨some p51, (.eql (.base .int) true), [(.tmp p50), (.const (.int .i64 (.ofNat 0)))], none⟩,
  ⟨some p52, .move, [(.tmp p51)], none⟩,
  ⟨some p53, .move, [(.tmp p6)], some (p52, false)⟩,
  ⟨some p54, .call, [(.const (.fn 11 [] [])), (.tmp p53)], some (p52, false)⟩,
  ⟨some p55, (.eql (.base .int) true), [(.tmp p54), (.const (.int .i64 (.ofNat 0)))], some (p52, false)⟩,
  ⟨some p56, .pick, [(.tmp p52), (.const (.bool true)), (.tmp p55)], none⟩,
  ⟨some p57, .move, [(.tmp p56)], none⟩,
  ⟨some p58, .move, [(.tmp p8)], some (p57, false)⟩,
  ⟨some p59, .call, [(.const (.fn 11 [] [])), (.tmp p58)], some (p57, false)⟩,
  ⟨some p60, (.eql (.base .int) true), [(.tmp p59), (.const (.int .i64 (.ofNat 0)))], some (p57, false)⟩,
  ⟨some p61, .pick, [(.tmp p57), (.const (.bool true)), (.tmp p60)], none⟩,
  ⟨some p62, .move, [(.tmp p61)], none⟩,
  ⟨some p63, .move, [(.tmp p5)], some (p62, false)⟩,
  ⟨some p64, (.eql (.base .int) true), [(.tmp p63), (.const (.int .i64 (.ofNat 2)))], some (p62, false)⟩,
  ⟨some p65, .pick, [(.tmp p62), (.const (.bool true)), (.tmp p64)], none⟩,
  ⟨some p66, .move, [(.tmp p65)], none⟩,
  ⟨some p67, .move, [(.tmp p7)], some (p66, false)⟩,
  ⟨some p68, (.eql (.base .int) true), [(.tmp p67), (.const (.int .i64 (.ofNat 0)))], some (p66, false)⟩,
  ⟨some p69, .pick, [(.tmp p66), (.const (.bool true)), (.tmp p68)], none⟩,
  ⟨some p70, .move, [(.tmp p69)], none⟩,
  ⟨some p71, (.load true 4), [(.tmp p4)], some (p70, false)⟩,
  ⟨some p72, (.build [(.int .i64 (.ofNat 0)), (.int .i64 (.ofNat 0)), (.int .i64 (.ofNat 0)), (.int .i64 (.ofNat 0))] [(0, 1), (1, 1), (2, 1), (3, 1)]), [(.const (.int .i64 (.ofNat 1))), (.const (.int .i64 (.ofNat 0))), (.const (.int .i64 (.ofNat 1))), (.const (.int .i64 (.ofNat 1)))], some (p70, false)⟩,
  ⟨some p73, (.eql (.struct [(0, .int), (1, .int), (2, .int), (3, .int)]) true), [(.tmp p71), (.tmp p72)], some (p70, false)⟩,
  ⟨some p74, .pick, [(.tmp p70), (.const (.bool true)), (.tmp p73)], none⟩])
 (.cond (.tmp p74)
 (.seq (.reg [
  ⟨some p0, .move, [(.const (.bool false))], none⟩])
 (.ret [.tmp p0]))
 .skip))
 (.seq (.seq (.reg [
  ⟨some p75, (.fieldAddr 0), [(.tmp p9)], none⟩,
  ⟨some p76, (.load false 1), [(.tmp p75)], none⟩,
  ⟨some p77, .lenL, [(.tmp p76)], none⟩,
  ⟨some p78, (.eql (.base .int) true), [(.tmp p77), (.const (.int .i64 (.ofNat 1)))], none⟩,
  ⟨some p79, .move, [(.tmp p78)], none⟩,
  ⟨some p80, (.fieldAddr 1), [(.tmp p9)], some (p79, false)⟩,
  ⟨some p81, (.load false 1), [(.tmp p80)], some (p79, false)⟩,
  ⟨some p82, .lenL, [(.tmp p81)], some (p79, false)⟩,
  ⟨some p83, (.eql (.base .int) true), [(.tmp p82), (.const (.int .i64 (.ofNat 1)))], some (p79, false)⟩,
  ⟨some p84, .pick, [(.tmp p79), (.const (.bool true)), (.tmp p83)], none⟩,
  ⟨some p85, .move, [(.tmp p84)], none⟩,
  ⟨some p86, (.fieldAddr 0), [(.tmp p9)], some (p85, false)⟩,
  ⟨some p87, (.load false 1), [(.tmp p86)], some (p85, false)⟩,
  ⟨some p88, (.idxSlice 5), [(.tmp p87), (.const (.int .i64 (.ofNat 0)))], some (p85, false)⟩,
  ⟨some p89, (.fieldAddr 1), [(.tmp p88)], some (p85, false)⟩,
  ⟨some p90, (.load false 1), [(.tmp p89)], some (p85, false)⟩,
  ⟨some p91, (.eql (.base .str) true), [(.tmp p90), (.const (.str [119, 111, 114, 107]))], some (p85, false)⟩,
  ⟨some p92, .pick, [(.tmp p85), (.const (.bool true)), (.tmp p91)], none⟩,
  ⟨some p93, .move, [(.tmp p92)], none⟩,
  ⟨some p94, (.fieldAddr 1), [(.tmp p9)], some (p93, false)⟩,
  ⟨some p95, (.load false 1), [(.tmp p94)], some (p93, false)⟩,
  ⟨some p96, (.idxSlice 6), [(.tmp p95), (.const (.int .i64 (.ofNat 0)))], some (p93, false)⟩,
  ⟨some p97, (.fieldAddr 3), [(.tmp p96)], some (p93, false)⟩,
  ⟨some p98, (.load false 1), [(.tmp p97)], some (p93, false)⟩,
  ⟨some p99, (.eql (.base .int) true), [(.tmp p98), (.const (.int .i64 (.ofNat 2)))], some (p93, false)⟩,
  ⟨some p100, .pick, [(.tmp p93), (.const (.bool true)), (.tmp p99)], none⟩,
  ⟨some p101, .move, [(.tmp p100)], none⟩,
  ⟨some p102, (.fieldAddr 1), [(.tmp p9)], some (p101, false)⟩,
  ⟨some p103, (.load false 1), [(.tmp p102)], some (p101, false)⟩,
  ⟨some p104, (.idxSlice 6), [(.tmp p103), (.const (.int .i64 (.ofNat 0)))], some (p101, false)⟩,
  ⟨some p105, (.fieldAddr 4), [(.tmp p104)], some (p101, false)⟩,
  ⟨some p106, (.load false 1), [(.tmp p105)], some (p101, false)⟩,
  ⟨some p107, (.eql (.base .int) true), [(.tmp p106), (.const (.int .i64 (.ofNat 1)))], some (p101, false)⟩,
  ⟨some p108, .pick, [(.tmp p101), (.const (.bool true)), (.tmp p107)], none⟩,
  ⟨some p109, .move, [(.tmp p108)], none⟩,
  ⟨some p110, (.fieldAddr 1), [(.tmp p9)], some (p109, false)⟩,
  ⟨some p111, (.load false 1), [(.tmp p110)], some (p109, false)⟩,
  ⟨some p112, (.idxSlice 6), [(.tmp p111), (.const (.int .i64 (.ofNat 0)))], some (p109, false)⟩,
  ⟨some p113, (.fieldAddr 2), [(.tmp p112)], some (p109, false)⟩,
  ⟨some p114, (.load false 1), [(.tmp p113)], some (p109, false)⟩,
  ⟨some p115, .lenL, [(.tmp p114)], some (p109, false)⟩,
  ⟨some p116, (.eql (.base .int) true), [(.tmp p115), (.const (.int .i64 (.ofNat 3)))], some (p109, false)⟩,
  ⟨some p117, .pick, [(.tmp p109), (.const (.bool true)), (.tmp p116)], none⟩])
 (.cond (.tmp p117)
 (.seq (.reg [
  ⟨some p0, .move, [(.const (.bool false))], none⟩])
 (.ret [.tmp p0]))
 .skip))
 (.seq (.reg [
  ⟨some p119, .move, [(.tmp p2)], none⟩,
  ⟨some p120, .call, [(.const (.fn 20 [] [])), (.tmp p119), (.const (.int .i64 (.ofNat 2))), (.const (.int .i64 (.ofNat 1))), (.const (.int .i64 (.ofNat 9)))], none⟩,
  ⟨some p118, .move, [(.tmp p120)], none⟩,
  ⟨some p121, (.extract 0), [(.tmp p118)], none⟩,
  ⟨some p122, (.extract 1), [(.tmp p118)], none⟩,
  ⟨some p123, (.extract 2), [(.tmp p118)], none⟩,
  ⟨some p10, .move, [(.tmp p121)], none⟩,
  ⟨some p11, .move, [(.tmp p122)], none⟩,
  ⟨some p12, .move, [(.tmp p123)], none⟩])
 (.seq (.reg [
  ⟨some p124, .move, [(.tmp p10)], none⟩,
  ⟨some p125, (.eql (.base .str) false), [(.tmp p124), (.const (.str [98, 99]))], none⟩,
  ⟨some p126, .move, [(.tmp p125)], none⟩,
  ⟨some p127, .move, [(.tmp p11)], some (p126, true)⟩,
  ⟨some p128, (.eql (.base .int) false), [(.tmp p127), (.const (.int .i64 (.ofNat 3)))], some (p126, true)⟩,
  ⟨some p129, .pick, [(.tmp p126), (.tmp p128), (.const (.bool false))], none⟩,
  ⟨some p130, .move, [(.tmp p129)], none⟩,
  ⟨some p131, .move, [(.tmp p12)], some (p130, true)⟩,
  ⟨some p132, .call, [(.const (.fn 11 [] [])), (.tmp p131)], some (p130, true)⟩,
  ⟨some p133, (.eql (.base .int) false), [(.tmp p132), (.const (.int .i64 (.ofNat 0)))], some (p130, true)⟩,
  ⟨some p134, .pick, [(.tmp p130), (.tmp p133), (.const (.bool false))], none⟩,
  ⟨some p0, .move, [(.tmp p134)], none⟩])
 (.ret [.tmp p0]))))))))))))),
 [.tmp p0]⟩
def F9 : IFn := ⟨1,
(.seq (.reg [
  ⟨some p1, (.box 23 3), [(.tmp p0)], none⟩,
  ⟨some p2, .move, [(.const .pnil)], none⟩,
  ⟨some p3, .move, [(.const (.int .i64 (.ofNat 0)))], none⟩])
 (.seq (.seq (.reg [
  ⟨some p4, (.fieldAddr 0), [(.tmp p1)], none⟩,
  ⟨some p5, (.load false 1), [(.tmp p4)], none⟩,
  ⟨some p6, .call, [(.const (.fn 21 [] [])), (.tmp p5)], none⟩,
  ⟨some p7, .not, [(.tmp p6)], none⟩,
  ⟨some p8, .move, [(.tmp p7)], none⟩,
  ⟨some p9, (.fieldAddr 1), [(.tmp p1)], some (p8, false)⟩,
  ⟨some p10, (.load false 1), [(.tmp p9)], some (p8, false)⟩,
  ⟨some p11, .call, [(.const (.fn 21 [] [])), (.tmp p10)], some (p8, false)⟩,
  ⟨some p12, .not, [(.tmp p11)], some (p8, false)⟩,
  ⟨some p13, .pick, [(.tmp p8), (.const (.bool true)), (.tmp p12)], none⟩,
  ⟨some p14, .move, [(.tmp p13)], none⟩,
  ⟨some p15, (.fieldAddr 2), [(.tmp p1)], some (p14, false)⟩,
  ⟨some p16, (.load false 1), [(.tmp p15)], some (p14, false)⟩,
  ⟨some p17, (.bin .lss), [(.tmp p16), (.const (.int .i64 (.ofNat 1)))], some (p14, false)⟩,
  ⟨some p18, .pick, [(.tmp p14), (.const (.bool true)), (.tmp p17)], none⟩,
  ⟨some p19, .move, [(.tmp p18)], none⟩,
  ⟨some p20, (.fieldAddr 2), [(.tmp p1)], some (p19, false)⟩,
  ⟨some p21, (.load false 1), [(.tmp p20)], some (p19, false)⟩,
  ⟨some p22, (.bin .gtr), [(.tmp p21), (.const (.int .i64 (.ofNat 65536)))], some (p19, false)⟩,
  ⟨some p23, .pick, [(.tmp p19), (.const (.bool true)), (.tmp p22)], none⟩])
 (.cond (.tmp p23)
 (.seq (.reg [
  ⟨some p2, .move, [(.const .pnil)], none⟩,
  ⟨some p3, .move, [(.const (.int .i64 (.ofNat 1)))], none⟩])
 (.ret [.tmp p2, .tmp p3]))
 .skip))
 (.seq (.drawn [
  ⟨0, ⟨some p24, (.load true 3), [(.tmp p1)], none⟩, (.read 0 3), []⟩,
  ⟨1, ⟨some p25, .call, [(.const (.fn 22 [] []))], none⟩, .eff, []⟩,
  ⟨2, ⟨some p26, .call, [(.const (.fn 23 [] []))], none⟩, .eff, [1]⟩,
  ⟨3, ⟨some p27, .call, [(.const (.fn 24 [] []))], none⟩, .eff, [2]⟩,
  ⟨4, ⟨some p28, (.build [(.int .i64 (.ofNat 0)), (.int .i64 (.ofNat 0)), (.int .i64 (.ofNat 0)), .pnil, .pnil, .pnil] [(0, 3), (3, 1), (4, 1), (5, 1)]), [(.tmp p24), (.tmp p25), (.tmp p26), (.tmp p27)], none⟩, .pure, [0, 1, 2, 3]⟩,
  ⟨5, ⟨some p29, (.box 54 6), [(.tmp p28)], none⟩, .eff, [4]⟩,
  ⟨6, ⟨some p2, .move, [(.tmp p29)], none⟩, .pure, [5, 3, 0, 1, 2, 3, 4, 5]⟩,
  ⟨7, ⟨some p3, .move, [(.const (.int .i64 (.ofNat 0)))], none⟩, .pure, [6, 0, 1, 2, 3, 4, 5, 6]⟩])
 (.ret [.tmp p2, .tmp p3])))),
 [.tmp p2, .tmp p3]⟩
def F10 : IFn := ⟨1,
(.seq (.reg [
  ⟨some p1, (.box 23 3), [(.tmp p0)], none⟩,
  ⟨some p2, (.alloc 33 [(.int .i64 (.ofNat 0)), (.int .i64 (.ofNat 0)), (.int .i64 (.ofNat 0)), .snil, .snil, .snil, (.int .i64 (.ofNat 0)), (.int .i64 (.ofNat 0)), (.int .i64 (.ofNat 0))]), [], none⟩,
  ⟨some p3, .move, [(.const (.int .i64 (.ofNat 0)))], none⟩])
 (.seq (.seq (.reg [
  ⟨some p4, (.fieldAddr 0), [(.tmp p1)], none⟩,
  ⟨some p5, (.load false 1), [(.tmp p4)], none⟩,
  ⟨some p6, (.bin .lss), [(.tmp p5), (.const (.int .i64 (.ofNat 1)))], none⟩,
  ⟨some p7, .move, [(.tmp p6)], none⟩,
  ⟨some p8, (.fieldAddr 0), [(.tmp p1)], some (p7, false)⟩,
  ⟨some p9, (.load false 1), [(.tmp p8)], some (p7, false)⟩,
  ⟨some p10, (.bin .gtr), [(.tmp p9), (.const (.int .i64 (.ofNat 1000)))], some (p7, false)⟩,
  ⟨some p11, .pick, [(.tmp p7), (.const (.bool true)), (.tmp p10)], none⟩,
  ⟨some p12, .move, [(.tmp p11)], none⟩,
  ⟨some p13, (.fieldAddr 1), [(.tmp p1)], some (p12, false)⟩,
  ⟨some p14, (.load false 1), [(.tmp p13)], some (p12, false)⟩,
  ⟨some p15, (.bin .lss), [(.tmp p14), (.const (.int .i64 (.ofNat 1)))], some (p12, false)⟩,
  ⟨some p16, .pick, [(.tmp p12), (.const (.bool true)), (.tmp p15)], none⟩,
  ⟨some p17, .move, [(.tmp p16)], none⟩,
  ⟨some p18, (.fieldAddr 1), [(.tmp p1)], some (p17, false)⟩,
  ⟨some p19, (.load false 1), [(.tmp p18)], some (p17, false)⟩,
  ⟨some p20, (.bin .gtr), [(.tmp p19), (.const (.int .i64 (.ofNat 1000)))], some (p17, false)⟩,
  ⟨some p21, .pick, [(.tmp p17), (.const (.bool true)), (.tmp p20)], none⟩,
  ⟨some p22, .move, [(.tmp p21)], none⟩,
  ⟨some p23, (.fieldAddr 2), [(.tmp p1)], some (p22, false)⟩,
  ⟨some p24, (.load false 1), [(.tmp p23)], some (p22, false)⟩,
  ⟨some p25, (.bin .lss), [(.tmp p24), (.const (.int .i64 (.ofNat 1)))], some (p22, false)⟩,
  ⟨some p26, .pick, [(.tmp p22), (.const (.bool true)), (.tmp p25)], none⟩,
  ⟨some p27, .move, [(.tmp p26)], none⟩,
  ⟨some p28, (.fieldAddr 2), [(.tmp p1)], some (p27, false)⟩,
  ⟨some p29, (.load false 1), [(.tmp p28)], some (p27, false)⟩,
  ⟨some p30, (.bin .gtr), [(.tmp p29), (.const (.int .i64 (.ofNat 65536)))], some (p27, false)⟩,
  ⟨some p31, .pick, [(.tmp p27), (.const (.bool true)), (.tmp p30)], none⟩])
 (.cond (.tmp p31)
 (.seq (.reg [
  ⟨some p32, (.build [(.int .i64 (.ofNat 0)), (.int .i64 (.ofNat 0)), (.int .i64 (.ofNat 0)), .snil, .snil, .snil, (.int .i64 (.ofNat 0)), (.int .i64 (.ofNat 0)), (.int .i64 (.ofNat 0))] []), [], none⟩,
  ⟨none, (.store 9), [(.tmp p2), (.tmp p32)], none⟩,
  ⟨some p3, .move, [(.const (.int .i64 (.ofNat 1)))], none⟩])
 (.ret [.cell p2 true 9, .tmp p3]))
 .skip))
 (.seq (.reg [
  ⟨some p33, (.load true 3), [(.tmp p1)], none⟩,
  ⟨some p34, (.build [(.int .i64 (.ofNat 0)), (.int .i64 (.ofNat 0)), (.int .i64 (.ofNat 0)), .snil, .snil, .snil, (.int .i64 (.ofNat 0)), (.int .i64 (.ofNat 0)), (.int .i64 (.ofNat 0))] [(0, 3)]), [(.tmp p33)], none⟩,
  ⟨none, (.store 9), [(.tmp p2), (.tmp p34)], none⟩,
  ⟨some p3, .move, [(.const (.int .i64 (.ofNat 0)))], none⟩])
 (.ret [.cell p2 true 9, .tmp p3])))),
 [.cell p2 true 9, .tmp p3]⟩
def F11 : IFn := ⟨1,
(.seq (.reg [
  ⟨some p2, .move, [(.const (.int .i64 (.ofNat 0)))], none⟩])
 (.seq (.reg [
  ⟨some p3, .move, [(.tmp p0)], none⟩,
  ⟨some p2, .move, [(.tmp p3)], none⟩])
 (.ret [.tmp p2]))),
 [.tmp p2]⟩
def F12 : IFn := ⟨2,
(.seq (.reg [
  ⟨some p4, .move, [(.const (.bool false))], none⟩])
 (.seq (.seq (.reg [
  ⟨some p6, .move, [(.tmp p0)], none⟩,
  ⟨some p7, .lenL, [(.tmp p6)], none⟩,
  ⟨some p8, .move, [(.tmp p1)], none⟩,
  ⟨some p9, .lenL, [(.tmp p8)], none⟩,
  ⟨some p10, (.eql (.base .int) true), [(.tmp p7), (.tmp p9)], none⟩])
 (.cond (.tmp p10)
 (.seq (.reg [
  ⟨some p4, .move, [(.const (.bool false))], none⟩])
 (.ret [.tmp p4]))
 .skip))
 (.seq (.seq (.reg [
  ⟨some p5, .move, [(.const (.int .i64 (.ofNat 0)))], none⟩])
 (.block 0 [] (.loop [p0, p1, p5] (.seq (.seq (.reg [
  ⟨some p11, .move, [(.tmp p5)], none⟩,
  ⟨some p12, .move, [(.tmp p0)], none⟩,
  ⟨some p13, .lenL, [(.tmp p12)], none⟩,
  ⟨some p14, (.bin .lss), [(.tmp p11), (.tmp p13)], none⟩])
 (.cond (.tmp p14)
 .skip
 (.exit 0 [])))
 (.seq (.block 1 [p0, p1, p5] (.seq (.drawn [
  ⟨0, ⟨some p17, .move, [(.tmp p0)], none⟩, .pure, []⟩,
  ⟨1, ⟨some p18, .move, [(.tmp p5)], none⟩, .pure, []⟩,
  ⟨2, ⟨some p19, (.idxSlice 7), [(.tmp p17), (.tmp p18)], none⟩, .pure, [0, 1]⟩,
  ⟨3, ⟨some p20, (.load true 7), [(.tmp p19)], none⟩, (.read 0 0), [2]⟩,
  ⟨4, ⟨some p21, .move, [(.tmp p1)], none⟩, .pure, []⟩,
  ⟨5, ⟨some p22, .move, [(.tmp p5)], none⟩, .pure, []⟩,
  ⟨6, ⟨some p23, (.idxSlice 7), [(.tmp p21), (.tmp p22)], none⟩, .pure, [4, 5]⟩,
  ⟨7, ⟨some p24, (.load true 7), [(.tmp p23)], none⟩, (.read 0 0), [6]⟩,
  ⟨8, ⟨some p25, (.eql (.struct [(0, .int), (1, .int), (2, .int), (3, .int), (4, .int), (5, .int), (6, .int)]) true), [(.tmp p20), (.tmp p24)], none⟩, (.read 0 0), [3, 7]⟩])
 (.cond (.tmp p25)
 (.seq (.reg [
  ⟨some p4, .move, [(.const (.bool false))], none⟩])
 (.ret [.tmp p4]))
 .skip)))
 (.reg [
  ⟨some p15, .move, [(.tmp p5)], none⟩,
  ⟨some p16, (.bin .add), [(.tmp p15), (.const (.int .i64 (.ofNat 1)))], none⟩,
  ⟨some p5, .move, [(.tmp p16)], none⟩]))))))
 (.seq (.reg [
  ⟨some p4, .move, [(.const (.bool true))], none⟩])
 (.ret [.tmp p4]))))),
 [.tmp p4]⟩
def F14 : IFn := ⟨2,
(.seq (.reg [
  ⟨some p4, .move, [(.const .pnil)], none⟩])
 (.seq (.reg [
  ⟨some p5, .move, [(.tmp p0)], none⟩,
  ⟨some p6, .nilCheck, [(.tmp p5)], none⟩,
  ⟨some p7, (.fieldAddr 0), [(.tmp p6)], none⟩,
  ⟨some p8, (.load false 1), [(.tmp p7)], none⟩,
  ⟨some p9, .move, [(.tmp p1)], none⟩,
  ⟨some p10, (.lookup false .pnil false), [(.tmp p8), (.tmp p9)], none⟩,
  ⟨some p4, .move, [(.tmp p10)], none⟩])
 (.ret [.tmp p4]))),
 [.tmp p4]⟩
def F16 : IFn := ⟨2,
(.seq (.reg [
  ⟨some p4, .move, [(.const .pnil)], none⟩])
 (.seq (.reg [
  ⟨some p5, .move, [(.tmp p0)], none⟩,
  ⟨some p6, .nilCheck, [(.tmp p5)], none⟩,
  ⟨some p7, (.fieldAddr 0), [(.tmp p6)], none⟩,
  ⟨some p8, (.load false 1), [(.tmp p7)], none⟩,
  ⟨some p9, .move, [(.tmp p1)], none⟩,
  ⟨some p10, (.lookup false .pnil false), [(.tmp p8), (.tmp p9)], none⟩,
  ⟨some p4, .move, [(.tmp p10)], none⟩])
 (.ret [.tmp p4]))),
 [.tmp p4]⟩
def F17 : IFn := ⟨5,
(.seq (.reg [
  ⟨some p10, (.alloc 75 [(.int .i64 (.ofNat 0)), (.int .i64 (.ofNat 0)), (.int .i64 (.ofNat 0)), (.int .i64 (.ofNat 0))]), [], none⟩,
  ⟨some p11, .move, [(.const (.int .i64 (.ofNat 0)))], none⟩])
 (.seq (.reg [
  ⟨some p15, .move, [(.tmp p0)], none⟩,
  ⟨some p16, .nilCheck, [(.tmp p15)], none⟩,
  ⟨some p17, (.fieldAddr 3), [(.tmp p16)], none⟩,
  ⟨some p18, (.load false 1), [(.tmp p17)], none⟩,
  ⟨some p19, .call, [(.const (.fn 26 [] [])), (.tmp p18)], none⟩,
  ⟨some p12, .move, [(.tmp p19)], none⟩])
 (.seq (.block 0 [p0, p1, p2, p3, p4, p10, p12] (.seq (.reg [
  ⟨some p21, .move, [(.tmp p1)], none⟩,
  ⟨some p22, .call, [(.const (.fn 27 [] [])), (.tmp p21)], none⟩,
  ⟨some p23, .not, [(.tmp p22)], none⟩,
  ⟨some p24, .move, [(.tmp p23)], none⟩,
  ⟨some p25, .move, [(.tmp p2)], some (p24, false)⟩,
  ⟨some p26, .call, [(.const (.fn 27 [] [])), (.tmp p25)], some (p24, false)⟩,
  ⟨some p27, .not, [(.tmp p26)], some (p24, false)⟩,
  ⟨some p28, .pick, [(.tmp p24), (.const (.bool true)), (.tmp p27)], none⟩,
  ⟨some p20, .move, [(.tmp p28)], none⟩])
 (.cond (.tmp p20)
 (.seq (.reg [
  ⟨some p29, (.build [(.int .i64 (.ofNat 0)), (.int .i64 (.ofNat 0)), (.int .i64 (.ofNat 0)), (.int .i64 (.ofNat 0))] []), [], none⟩,
  ⟨none, (.store 4), [(.tmp p10), (.tmp p29)], none⟩,
  ⟨some p11, .move, [(.const (.int .i64 (.ofNat 73)))], none⟩])
 (.ret [.cell p10 true 4, .tmp p11]))
 (.seq (.reg [
  ⟨some p31, .move, [(.tmp p3)], none⟩,
  ⟨some p32, (.eql (.base .int) true), [(.tmp p31), (.const (.int .i64 (.ofNat 0)))], none⟩,
  ⟨some p33, .move, [(.tmp p32)], none⟩,
  ⟨some p34, .move, [(.tmp p3)], some (p33, true)⟩,
  ⟨some p35, .call, [(.const (.fn 21 [] [])), (.tmp p34)], some (p33, true)⟩,
  ⟨some p36, .not, [(.tmp p35)], some (p33, true)⟩,
  ⟨some p37, .pick, [(.tmp p33), (.tmp p36), (.const (.bool false))], none⟩,
  ⟨some p38, .move, [(.tmp p37)], none⟩,
  ⟨some p39, .move, [(.tmp p4)], some (p38, false)⟩,
  ⟨some p40, (.eql (.base .int) true), [(.tmp p39), (.const (.int .i64 (.ofNat 0)))], some (p38, false)⟩,
  ⟨some p41, .move, [(.tmp p40)], some (p38, false)⟩,
  ⟨some p42, .move, [(.tmp p4)], some (p41, true)⟩,
  ⟨some p43, .call, [(.const (.fn 21 [] [])), (.tmp p42)], some (p41, true)⟩,
  ⟨some p44, .not, [(.tmp p43)], some (p41, true)⟩,
  ⟨some p45, .pick, [(.tmp p41), (.tmp p44), (.const (.bool false))], some (p38, false)⟩,
  ⟨some p46, .pick, [(.tmp p38), (.const (.bool true)), (.tmp p45)], none⟩,
  ⟨some p30, .move, [(.tmp p46)], none⟩])
 (.cond (.tmp p30)
 (.seq (.reg [
  ⟨some p47, (.build [(.int .i64 (.ofNat 0)), (.int .i64 (.ofNat 0)), (.int .i64 (.ofNat 0)), (.int .i64 (.ofNat 0))] []), [], none⟩,
  ⟨none, (.store 4), [(.tmp p10), (.tmp p47)], none⟩,
  ⟨some p11, .move, [(.const (.int .i64 (.ofNat 41)))], none⟩])
 (.ret [.cell p10 true 4, .tmp p11]))
 (.seq (.reg [
  ⟨some p49, .move, [(.tmp p0)], none⟩,
  ⟨some p50, .call, [(.const (.fn 28 [] [])), (.tmp p49), (.const (.int .i64 (.ofNat 1))), (.const (.int .i64 (.ofNat 1))), (.const (.int .i64 (.ofNat 1))), (.const (.int .i64 (.ofNat 1)))], none⟩,
  ⟨some p51, .not, [(.tmp p50)], none⟩,
  ⟨some p48, .move, [(.tmp p51)], none⟩])
 (.cond (.tmp p48)
 (.seq (.reg [
  ⟨some p52, (.build [(.int .i64 (.ofNat 0)), (.int .i64 (.ofNat 0)), (.int .i64 (.ofNat 0)), (.int .i64 (.ofNat 0))] []), [], none⟩,
  ⟨none, (.store 4), [(.tmp p10), (.tmp p52)], none⟩,
  ⟨some p11, .move, [(.const (.int .i64 (.ofNat 3)))], none⟩])
 (.ret [.cell p10 true 4, .tmp p11]))
 .skip)))))))
 (.seq (.seq (.reg [
  ⟨some p53, .move, [(.tmp p1)], none⟩,
  ⟨some p54, (.eql (.base .str) false), [(.tmp p53), (.const (.str []))], none⟩])
 (.cond (.tmp p54)
 (.reg [
  ⟨some p55, .move, [(.tmp p12)], none⟩,
  ⟨some p56, .call, [(.const (.fn 29 [] [])), (.tmp p55)], none⟩,
  ⟨some p1, .move, [(.tmp p56)], none⟩])
 .skip))
 (.seq (.seq (.reg [
  ⟨some p57, .move, [(.tmp p0)], none⟩,
  ⟨some p58, .move, [(.tmp p1)], none⟩,
  ⟨some p59, .call, [(.const (.fn 30 [] [])), (.tmp p57), (.tmp p58), (.const (.int .i64 (.ofNat 0)))], none⟩])
 (.cond (.tmp p59)
 (.seq (.reg [
  ⟨some p60, (.build [(.int .i64 (.ofNat 0)), (.int .i64 (.ofNat 0)), (.int .i64 (.ofNat 0)), (.int .i64 (.ofNat 0))] []), [], none⟩,
  ⟨none, (.store 4), [(.tmp p10), (.tmp p60)], none⟩,
  ⟨some p11, .move, [(.const (.int .i64 (.ofNat 74)))], none⟩])
 (.ret [.cell p10 true 4, .tmp p11]))
 .skip))
 (.seq (.seq (.reg [
  ⟨some p61, .move, [(.tmp p3)], none⟩,
  ⟨some p62, (.eql (.base .int) false), [(.tmp p61), (.const (.int .i64 (.ofNat 0)))], none⟩])
 (.cond (.tmp p62)
 (.reg [
  ⟨some p63, .move, [(.tmp p0)], none⟩,
  ⟨some p64, .nilCheck, [(.tmp p63)], none⟩,
  ⟨some p65, (.fieldAddr 0), [(.tmp p64)], none⟩,
  ⟨some p66, (.fieldAddr 0), [(.tmp p65)], none⟩,
  ⟨some p67, (.load false 1), [(.tmp p66)], none⟩,
  ⟨some p3, .move, [(.tmp p67)], none⟩])
 .skip))
 (.seq (.seq (.reg [
  ⟨some p68, .move, [(.tmp p4)], none⟩,
  ⟨some p69, (.eql (.base .int) false), [(.tmp p68), (.const (.int .i64 (.ofNat 0)))], none⟩])
 (.cond (.tmp p69)
 (.reg [
  ⟨some p70, .move, [(.tmp p0)], none⟩,
  ⟨some p71, .nilCheck, [(.tmp p70)], none⟩,
  ⟨some p72, (.fieldAddr 0), [(.tmp p71)], none⟩,
  ⟨some p73, (.fieldAddr 1), [(.tmp p72)], none⟩,
  ⟨some p74, (.load false 1), [(.tmp p73)], none⟩,
  ⟨some p4, .move, [(.tmp p74)], none⟩])
 .skip))
 (.seq (.reg [
  ⟨some p75, .move, [(.tmp p0)], none⟩,
  ⟨some p76, .move, [(.tmp p2)], none⟩,
  ⟨some p77, .move, [(.tmp p3)], none⟩,
  ⟨some p78, .move, [(.tmp p4)], none⟩,
  ⟨some p79, .call, [(.const (.fn 31 [] [])), (.tmp p75), (.tmp p76), (.tmp p77), (.tmp p78), (.const (.int .i64 (.ofNat 0)))], none⟩,
  ⟨some p13, .move, [(.tmp p79)], none⟩])
 (.seq (.reg [
  ⟨some p80, .move, [(.tmp p1)], none⟩,
  ⟨some p81, .move, [(.tmp p13)], none⟩,
  ⟨some p82, .nilCheck, [(.tmp p81)], none⟩,
  ⟨some p83, (.fieldAddr 0), [(.tmp p82)], none⟩,
  ⟨some p84, (.load false 1), [(.tmp p83)], none⟩,
  ⟨some p85, (.build [(.int .i64 (.ofNat 0)), (.int .i64 (.ofNat 0))] [(0, 1), (1, 1)]), [(.const (.int .i64 (.ofNat 0))), (.tmp p84)], none⟩,
  ⟨some p86, (.buildSlice 59 2 [(.int .i64 (.ofNat 0)), (.int .i64 (.ofNat 0))] 1 [(0, 2)]), [(.tmp p85)], none⟩,
  ⟨some p87, (.build [(.int .i64 (.ofNat 0)), (.str []), .snil, (.int .i64 (.ofNat 0)), (.int .i64 (.ofNat 0))] [(1, 1), (2, 1), (4, 1)]), [(.tmp p80), (.tmp p86), (.const (.int .i64 (.negSucc 0)))], none⟩,
  ⟨some p88, (.box 67 5), [(.tmp p87)], none⟩,
  ⟨some p14, .move, [(.tmp p88)], none⟩])
 (.seq (.reg [
  ⟨some p89, .move, [(.tmp p14)], none⟩,
  ⟨some p90, .move, [(.tmp p0)], none⟩,
  ⟨some p91, .nilCheck, [(.tmp p90)], none⟩,
  ⟨some p92, (.fieldAddr 3), [(.tmp p91)], none⟩,
  ⟨some p93, (.load false 1), [(.tmp p92)], none⟩,
  ⟨some p94, .move, [(.tmp p14)], none⟩,
  ⟨some p95, .call, [(.const (.fn 32 [] [])), (.tmp p93), (.tmp p94)], none⟩,
  ⟨some p96, .nilCheck, [(.tmp p89)], none⟩,
  ⟨some p97, (.fieldAddr 0), [(.tmp p96)], none⟩,
  ⟨none, (.store 1), [(.tmp p97), (.tmp p95)], none⟩])
 (.seq (.drawn [
  ⟨0, ⟨some p98, .move, [(.tmp p14)], none⟩, .pure, []⟩,
  ⟨1, ⟨some p99, .nilCheck, [(.tmp p98)], none⟩, .pure, [0]⟩,
  ⟨2, ⟨some p100, (.fieldAddr 0), [(.tmp p99)], none⟩, .pure, [1]⟩,
  ⟨3, ⟨some p101, (.load false 1), [(.tmp p100)], none⟩, (.read 0 0), [2]⟩,
  ⟨4, ⟨some p102, .move, [(.tmp p13)], none⟩, .pure, []⟩,
  ⟨5, ⟨some p103, .nilCheck, [(.tmp p102)], none⟩, .pure, [4]⟩,
  ⟨6, ⟨some p104, (.fieldAddr 0), [(.tmp p103)], none⟩, .pure, [5]⟩,
  ⟨7, ⟨some p105, (.load false 1), [(.tmp p104)], none⟩, (.read 0 0), [6]⟩,
  ⟨8, ⟨some p106, .move, [(.tmp p13)], none⟩, .pure, []⟩,
  ⟨9, ⟨some p107, .nilCheck, [(.tmp p106)], none⟩, .pure, [8]⟩,
  ⟨10, ⟨some p108, (.fieldAddr 3), [(.tmp p107)], none⟩, .pure, [9]⟩,
  ⟨11, ⟨some p109, (.load false 1), [(.tmp p108)], none⟩, (.read 0 0), [10]⟩,
  ⟨12, ⟨some p110, (.build [(.int .i64 (.ofNat 0)), (.int .i64 (.ofNat 0)), (.int .i64 (.ofNat 0)), (.int .i64 (.ofNat 0))] [(0, 1), (2, 1), (3, 1)]), [(.tmp p101), (.tmp p105), (.tmp p109)], none⟩, .pure, [3, 7, 11]⟩,
  ⟨13, ⟨none, (.store 4), [(.tmp p10), (.tmp p110)], none⟩, .eff, [12, 0, 1, 2, 3, 4, 5, 6, 7, 8, 9, 10, 11, 12]⟩,
  ⟨14, ⟨some p11, .move, [(.const (.int .i64 (.ofNat 0)))], none⟩, .pure, [13, 0, 1, 2, 3, 4, 5, 6, 7, 8, 9, 10, 11, 12, 13]⟩])
 (.ret [.cell p10 true 4, .tmp p11])))))))))))),
 [.cell p10 true 4, .tmp p11]⟩
def F18 : IFn := ⟨6,
(.seq (.reg [
  ⟨some p12, .move, [(.const (.int .i64 (.ofNat 0)))], none⟩,
  ⟨some p13, .move, [(.const (.int .i64 (.ofNat 0)))], none⟩])
 (.seq (.reg [
  ⟨some p18, .move, [(.tmp p0)], none⟩,
  ⟨some p19, .move, [(.tmp p1)], none⟩,
  ⟨some p20, .call, [(.const (.fn 33 [] [])), (.tmp p18), (.tmp p19)], none⟩,
  ⟨some p14, .move, [(.tmp p20)], none⟩])
 (.seq (.seq (.reg [
  ⟨some p21, .move, [(.tmp p14)], none⟩,
  ⟨some p22, (.eql .ptr false), [(.tmp p21), (.const .pnil)], none⟩])
 (.cond (.tmp p22)
 (.seq (.reg [
  ⟨some p12, .move, [(.const (.int .i64 (.ofNat 0)))], none⟩,
  ⟨some p13, .move, [(.const (.int .i64 (.ofNat 42)))], none⟩])
 (.ret [.tmp p12, .tmp p13]))
 .skip))
 (.seq (.seq (.reg [
  ⟨some p23, .move, [(.tmp p0)], none⟩,
  ⟨some p24, .call, [(.const (.fn 28 [] [])), (.tmp p23), (.const (.int .i64 (.ofNat 0))), (.const (.int .i64 (.ofNat 0))), (.const (.int .i64 (.ofNat 1))), (.const (.int .i64 (.ofNat 0)))], none⟩,
  ⟨some p25, .not, [(.tmp p24)], none⟩])
 (.cond (.tmp p25)
 (.seq (.reg [
  ⟨some p12, .move, [(.const (.int .i64 (.ofNat 0)))], none⟩,
  ⟨some p13, .move, [(.const (.int .i64 (.ofNat 3)))], none⟩])
 (.ret [.tmp p12, .tmp p13]))
 .skip))
 (.seq (.drawn [
  ⟨0, ⟨some p27, .move, [(.tmp p14)], none⟩, .pure, []⟩,
  ⟨1, ⟨some p28, .nilCheck, [(.tmp p27)], none⟩, .pure, [0]⟩,
  ⟨2, ⟨some p29, (.fieldAddr 2), [(.tmp p28)], none⟩, .pure, [1]⟩,
  ⟨3, ⟨some p30, (.load false 1), [(.tmp p29)], none⟩, (.read 0 1), [2]⟩,
  ⟨4, ⟨some p31, .move, [(.tmp p1)], none⟩, .pure, []⟩,
  ⟨5, ⟨some p32, .move, [(.tmp p2)], none⟩, .pure, []⟩,
  ⟨6, ⟨some p33, .move, [(.tmp p3)], none⟩, .pure, []⟩,
  ⟨7, ⟨some p34, .move, [(.tmp p4)], none⟩, .pure, []⟩,
  ⟨8, ⟨some p35, .move, [(.tmp p0)], none⟩, .pure, []⟩,
  ⟨9, ⟨some p36, .nilCheck, [(.tmp p35)], none⟩, .pure, [8]⟩,
  ⟨10, ⟨some p37, (.fieldAddr 5), [(.tmp p36)], none⟩, .pure, [9]⟩,
  ⟨11, ⟨some p38, (.load false 1), [(.tmp p37)], none⟩, (.read 0 0), [10]⟩,
  ⟨12, ⟨some p39, .call, [(.const (.fn 35 [] [])), (.tmp p38)], none⟩, .eff, [11]⟩,
  ⟨13, ⟨some p40, .call, [(.const (.fn 34 [] [])), (.tmp p30), (.tmp p31), (.tmp p32), (.tmp p33), (.tmp p34), (.tmp p39)], none⟩, .eff, [3, 4, 5, 6, 7, 12, 12]⟩,
  ⟨14, ⟨some p26, .move, [(.tmp p40)], none⟩, .pure, [13]⟩,
  ⟨15, ⟨some p41, (.extract 0), [(.tmp p26)], none⟩, .pure, [14]⟩,
  ⟨16, ⟨some p42, (.extract 1), [(.tmp p26)], none⟩, .pure, [14]⟩,
  ⟨17, ⟨some p15, .move, [(.tmp p41)], none⟩, .pure, [15, 13, 0, 1, 2, 3, 4, 5, 6, 7, 8, 9, 10, 11, 12, 13, 14, 15]⟩,
  ⟨18, ⟨some p16, .move, [(.tmp p42)], none⟩, .pure, [16, 17, 0, 1, 2, 3, 4, 5, 6, 7, 8, 9, 10, 11, 12, 13, 14, 15, 16, 17]⟩])
 (.seq (.seq (.reg [
  ⟨some p43, .move, [(.tmp p16)], none⟩,
  ⟨some p44, (.eql (.base .int) true), [(.tmp p43), (.const (.int .i64 (.ofNat 0)))], none⟩])
 (.cond (.tmp p44)
 (.seq (.reg [
  ⟨some p45, .move, [(.tmp p16)], none⟩,
  ⟨some p12, .move, [(.const (.int .i64 (.ofNat 0)))], none⟩,
  ⟨some p13, .move, [(.tmp p45)], none⟩])
 (.ret [.tmp p12, .tmp p13]))
 .skip))
 (.seq (.reg [
  ⟨some p46, .move, [(.tmp p14)], none⟩,
  ⟨some p47, .move, [(.tmp p15)], none⟩,
  ⟨some p48, .nilCheck, [(.tmp p46)], none⟩,
  ⟨some p49, (.fieldAddr 2), [(.tmp p48)], none⟩,
  ⟨none, (.store 1), [(.tmp p49), (.tmp p47)], none⟩])
 (.seq (.reg [
  ⟨some p50, .move, [(.tmp p14)], none⟩,
  ⟨some p51, .nilCheck, [(.tmp p50)], none⟩,
  ⟨some p52, (.fieldAddr 5), [(.tmp p51)], none⟩,
  ⟨none, (.store 1), [(.tmp p52), (.const (.bool false))], none⟩])
 (.seq (.reg [
  ⟨some p53, .move, [(.tmp p0)], none⟩,
  ⟨some p54, .move, [(.tmp p14)], none⟩,
  ⟨some p55, .nilCheck, [(.tmp p54)], none⟩,
  ⟨some p56, (.fieldAddr 0), [(.tmp p55)], none⟩,
  ⟨some p57, (.load false 1), [(.tmp p56)], none⟩,
  ⟨some p58, .call, [(.const (.fn 36 [] [])), (.tmp p53), (.tmp p57)], none⟩,
  ⟨some p17, .move, [(.tmp p58)], none⟩])
 (.seq (.seq (.reg [
  ⟨some p59, .move, [(.tmp p5)], none⟩])
 (.cond (.tmp p59)
 (.reg [
  ⟨some p60, .move, [(.tmp p14)], none⟩,
  ⟨some p61, .move, [(.tmp p17)], none⟩,
  ⟨some p62, .call, [(.const (.fn 37 [] [])), (.tmp p60), (.tmp p61)], none⟩])
 .skip))
 (.seq (.reg [
  ⟨some p63, .move, [(.tmp p17)], none⟩,
  ⟨some p12, .move, [(.tmp p63)], none⟩,
  ⟨some p13, .move, [(.const (.int .i64 (.ofNat 0)))], none⟩])
 (.ret [.tmp p12, .tmp p13])))))))))))),
 [.tmp p12, .tmp p13]⟩
def F19 : IFn := ⟨3,
(.seq (.reg [
  ⟨some p6, .move, [(.const (.int .i64 (.ofNat 0)))], none⟩,
  ⟨some p7, .move, [(.const (.int .i64 (.ofNat 0)))], none⟩])
 (.seq (.reg [
  ⟨some p11, .move, [(.tmp p0)], none⟩,
  ⟨some p12, .nilCheck, [(.tmp p11)], none⟩,
  ⟨some p13, (.fieldAddr 5), [(.tmp p12)], none⟩,
  ⟨some p14, (.load false 1), [(.tmp p13)], none⟩,
  ⟨some p15, .move, [(.tmp p1)], none⟩,
  ⟨some p16, .call, [(.const (.fn 38 [] [])), (.tmp p14), (.tmp p15)], none⟩,
  ⟨some p8, .move, [(.tmp p16)], none⟩])
 (.seq (.seq (.reg [
  ⟨some p17, .move, [(.tmp p8)], none⟩,
  ⟨some p18, (.eql .ptr false), [(.tmp p17), (.const .pnil)], none⟩])
 (.cond (.tmp p18)
 (.seq (.reg [
  ⟨some p6, .move, [(.const (.int .i64 (.ofNat 0)))], none⟩,
  ⟨some p7, .move, [(.const (.int .i64 (.ofNat 42)))], none⟩])
 (.ret [.tmp p6, .tmp p7]))
 .skip))
 (.seq (.reg [
  ⟨some p19, .move, [(.tmp p8)], none⟩,
  ⟨some p20, .nilCheck, [(.tmp p19)], none⟩,
  ⟨some p21, (.fieldAddr 2), [(.tmp p20)], none⟩,
  ⟨some p22, (.load false 1), [(.tmp p21)], none⟩,
  ⟨some p23, .call, [(.const (.fn 39 [] [])), (.tmp p22)], none⟩,
  ⟨some p9, .move, [(.tmp p23)], none⟩])
 (.seq (.seq (.reg [
  ⟨some p24, .move, [(.tmp p8)], none⟩,
  ⟨some p25, .nilCheck, [(.tmp p24)], none⟩,
  ⟨some p26, (.fieldAddr 2), [(.tmp p25)], none⟩,
  ⟨some p27, (.load false 1), [(.tmp p26)], none⟩,
  ⟨some p28, .move, [(.tmp p2)], none⟩,
  ⟨some p29, .call, [(.const (.fn 40 [] [])), (.tmp p27), (.tmp p28)], none⟩,
  ⟨some p10, .move, [(.tmp p29)], none⟩])
 (.seq (.reg [
  ⟨some p30, .move, [(.tmp p10)], none⟩,
  ⟨some p31, (.eql (.base .int) true), [(.tmp p30), (.const (.int .i64 (.ofNat 0)))], none⟩])
 (.cond (.tmp p31)
 (.seq (.reg [
  ⟨some p32, .move, [(.tmp p10)], none⟩,
  ⟨some p6, .move, [(.const (.int .i64 (.ofNat 0)))], none⟩,
  ⟨some p7, .move, [(.tmp p32)], none⟩])
 (.ret [.tmp p6, .tmp p7]))
 .skip)))
 (.seq (.reg [
  ⟨some p33, .move, [(.tmp p9)], none⟩,
  ⟨some p6, .move, [(.tmp p33)], none⟩,
  ⟨some p7, .move, [(.const (.int .i64 (.ofNat 0)))], none⟩])
 (.ret [.tmp p6, .tmp p7]))))))),
 [.tmp p6, .tmp p7]⟩
def F20 : IFn := ⟨4,
(.seq (.reg [
  ⟨some p8, .move, [(.const (.str []))], none⟩,
  ⟨some p9, .move, [(.const (.int .i64 (.ofNat 0)))], none⟩,
  ⟨some p10, .move, [(.const (.int .i64 (.ofNat 0)))], none⟩])
 (.seq (.reg [
  ⟨some p12, .move, [(.tmp p0)], none⟩,
  ⟨some p13, .nilCheck, [(.tmp p12)], none⟩,
  ⟨some p14, (.fieldAddr 5), [(.tmp p13)], none⟩,
  ⟨some p15, (.load false 1), [(.tmp p14)], none⟩,
  ⟨some p16, .move, [(.tmp p1)], none⟩,
  ⟨some p17, .call, [(.const (.fn 38 [] [])), (.tmp p15), (.tmp p16)], none⟩,
  ⟨some p11, .move, [(.tmp p17)], none⟩])
 (.seq (.seq (.reg [
  ⟨some p18, .move, [(.tmp p11)], none⟩,
  ⟨some p19, (.eql .ptr false), [(.tmp p18), (.const .pnil)], none⟩])
 (.cond (.tmp p19)
 (.seq (.reg [
  ⟨some p8, .move, [(.const (.str []))], none⟩,
  ⟨some p9, .move, [(.const (.int .i64 (.ofNat 0)))], none⟩,
  ⟨some p10, .move, [(.const (.int .i64 (.ofNat 42)))], none⟩])
 (.ret [.tmp p8, .tmp p9, .tmp p10]))
 .skip))
 (.seq (.reg [
  ⟨some p20, .move, [(.tmp p11)], none⟩,
  ⟨some p21, .nilCheck, [(.tmp p20)], none⟩,
  ⟨some p22, (.fieldAddr 2), [(.tmp p21)], none⟩,
  ⟨some p23, (.load false 1), [(.tmp p22)], none⟩,
  ⟨some p24, .move, [(.tmp p2)], none⟩,
  ⟨some p25, .move, [(.tmp p3)], none⟩,
  ⟨some p26, .call, [(.const (.fn 41 [] [])), (.tmp p23), (.tmp p24), (.tmp p25)], none⟩,
  ⟨some p27, (.extract 0), [(.tmp p26)], none⟩,
  ⟨some p28, (.extract 1), [(.tmp p26)], none⟩,
  ⟨some p29, (.extract 2), [(.tmp p26)], none⟩,
  ⟨some p8, .move, [(.tmp p27)], none⟩,
  ⟨some p9, .move, [(.tmp p28)], none⟩,
  ⟨some p10, .move, [(.tmp p29)], none⟩])
 (.ret [.tmp p8, .tmp p9, .tmp p10]))))),
 [.tmp p8, .tmp p9, .tmp p10]⟩
def F21 : IFn := ⟨1,
(.seq (.reg [
  ⟨some p2, .move, [(.const (.bool false))], none⟩])
 (.seq (.reg [
  ⟨some p3, .move, [(.tmp p0)], none⟩,
  ⟨some p4, (.bin .geq), [(.tmp p3), (.const (.int .i64 (.ofNat 1)))], none⟩,
  ⟨some p5, .move, [(.tmp p4)], none⟩,
  ⟨some p6, .move, [(.tmp p0)], some (p5, true)⟩,
  ⟨some p7, (.bin .leq), [(.tmp p6), (.const (.int .i64 (.ofNat 1000)))], some (p5, true)⟩,
  ⟨some p8, .pick, [(.tmp p5), (.tmp p7), (.const (.bool false))], none⟩,
  ⟨some p2, .move, [(.tmp p8)], none⟩])
 (.ret [.tmp p2]))),
 [.tmp p2]⟩
def F22 : IFn := ⟨0,
(.seq (.reg [
  ⟨some p0, .move, [(.const .pnil)], none⟩])
 (.seq (.reg [
  ⟨some p1, .mkMap, [], none⟩,
  ⟨some p2, (.build [.mnil, (.int .i64 (.ofNat 0))] [(0, 1)]), [(.tmp p1)], none⟩,
  ⟨some p3, (.box 94 2), [(.tmp p2)], none⟩,
  ⟨some p0, .move, [(.tmp p3)], none⟩])
 (.ret [.tmp p0]))),
 [.tmp p0]⟩
def F23 : IFn := ⟨0,
(.seq (.reg [
  ⟨some p0, .move, [(.const .pnil)], none⟩])
 (.seq (.reg [
  ⟨some p1, .mkMap, [], none⟩,
  ⟨some p2, (.build [.mnil, (.int .i64 (.ofNat 0))] [(0, 1)]), [(.tmp p1)], none⟩,
  ⟨some p3, (.box 98 2), [(.tmp p2)], none⟩,
  ⟨some p0, .move, [(.tmp p3)], none⟩])
 (.ret [.tmp p0]))),
 [.tmp p0]⟩
def F24 : IFn := ⟨0,
(.seq (.reg [
  ⟨some p0, .move, [(.const .pnil)], none⟩])
 (.seq (.reg [
  ⟨some p1, .mkMap, [], none⟩,
  ⟨some p2, (.build [.mnil, (.int .i64 (.ofNat 0))] [(0, 1)]), [(.tmp p1)], none⟩,
  ⟨some p3, (.box 116 2), [(.tmp p2)], none⟩,
  ⟨some p0, .move, [(.tmp p3)], none⟩])
 (.ret [.tmp p0]))),
 [.tmp p0]⟩
def F25 : IFn := ⟨1,
(.reg [
  ⟨some p2, .move, [(.tmp p0)], none⟩,
  ⟨some p3, .call, [(.const (.fn 42 [] [])), (.tmp p2)], none⟩]),
 []⟩
def F26 : IFn := ⟨1,
(.seq (.reg [
  ⟨some p2, .move, [(.const (.int .i64 (.ofNat 0)))], none⟩])
 (.seq (.reg [
  ⟨some p3, .move, [(.tmp p0)], none⟩,
  ⟨some p4, .nilCheck, [(.tmp p3)], none⟩,
  ⟨some p5, (.fieldAddr 1), [(.tmp p4)], none⟩,
  ⟨some p6, (.load false 1), [(.tmp p5)], none⟩,
  ⟨some p7, (.bin .add), [(.tmp p6), (.const (.int .i64 (.ofNat 1)))], none⟩,
  ⟨some p2, .move, [(.tmp p7)], none⟩])
 (.ret [.tmp p2]))),
 [.tmp p2]⟩
def F27 : IFn := ⟨1,
(.seq (.reg [
  ⟨some p2, .move, [(.const (.bool false))], none⟩])
 (.seq (.reg [
  ⟨some p3, .move, [(.tmp p0)], none⟩,
  ⟨some p4, (.eql (.base .str) false), [(.tmp p3), (.const (.str []))], none⟩,
  ⟨some p5, .move, [(.tmp p4)], none⟩,
  ⟨some p6, .move, [(.tmp p0)], some (p5, false)⟩,
  ⟨some p7, .call, [(.const (.fn 43 [] [])), (.tmp p6)], some (p5, false)⟩,
  ⟨some p8, .pick, [(.tmp p5), (.const (.bool true)), (.tmp p7)], none⟩,
  ⟨some p2, .move, [(.tmp p8)], none⟩])
 (.ret [.tmp p2]))),
 [.tmp p2]⟩
def F28 : IFn := ⟨5,
(.seq (.reg [
  ⟨some p10, .move, [(.const (.bool false))], none⟩])
 (.seq (.reg [
  ⟨some p11, .move, [(.tmp p0)], none⟩,
  ⟨some p12, .nilCheck, [(.tmp p11)], none⟩,
  ⟨some p13, (.fieldAddr 3), [(.tmp p12)], none⟩,
  ⟨some p14, (.load false 1), [(.tmp p13)], none⟩,
  ⟨some p15, .call, [(.const (.fn 44 [] [])), (.tmp p14)], none⟩,
  ⟨some p16, .move, [(.tmp p1)], none⟩,
  ⟨some p17, (.bin .add), [(.tmp p15), (.tmp p16)], none⟩,
  ⟨some p18, (.bin .leq), [(.tmp p17), (.const (.int .i64 (.ofNat 8)))], none⟩,
  ⟨some p19, .move, [(.tmp p18)], none⟩,
  ⟨some p20, .move, [(.tmp p0)], some (p19, true)⟩,
  ⟨some p21, .nilCheck, [(.tmp p20)], some (p19, true)⟩,
  ⟨some p22, (.fieldAddr 4), [(.tmp p21)], some (p19, true)⟩,
  ⟨some p23, (.load false 1), [(.tmp p22)], some (p19, true)⟩,
  ⟨some p24, .call, [(.const (.fn 45 [] [])), (.tmp p23)], some (p19, true)⟩,
  ⟨some p25, .move, [(.tmp p2)], some (p19, true)⟩,
  ⟨some p26, (.bin .add), [(.tmp p24), (.tmp p25)], some (p19, true)⟩,
  ⟨some p27, (.bin .leq), [(.tmp p26), (.const (.int .i64 (.ofNat 16)))], some (p19, true)⟩,
  ⟨some p28, .pick, [(.tmp p19), (.tmp p27), (.const (.bool false))], none⟩,
  ⟨some p29, .move, [(.tmp p28)], none⟩,
  ⟨some p30, .move, [(.tmp p0)], some (p29, true)⟩,
  ⟨some p31, .nilCheck, [(.tmp p30)], some (p29, true)⟩,
  ⟨some p32, (.fieldAddr 5), [(.tmp p31)], some (p29, true)⟩,
  ⟨some p33, (.load false 1), [(.tmp p32)], some (p29, true)⟩,
  ⟨some p34, .call, [(.const (.fn 46 [] [])), (.tmp p33)], some (p29, true)⟩,
  ⟨some p35, .move, [(.tmp p3)], some (p29, true)⟩,
  ⟨some p36, (.bin .add), [(.tmp p34), (.tmp p35)], some (p29, true)⟩,
  ⟨some p37, (.bin .leq), [(.tmp p36), (.const (.int .i64 (.ofNat 32)))], some (p29, true)⟩,
  ⟨some p38, .pick, [(.tmp p29), (.tmp p37), (.const (.bool false))], none⟩,
  ⟨some p39, .move, [(.tmp p38)], none⟩,
  ⟨some p40, .move, [(.tmp p0)], some (p39, true)⟩,
  ⟨some p41, .call, [(.const (.fn 47 [] [])), (.tmp p40)], some (p39, true)⟩,
  ⟨some p42, .move, [(.tmp p4)], some (p39, true)⟩,
  ⟨some p43, (.bin .add), [(.tmp p41), (.tmp p42)], some (p39, true)⟩,
  ⟨some p44, (.bin .leq), [(.tmp p43), (.const (.int .i64 (.ofNat 32)))], some (p39, true)⟩,
  ⟨some p45, .pick, [(.tmp p39), (.tmp p44), (.const (.bool false))], none⟩,
  ⟨some p10, .move, [(.tmp p45)], none⟩])
 (.ret [.tmp p10]))),
 [.tmp p10]⟩
def F29 : IFn := ⟨1,
(.seq (.reg [
  ⟨some p2, .move, [(.const (.str []))], none⟩])
 (.seq (.seq (.reg [
  ⟨some p3, .move, [(.tmp p0)], none⟩,
  ⟨some p4, (.bin .lss), [(.tmp p3), (.const (.int .i64 (.ofNat 0)))], none⟩,
  ⟨some p5, .move, [(.tmp p4)], none⟩,
  ⟨some p6, .move, [(.tmp p0)], some (p5, false)⟩,
  ⟨some p7, (.bin .gtr), [(.tmp p6), (.const (.int .i64 (.ofNat 4611686018427387904)))], some (p5, false)⟩,
  ⟨some p8, .pick, [(.tmp p5), (.const (.bool true)), (.tmp p7)], none⟩])
 (.cond (.tmp p8)
 (.seq (.reg [
  ⟨some p2, .move, [(.const (.str []))], none⟩])
 (.ret [.tmp p2]))
 .skip))
 (.seq (.reg [
  ⟨some p9, .move, [(.tmp p0)], none⟩,
  ⟨some p10, .call, [(.const (.fn 48 [] [])), (.tmp p9)], none⟩,
  ⟨some p2, .move, [(.tmp p10)], none⟩])
 (.ret [.tmp p2])))),
 [.tmp p2]⟩
def F30 : IFn := ⟨3,
(.seq (.reg [
  ⟨some p6, .move, [(.const (.bool false))], none⟩])
 (.seq (.seq (.reg [
  ⟨some p9, .move, [(.tmp p0)], none⟩,
  ⟨some p10, .nilCheck, [(.tmp p9)], none⟩,
  ⟨some p11, (.fieldAddr 3), [(.tmp p10)], none⟩,
  ⟨some p12, (.load false 1), [(.tmp p11)], none⟩,
  ⟨some p13, .call, [(.const (.fn 13 [] [])), (.tmp p12)], none⟩,
  ⟨some p14, .lenL, [(.tmp p13)], none⟩,
  ⟨some p15, .move, [(.const (.int .i64 (.ofNat 0)))], none⟩])
 (.block 0 [] (.loop [p0, p1, p2, p13, p14, p15] (.seq (.reg [
  ⟨some p16, (.bin .lss), [(.tmp p15), (.tmp p14)], none⟩])
 (.seq (.cond (.tmp p16)
 .skip
 (.exit 0 []))
 (.seq (.block 1 [p0, p1, p2, p13, p14, p15] (.seq (.reg [
  ⟨some p17, (.idxSlice 1), [(.tmp p13), (.tmp p15)], none⟩,
  ⟨some p18, (.load false 1), [(.tmp p17)], none⟩,
  ⟨some p8, .move, [(.tmp p18)], none⟩])
 (.seq (.reg [
  ⟨some p19, .move, [(.tmp p8)], none⟩,
  ⟨some p20, .move, [(.tmp p2)], none⟩,
  ⟨some p21, (.eql (.base .int) true), [(.tmp p19), (.tmp p20)], none⟩,
  ⟨some p22, .move, [(.tmp p21)], none⟩,
  ⟨some p23, .move, [(.tmp p0)], some (p22, true)⟩,
  ⟨some p24, .nilCheck, [(.tmp p23)], some (p22, true)⟩,
  ⟨some p25, (.fieldAddr 3), [(.tmp p24)], some (p22, true)⟩,
  ⟨some p26, (.load false 1), [(.tmp p25)], some (p22, true)⟩,
  ⟨some p27, .move, [(.tmp p8)], some (p22, true)⟩,
  ⟨some p28, .call, [(.const (.fn 14 [] [])), (.tmp p26), (.tmp p27)], some (p22, true)⟩,
  ⟨some p29, .nilCheck, [(.tmp p28)], some (p22, true)⟩,
  ⟨some p30, (.fieldAddr 1), [(.tmp p29)], some (p22, true)⟩,
  ⟨some p31, (.load false 1), [(.tmp p30)], some (p22, true)⟩,
  ⟨some p32, .move, [(.tmp p1)], some (p22, true)⟩,
  ⟨some p33, (.eql (.base .str) false), [(.tmp p31), (.tmp p32)], some (p22, true)⟩,
  ⟨some p34, .pick, [(.tmp p22), (.tmp p33), (.const (.bool false))], none⟩])
 (.cond (.tmp p34)
 (.seq (.reg [
  ⟨some p6, .move, [(.const (.bool true))], none⟩])
 (.ret [.tmp p6]))
 .skip))))
 (.reg [
  ⟨some p35, (.bin .add), [(.tmp p15), (.const (.int .i64 (.ofNat 1)))], none⟩,
  ⟨some p15, .move, [(.tmp p35)], none⟩])))))))
 (.seq (.reg [
  ⟨some p6, .move, [(.const (.bool false))], none⟩])
 (.ret [.tmp p6])))),
 [.tmp p6]⟩
def F31 : IFn := ⟨5,
(.seq (.reg [
  ⟨some p10, .move, [(.const .pnil)], none⟩])
 (.seq (.seq (.reg [
  ⟨some p12, .move, [(.tmp p1)], none⟩,
  ⟨some p13, (.eql (.base .str) false), [(.tmp p12), (.const (.str []))], none⟩])
 (.cond (.tmp p13)
 (.reg [
  ⟨some p1, .move, [(.const (.str [115, 104]))], none⟩])
 .skip))
 (.seq (.reg [
  ⟨some p14, .move, [(.tmp p1)], none⟩,
  ⟨some p15, (.build [(.int .i64 (.ofNat 0)), (.str []), .snil, (.int .i64 (.ofNat 0)), (.int .i64 (.ofNat 0)), (.bool false)] [(1, 1)]), [(.tmp p14)], none⟩,
  ⟨some p16, (.box 71 6), [(.tmp p15)], none⟩,
  ⟨some p11, .move, [(.tmp p16)], none⟩])
 (.seq (.reg [
  ⟨some p17, .move, [(.tmp p11)], none⟩,
  ⟨some p18, .move, [(.tmp p0)], none⟩,
  ⟨some p19, .nilCheck, [(.tmp p18)], none⟩,
  ⟨some p20, (.fieldAddr 4), [(.tmp p19)], none⟩,
  ⟨some p21, (.load false 1), [(.tmp p20)], none⟩,
  ⟨some p22, .move, [(.tmp p11)], none⟩,
  ⟨some p23, .call, [(.const (.fn 49 [] [])), (.tmp p21), (.tmp p22)], none⟩,
  ⟨some p24, .nilCheck, [(.tmp p17)], none⟩,
  ⟨some p25, (.fieldAddr 0), [(.tmp p24)], none⟩,
  ⟨none, (.store 1), [(.tmp p25), (.tmp p23)], none⟩])
 (.seq (.seq (.reg [
  ⟨some p26, .move, [(.tmp p4)], none⟩,
  ⟨some p27, (.eql (.base .int) false), [(.tmp p26), (.const (.int .i64 (.ofNat 0)))], none⟩])
 (.cond (.tmp p27)
 (.reg [
  ⟨some p28, .move, [(.tmp p0)], none⟩,
  ⟨some p29, .move, [(.tmp p11)], none⟩,
  ⟨some p30, .nilCheck, [(.tmp p29)], none⟩,
  ⟨some p31, (.fieldAddr 0), [(.tmp p30)], none⟩,
  ⟨some p32, (.load false 1), [(.tmp p31)], none⟩,
  ⟨some p33, .call, [(.const (.fn 36 [] [])), (.tmp p28), (.tmp p32)], none⟩,
  ⟨some p4, .move, [(.tmp p33)], none⟩])
 .skip))
 (.seq (.drawn [
  ⟨0, ⟨some p34, .move, [(.tmp p0)], none⟩, .pure, []⟩,
  ⟨1, ⟨some p35, .nilCheck, [(.tmp p34)], none⟩, .pure, [0]⟩,
  ⟨2, ⟨some p36, (.fieldAddr 5), [(.tmp p35)], none⟩, .pure, [1]⟩,
  ⟨3, ⟨some p37, (.load false 1), [(.tmp p36)], none⟩, (.read 0 0), [2]⟩,
  ⟨4, ⟨some p38, .move, [(.tmp p4)], none⟩, .pure, []⟩,
  ⟨5, ⟨some p39, .call, [(.const (.fn 38 [] [])), (.tmp p37), (.tmp p38)], none⟩, .eff, [3, 4]⟩,
  ⟨6, ⟨some p40, .move, [(.tmp p11)], none⟩, .pure, []⟩,
  ⟨7, ⟨some p41, .nilCheck, [(.tmp p40)], none⟩, .pure, [6]⟩,
  ⟨8, ⟨some p42, (.fieldAddr 0), [(.tmp p41)], none⟩, .pure, [7]⟩,
  ⟨9, ⟨some p43, (.load false 1), [(.tmp p42)], none⟩, (.read 0 1), [8]⟩,
  ⟨10, ⟨some p44, .nilCheck, [(.tmp p39)], none⟩, .pure, [5, 0, 1, 2, 3, 4, 5, 6, 7, 8, 9]⟩,
  ⟨11, ⟨some p45, (.fieldAddr 1), [(.tmp p44)], none⟩, .pure, [10, 0, 1, 2, 3, 4, 5, 6, 7, 8, 9]⟩,
  ⟨12, ⟨none, (.store 1), [(.tmp p45), (.tmp p43)], none⟩, .eff, [11, 9, 5, 0, 1, 2, 3, 4, 5, 6, 7, 8, 9]⟩])
 (.seq (.reg [
  ⟨some p47, .move, [(.tmp p11)], none⟩,
  ⟨some p48, .move, [(.tmp p2)], none⟩,
  ⟨some p49, .move, [(.tmp p3)], none⟩,
  ⟨some p50, .move, [(.tmp p4)], none⟩,
  ⟨some p51, .call, [(.const (.fn 50 [] [])), (.tmp p48), (.tmp p49), (.tmp p50)], none⟩,
  ⟨some p46, .move, [(.tmp p51)], none⟩,
  ⟨some p52, (.extract 0), [(.tmp p46)], none⟩,
  ⟨some p53, (.extract 1), [(.tmp p46)], none⟩,
  ⟨some p54, .nilCheck, [(.tmp p47)], none⟩,
  ⟨some p55, (.fieldAddr 2), [(.tmp p54)], none⟩,
  ⟨none, (.store 1), [(.tmp p55), (.tmp p52)], none⟩])
 (.seq (.reg [
  ⟨some p56, .move, [(.tmp p11)], none⟩,
  ⟨some p57, .move, [(.tmp p4)], none⟩,
  ⟨some p58, .nilCheck, [(.tmp p56)], none⟩,
  ⟨some p59, (.fieldAddr 3), [(.tmp p58)], none⟩,
  ⟨none, (.store 1), [(.tmp p59), (.tmp p57)], none⟩])
 (.seq (.reg [
  ⟨some p60, .move, [(.tmp p11)], none⟩,
  ⟨some p10, .move, [(.tmp p60)], none⟩])
 (.ret [.tmp p10])))))))))),
 [.tmp p10]⟩
def F32 : IFn := ⟨2,
(.seq (.reg [
  ⟨some p4, .move, [(.const (.int .i64 (.ofNat 0)))], none⟩])
 (.seq (.reg [
  ⟨some p5, .move, [(.tmp p0)], none⟩,
  ⟨some p6, .nilCheck, [(.tmp p5)], none⟩,
  ⟨some p7, (.fieldAddr 1), [(.tmp p6)], none⟩,
  ⟨some p8, (.load false 1), [(.tmp p7)], none⟩,
  ⟨some p9, (.bin .add), [(.tmp p8), (.const (.int .i64 (.ofNat 1)))], none⟩,
  ⟨some p10, .nilCheck, [(.tmp p5)], none⟩,
  ⟨some p11, (.fieldAddr 1), [(.tmp p10)], none⟩,
  ⟨none, (.store 1), [(.tmp p11), (.tmp p9)], none⟩])
 (.seq (.drawn [
  ⟨0, ⟨some p12, .move, [(.tmp p0)], none⟩, .pure, []⟩,
  ⟨1, ⟨some p13, .nilCheck, [(.tmp p12)], none⟩, .pure, [0]⟩,
  ⟨2, ⟨some p14, (.fieldAddr 0), [(.tmp p13)], none⟩, .pure, [1]⟩,
  ⟨3, ⟨some p15, (.load false 1), [(.tmp p14)], none⟩, (.read 0 0), [2]⟩,
  ⟨4, ⟨some p16, .move, [(.tmp p0)], none⟩, .pure, []⟩,
  ⟨5, ⟨some p17, .nilCheck, [(.tmp p16)], none⟩, .pure, [4]⟩,
  ⟨6, ⟨some p18, (.fieldAddr 1), [(.tmp p17)], none⟩, .pure, [5]⟩,
  ⟨7, ⟨some p19, (.load false 1), [(.tmp p18)], none⟩, (.read 0 0), [6]⟩,
  ⟨8, ⟨some p20, .move, [(.tmp p1)], none⟩, .pure, []⟩,
  ⟨9, ⟨none, (.mapUpdate false), [(.tmp p15), (.tmp p19), (.tmp p20)], none⟩, .eff, [3, 7, 8, 0, 1, 2, 3, 4, 5, 6, 7, 8]⟩])
 (.seq (.reg [
  ⟨some p21, .move, [(.tmp p0)], none⟩,
  ⟨some p22, .nilCheck, [(.tmp p21)], none⟩,
  ⟨some p23, (.fieldAddr 1), [(.tmp p22)], none⟩,
  ⟨some p24, (.load false 1), [(.tmp p23)], none⟩,
  ⟨some p4, .move, [(.tmp p24)], none⟩])
 (.ret [.tmp p4]))))),
 [.tmp p4]⟩
def F33 : IFn := ⟨2,
(.seq (.reg [
  ⟨some p4, .move, [(.const .pnil)], none⟩])
 (.seq (.reg [
  ⟨some p6, .move, [(.tmp p0)], none⟩,
  ⟨some p7, .nilCheck, [(.tmp p6)], none⟩,
  ⟨some p8, (.fieldAddr 5), [(.tmp p7)], none⟩,
  ⟨some p9, (.load false 1), [(.tmp p8)], none⟩,
  ⟨some p10, .move, [(.tmp p1)], none⟩,
  ⟨some p11, .call, [(.const (.fn 38 [] [])), (.tmp p9), (.tmp p10)], none⟩,
  ⟨some p5, .move, [(.tmp p11)], none⟩])
 (.seq (.seq (.reg [
  ⟨some p12, .move, [(.tmp p5)], none⟩,
  ⟨some p13, (.eql .ptr false), [(.tmp p12), (.const .pnil)], none⟩])
 (.cond (.tmp p13)
 (.seq (.reg [
  ⟨some p4, .move, [(.const .pnil)], none⟩])
 (.ret [.tmp p4]))
 .skip))
 (.seq (.drawn [
  ⟨0, ⟨some p14, .move, [(.tmp p0)], none⟩, .pure, []⟩,
  ⟨1, ⟨some p15, .nilCheck, [(.tmp p14)], none⟩, .pure, [0]⟩,
  ⟨2, ⟨some p16, (.fieldAddr 4), [(.tmp p15)], none⟩, .pure, [1]⟩,
  ⟨3, ⟨some p17, (.load false 1), [(.tmp p16)], none⟩, (.read 0 0), [2]⟩,
  ⟨4, ⟨some p18, .move, [(.tmp p5)], none⟩, .pure, []⟩,
  ⟨5, ⟨some p19, .nilCheck, [(.tmp p18)], none⟩, .pure, [4]⟩,
  ⟨6, ⟨some p20, (.fieldAddr 1), [(.tmp p19)], none⟩, .pure, [5]⟩,
  ⟨7, ⟨some p21, (.load false 1), [(.tmp p20)], none⟩, (.read 0 0), [6]⟩,
  ⟨8, ⟨some p22, .call, [(.const (.fn 16 [] [])), (.tmp p17), (.tmp p21)], none⟩, .eff, [3, 7]⟩,
  ⟨9, ⟨some p4, .move, [(.tmp p22)], none⟩, .pure, [8, 8, 0, 1, 2, 3, 4, 5, 6, 7, 8]⟩])
 (.ret [.tmp p4]))))),
 [.tmp p4]⟩
def F34 : IFn := ⟨6,
(.seq (.reg [
  ⟨some p12, .move, [(.const .snil)], none⟩,
  ⟨some p13, .move, [(.const (.int .i64 (.ofNat 0)))], none⟩])
 (.seq (.reg [
  ⟨some p24, .move, [(.tmp p0)], none⟩,
  ⟨some p25, .call, [(.const (.fn 51 [] [])), (.tmp p24)], none⟩,
  ⟨some p14, .move, [(.tmp p25)], none⟩])
 (.seq (.seq (.reg [
  ⟨some p26, .move, [(.tmp p14)], none⟩,
  ⟨some p27, (.eql (.iface true) false), [(.tmp p26), (.const .inil)], none⟩])
 (.cond (.tmp p27)
 (.seq (.reg [
  ⟨some p12, .move, [(.const .snil)], none⟩,
  ⟨some p13, .move, [(.const (.int .i64 (.ofNat 40)))], none⟩])
 (.ret [.tmp p12, .tmp p13]))
 .skip))
 (.seq (.seq (.reg [
  ⟨some p28, .move, [(.tmp p2)], none⟩,
  ⟨some p29, .call, [(.const (.fn 52 [] [])), (.tmp p28)], none⟩,
  ⟨some p30, .not, [(.tmp p29)], none⟩])
 (.cond (.tmp p30)
 (.seq (.reg [
  ⟨some p12, .move, [(.const .snil)], none⟩,
  ⟨some p13, .move, [(.const (.int .i64 (.ofNat 1)))], none⟩])
 (.ret [.tmp p12, .tmp p13]))
 .skip))
 (.seq (.reg [
  ⟨some p31, .move, [(.tmp p14)], none⟩,
  ⟨some p32, .move, [(.tmp p1)], none⟩,
  ⟨some p33, .call, [(.const (.fn 53 [] [])), (.tmp p31), (.tmp p32)], none⟩,
  ⟨some p15, .move, [(.tmp p33)], none⟩])
 (.seq (.seq (.reg [
  ⟨some p34, .move, [(.tmp p15)], none⟩,
  ⟨some p35, (.eql .slc false), [(.tmp p34), (.const .snil)], none⟩])
 (.cond (.tmp p35)
 (.seq (.reg [
  ⟨some p12, .move, [(.const .snil)], none⟩,
  ⟨some p13, .move, [(.const (.int .i64 (.ofNat 42)))], none⟩])
 (.ret [.tmp p12, .tmp p13]))
 .skip))
 (.seq (.seq (.reg [
  ⟨some p36, .move, [(.tmp p14)], none⟩,
  ⟨some p37, .move, [(.tmp p5)], none⟩,
  ⟨some p38, .call, [(.const (.fn 54 [] [])), (.tmp p36), (.tmp p37)], none⟩,
  ⟨some p16, .move, [(.tmp p38)], none⟩])
 (.seq (.reg [
  ⟨some p39, .move, [(.tmp p16)], none⟩,
  ⟨some p40, (.eql (.base .int) true), [(.tmp p39), (.const (.int .i64 (.ofNat 0)))], none⟩])
 (.cond (.tmp p40)
 (.seq (.reg [
  ⟨some p41, .move, [(.tmp p16)], none⟩,
  ⟨some p12, .move, [(.const .snil)], none⟩,
  ⟨some p13, .move, [(.tmp p41)], none⟩])
 (.ret [.tmp p12, .tmp p13]))
 .skip)))
 (.seq (.reg [
  ⟨some p42, .move, [(.tmp p15)], none⟩,
  ⟨some p43, .move, [(.tmp p15)], none⟩,
  ⟨some p44, .lenL, [(.tmp p43)], none⟩,
  ⟨some p45, (.bin .sub), [(.tmp p44), (.const (.int .i64 (.ofNat 1)))], none⟩,
  ⟨some p46, (.idxSlice 1), [(.tmp p42), (.tmp p45)], none⟩,
  ⟨some p47, (.load false 1), [(.tmp p46)], none⟩,
  ⟨some p48, (.assertT 125 .pnil false), [(.tmp p47)], none⟩,
  ⟨some p17, .move, [(.tmp p48)], none⟩])
 (.seq (.reg [
  ⟨some p49, .move, [(.tmp p17)], none⟩,
  ⟨some p50, .nilCheck, [(.tmp p49)], none⟩,
  ⟨some p51, (.fieldAddr 0), [(.tmp p50)], none⟩,
  ⟨some p52, .move, [(.tmp p2)], none⟩,
  ⟨some p53, .call, [(.const (.fn 55 [] [])), (.tmp p51), (.tmp p52)], none⟩,
  ⟨some p18, .move, [(.tmp p53)], none⟩])
 (.seq (.seq (.reg [
  ⟨some p54, .move, [(.tmp p18)], none⟩,
  ⟨some p55, (.bin .lss), [(.tmp p54), (.const (.int .i64 (.ofNat 3)))], none⟩])
 (.cond (.tmp p55)
 (.seq (.reg [
  ⟨some p12, .move, [(.const .snil)], none⟩,
  ⟨some p13, .move, [(.const (.int .i64 (.ofNat 44)))], none⟩])
 (.ret [.tmp p12, .tmp p13]))
 .skip))
 (.seq (.reg [
  ⟨some p56, .move, [(.tmp p3)], none⟩,
  ⟨some p57, .move, [(.tmp p18)], none⟩,
  ⟨some p58, (.bin .sub), [(.tmp p57), (.const (.int .i64 (.ofNat 2)))], none⟩,
  ⟨some p59, .min, [(.tmp p56), (.tmp p58)], none⟩,
  ⟨some p19, .move, [(.tmp p59)], none⟩])
 (.seq (.seq (.reg [
  ⟨some p60, .move, [(.tmp p3)], none⟩,
  ⟨some p61, (.bin .lss), [(.tmp p60), (.const (.int .i64 (.ofNat 1)))], none⟩])
 (.cond (.tmp p61)
 (.reg [
  ⟨some p62, .move, [(.tmp p18)], none⟩,
  ⟨some p63, (.bin .sub), [(.tmp p62), (.const (.int .i64 (.ofNat 1)))], none⟩,
  ⟨some p64, (.bin .quo), [(.tmp p63), (.const (.int .i64 (.ofNat 2)))], none⟩,
  ⟨some p19, .move, [(.tmp p64)], none⟩])
 .skip))
 (.seq (.reg [
  ⟨some p65, .move, [(.tmp p17)], none⟩,
  ⟨some p66, .nilCheck, [(.tmp p65)], none⟩,
  ⟨some p67, (.fieldAddr 0), [(.tmp p66)], none⟩,
  ⟨some p68, (.load true 4), [(.tmp p67)], none⟩,
  ⟨some p69, .move, [(.tmp p5)], none⟩,
  ⟨some p70, (.build [(.int .i64 (.ofNat 0)), (.int .i64 (.ofNat 0)), (.int .i64 (.ofNat 0)), (.int .i64 (.ofNat 0)), (.int .i64 (.ofNat 0))] [(0, 4), (4, 1)]), [(.tmp p68), (.tmp p69)], none⟩,
  ⟨some p71, (.box 129 5), [(.tmp p70)], none⟩,
  ⟨some p20, .move, [(.tmp p71)], none⟩])
 (.seq (.reg [
  ⟨some p72, .move, [(.tmp p20)], none⟩,
  ⟨some p73, .nilCheck, [(.tmp p72)], none⟩,
  ⟨some p74, (.fieldAddr 0), [(.tmp p73)], none⟩,
  ⟨some p75, .move, [(.tmp p2)], none⟩,
  ⟨some p76, .move, [(.tmp p19)], none⟩,
  ⟨some p77, .call, [(.const (.fn 56 [] [])), (.tmp p74), (.tmp p75), (.tmp p76)], none⟩])
 (.seq (.reg [
  ⟨some p78, .move, [(.tmp p17)], none⟩,
  ⟨some p79, .nilCheck, [(.tmp p78)], none⟩,
  ⟨some p80, (.fieldAddr 0), [(.tmp p79)], none⟩,
  ⟨some p81, .move, [(.tmp p2)], none⟩,
  ⟨some p82, .move, [(.tmp p18)], none⟩,
  ⟨some p83, (.bin .sub), [(.tmp p82), (.const (.int .i64 (.ofNat 1)))], none⟩,
  ⟨some p84, .move, [(.tmp p19)], none⟩,
  ⟨some p85, (.bin .sub), [(.tmp p83), (.tmp p84)], none⟩,
  ⟨some p86, .call, [(.const (.fn 56 [] [])), (.tmp p80), (.tmp p81), (.tmp p85)], none⟩])
 (.seq (.seq (.reg [
  ⟨some p87, .move, [(.tmp p15)], none⟩,
  ⟨some p88, .call, [(.const (.fn 57 [] [])), (.tmp p87)], none⟩,
  ⟨some p21, .move, [(.tmp p88)], none⟩])
 (.seq (.reg [
  ⟨some p89, .move, [(.tmp p21)], none⟩,
  ⟨some p90, (.eql .ptr true), [(.tmp p89), (.const .pnil)], none⟩,
  ⟨some p91, .move, [(.tmp p90)], none⟩,
  ⟨some p92, .move, [(.tmp p21)], some (p91, true)⟩,
  ⟨some p93, .nilCheck, [(.tmp p92)], some (p91, true)⟩,
  ⟨some p94, (.fieldAddr 4), [(.tmp p93)], some (p91, true)⟩,
  ⟨some p95, (.load false 1), [(.tmp p94)], some (p91, true)⟩,
  ⟨some p96, .move, [(.tmp p2)], some (p91, true)⟩,
  ⟨some p97, (.eql (.base .int) false), [(.tmp p95), (.tmp p96)], some (p91, true)⟩,
  ⟨some p98, .pick, [(.tmp p91), (.tmp p97), (.const (.bool false))], none⟩])
 (.cond (.tmp p98)
 (.seq (.reg [
  ⟨some p99, .move, [(.tmp p21)], none⟩,
  ⟨some p100, .nilCheck, [(.tmp p99)], none⟩,
  ⟨some p101, (.fieldAddr 5), [(.tmp p100)], none⟩,
  ⟨some p102, (.load false 1), [(.tmp p101)], none⟩,
  ⟨some p103, .move, [(.tmp p17)], none⟩,
  ⟨some p104, (.mkIface 125), [(.tmp p103)], none⟩,
  ⟨some p105, .call, [(.const (.fn 58 [] [])), (.tmp p102), (.tmp p104)], none⟩,
  ⟨some p22, .move, [(.tmp p105)], none⟩])
 (.drawn [
  ⟨0, ⟨some p106, .move, [(.tmp p21)], none⟩, .pure, []⟩,
  ⟨1, ⟨some p107, .move, [(.tmp p21)], none⟩, .pure, []⟩,
  ⟨2, ⟨some p108, .nilCheck, [(.tmp p107)], none⟩, .pure, [1]⟩,
  ⟨3, ⟨some p109, (.fieldAddr 5), [(.tmp p108)], none⟩, .pure, [2]⟩,
  ⟨4, ⟨some p110, (.load false 1), [(.tmp p109)], none⟩, (.read 0 1), [3]⟩,
  ⟨5, ⟨some p111, .move, [(.tmp p22)], none⟩, .pure, []⟩,
  ⟨6, ⟨some p112, .move, [(.tmp p22)], none⟩, .pure, []⟩,
  ⟨7, ⟨some p113, (.bin .add), [(.tmp p112), (.const (.int .i64 (.ofNat 1)))], none⟩, .pure, [6]⟩,
  ⟨8, ⟨some p114, .move, [(.tmp p17)], none⟩, .pure, []⟩,
  ⟨9, ⟨some p115, (.mkIface 125), [(.tmp p114)], none⟩, .pure, [8]⟩,
  ⟨10, ⟨some p116, .move, [(.tmp p20)], none⟩, .pure, []⟩,
  ⟨11, ⟨some p117, (.mkIface 125), [(.tmp p116)], none⟩, .pure, [10]⟩,
  ⟨12, ⟨some p118, .move, [(.tmp p4)], none⟩, .pure, []⟩,
  ⟨13, ⟨some p119, .call, [(.const (.fn 60 [] [])), (.tmp p115), (.tmp p117), (.tmp p118)], none⟩, .eff, [9, 11, 12]⟩,
  ⟨14, ⟨some p120, .call, [(.const (.fn 59 [] [])), (.tmp p110), (.tmp p111), (.tmp p113), (.tmp p119)], none⟩, .eff, [4, 5, 7, 13, 13]⟩,
  ⟨15, ⟨some p121, .nilCheck, [(.tmp p106)], none⟩, .pure, [0, 0, 1, 2, 3, 4, 5, 6, 7, 8, 9, 10, 11, 12, 13, 14]⟩,
  ⟨16, ⟨some p122, (.fieldAddr 5), [(.tmp p121)], none⟩, .pure, [15, 0, 1, 2, 3, 4, 5, 6, 7, 8, 9, 10, 11, 12, 13, 14]⟩,
  ⟨17, ⟨none, (.store 1), [(.tmp p122), (.tmp p120)], none⟩, .eff, [16, 14, 14, 0, 1, 2, 3, 4, 5, 6, 7, 8, 9, 10, 11, 12, 13, 14]⟩]))
 (.seq (.drawn [
  ⟨0, ⟨some p123, .move, [(.tmp p17)], none⟩, .pure, []⟩,
  ⟨1, ⟨some p124, .nilCheck, [(.tmp p123)], none⟩, .pure, [0]⟩,
  ⟨2, ⟨some p125, (.fieldAddr 0), [(.tmp p124)], none⟩, .pure, [1]⟩,
  ⟨3, ⟨some p126, (.load true 4), [(.tmp p125)], none⟩, (.read 0 1), [2]⟩,
  ⟨4, ⟨some p127, .move, [(.tmp p2)], none⟩, .pure, []⟩,
  ⟨5, ⟨some p128, .move, [(.tmp p17)], none⟩, .pure, []⟩,
  ⟨6, ⟨some p129, (.mkIface 125), [(.tmp p128)], none⟩, .pure, [5]⟩,
  ⟨7, ⟨some p130, .move, [(.tmp p20)], none⟩, .pure, []⟩,
  ⟨8, ⟨some p131, (.mkIface 125), [(.tmp p130)], none⟩, .pure, [7]⟩,
  ⟨9, ⟨some p132, .move, [(.tmp p4)], none⟩, .pure, []⟩,
  ⟨10, ⟨some p133, .call, [(.const (.fn 60 [] [])), (.tmp p129), (.tmp p131), (.tmp p132)], none⟩, .eff, [6, 8, 9]⟩,
  ⟨11, ⟨some p134, (.build [(.int .i64 (.ofNat 0)), (.int .i64 (.ofNat 0)), (.int .i64 (.ofNat 0)), (.int .i64 (.ofNat 0)), (.int .i64 (.ofNat 0)), .snil] [(0, 4), (4, 1), (5, 1)]), [(.tmp p126), (.tmp p127), (.tmp p133)], none⟩, .pure, [3, 4, 10]⟩,
  ⟨12, ⟨some p135, (.box 134 6), [(.tmp p134)], none⟩, .eff, [11]⟩,
  ⟨13, ⟨some p23, .move, [(.tmp p135)], none⟩, .pure, [12, 10, 0, 1, 2, 3, 4, 5, 6, 7, 8, 9, 10, 11, 12]⟩])
 (.seq (.reg [
  ⟨some p136, .move, [(.tmp p23)], none⟩,
  ⟨some p137, .nilCheck, [(.tmp p136)], none⟩,
  ⟨some p138, (.fieldAddr 0), [(.tmp p137)], none⟩,
  ⟨some p139, .move, [(.tmp p2)], none⟩,
  ⟨some p140, .move, [(.tmp p18)], none⟩,
  ⟨some p141, .call, [(.const (.fn 56 [] [])), (.tmp p138), (.tmp p139), (.tmp p140)], none⟩])
 (.reg [
  ⟨some p142, .move, [(.tmp p14)], none⟩,
  ⟨some p143, .move, [(.tmp p15)], none⟩,
  ⟨some p144, .move, [(.tmp p23)], none⟩,
  ⟨some p145, (.mkIface 131), [(.tmp p144)], none⟩,
  ⟨some p146, .call, [(.const (.fn 61 [] [])), (.tmp p142), (.tmp p143), (.tmp p145)], none⟩,
  ⟨some p14, .move, [(.tmp p146)], none⟩]))))))
 (.seq (.reg [
  ⟨some p147, .move, [(.tmp p14)], none⟩,
  ⟨some p148, .call, [(.const (.fn 62 [] [])), (.tmp p147)], none⟩,
  ⟨some p12, .move, [(.tmp p148)], none⟩,
  ⟨some p13, .move, [(.const (.int .i64 (.ofNat 0)))], none⟩])
 (.ret [.tmp p12, .tmp p13])))))))))))))))))),
 [.tmp p12, .tmp p13]⟩
def F35 : IFn := ⟨1,
(.seq (.reg [
  ⟨some p2, .move, [(.const (.int .i64 (.ofNat 0)))], none⟩])
 (.seq (.reg [
  ⟨some p3, .move, [(.tmp p0)], none⟩,
  ⟨some p4, .nilCheck, [(.tmp p3)], none⟩,
  ⟨some p5, (.fieldAddr 1), [(.tmp p4)], none⟩,
  ⟨some p6, (.load false 1), [(.tmp p5)], none⟩,
  ⟨some p7, (.bin .add), [(.tmp p6), (.const (.int .i64 (.ofNat 1)))], none⟩,
  ⟨some p2, .move, [(.tmp p7)], none⟩])
 (.ret [.tmp p2]))),
 [.tmp p2]⟩
def F36 : IFn := ⟨2,
(.seq (.reg [
  ⟨some p4, .move, [(.const (.int .i64 (.ofNat 0)))], none⟩])
 (.seq (.reg [
  ⟨some p11, .move, [(.tmp p0)], none⟩,
  ⟨some p12, .nilCheck, [(.tmp p11)], none⟩,
  ⟨some p13, (.fieldAddr 0), [(.tmp p12)], none⟩,
  ⟨some p14, (.fieldAddr 2), [(.tmp p13)], none⟩,
  ⟨some p15, (.load false 1), [(.tmp p14)], none⟩,
  ⟨some p16, .call, [(.const (.fn 63 [] [])), (.tmp p15)], none⟩,
  ⟨some p10, .move, [(.tmp p16)], none⟩,
  ⟨some p17, (.extract 0), [(.tmp p10)], none⟩,
  ⟨some p18, (.extract 1), [(.tmp p10)], none⟩,
  ⟨some p5, .move, [(.tmp p17)], none⟩,
  ⟨some p6, .move, [(.tmp p18)], none⟩])
 (.seq (.reg [
  ⟨some p20, .move, [(.tmp p0)], none⟩,
  ⟨some p21, .nilCheck, [(.tmp p20)], none⟩,
  ⟨some p22, (.fieldAddr 0), [(.tmp p21)], none⟩,
  ⟨some p23, (.fieldAddr 2), [(.tmp p22)], none⟩,
  ⟨some p24, (.load false 1), [(.tmp p23)], none⟩,
  ⟨some p25, .call, [(.const (.fn 63 [] [])), (.tmp p24)], none⟩,
  ⟨some p19, .move, [(.tmp p25)], none⟩,
  ⟨some p26, (.extract 0), [(.tmp p19)], none⟩,
  ⟨some p27, (.extract 1), [(.tmp p19)], none⟩,
  ⟨some p7, .move, [(.tmp p26)], none⟩,
  ⟨some p8, .move, [(.tmp p27)], none⟩])
 (.seq (.reg [
  ⟨some p28, .move, [(.tmp p1)], none⟩,
  ⟨some p29, .move, [(.tmp p5)], none⟩,
  ⟨some p30, .move, [(.tmp p7)], none⟩,
  ⟨some p31, (.build [(.int .i64 (.ofNat 0)), (.int .i64 (.ofNat 0)), .pnil, .pnil] [(1, 1), (2, 1), (3, 1)]), [(.tmp p28), (.tmp p29), (.tmp p30)], none⟩,
  ⟨some p32, (.box 89 4), [(.tmp p31)], none⟩,
  ⟨some p9, .move, [(.tmp p32)], none⟩])
 (.seq (.reg [
  ⟨some p33, .move, [(.tmp p9)], none⟩,
  ⟨some p34, .move, [(.tmp p0)], none⟩,
  ⟨some p35, .nilCheck, [(.tmp p34)], none⟩,
  ⟨some p36, (.fieldAddr 5), [(.tmp p35)], none⟩,
  ⟨some p37, (.load false 1), [(.tmp p36)], none⟩,
  ⟨some p38, .move, [(.tmp p9)], none⟩,
  ⟨some p39, .call, [(.const (.fn 64 [] [])), (.tmp p37), (.tmp p38)], none⟩,
  ⟨some p40, .nilCheck, [(.tmp p33)], none⟩,
  ⟨some p41, (.fieldAddr 0), [(.tmp p40)], none⟩,
  ⟨none, (.store 1), [(.tmp p41), (.tmp p39)], none⟩])
 (.seq (.reg [
  ⟨some p42, .move, [(.tmp p9)], none⟩,
  ⟨some p43, .nilCheck, [(.tmp p42)], none⟩,
  ⟨some p44, (.fieldAddr 0), [(.tmp p43)], none⟩,
  ⟨some p45, (.load false 1), [(.tmp p44)], none⟩,
  ⟨some p4, .move, [(.tmp p45)], none⟩])
 (.ret [.tmp p4]))))))),
 [.tmp p4]⟩
def F37 : IFn := ⟨2,
(.seq (.reg [
  ⟨some p4, .move, [(.tmp p1)], none⟩,
  ⟨some p5, .move, [(.tmp p0)], none⟩,
  ⟨some p6, .nilCheck, [(.tmp p5)], none⟩,
  ⟨some p7, (.fieldAddr 3), [(.tmp p6)], none⟩,
  ⟨some p8, (.load false 1), [(.tmp p7)], none⟩,
  ⟨some p9, (.eql (.base .int) true), [(.tmp p4), (.tmp p8)], none⟩])
 (.cond (.tmp p9)
 (.reg [
  ⟨some p10, .move, [(.tmp p0)], none⟩,
  ⟨some p11, .move, [(.tmp p0)], none⟩,
  ⟨some p12, .move, [(.tmp p0)], none⟩,
  ⟨some p13, .move, [(.tmp p0)], none⟩,
  ⟨some p14, .nilCheck, [(.tmp p13)], none⟩,
  ⟨some p15, (.fieldAddr 3), [(.tmp p14)], none⟩,
  ⟨some p16, (.load false 1), [(.tmp p15)], none⟩,
  ⟨some p17, .move, [(.tmp p1)], none⟩,
  ⟨some p18, .nilCheck, [(.tmp p10)], none⟩,
  ⟨some p19, (.fieldAddr 4), [(.tmp p18)], none⟩,
  ⟨none, (.store 1), [(.tmp p19), (.tmp p16)], none⟩,
  ⟨some p20, .nilCheck, [(.tmp p11)], none⟩,
  ⟨some p21, (.fieldAddr 3), [(.tmp p20)], none⟩,
  ⟨none, (.store 1), [(.tmp p21), (.tmp p17)], none⟩,
  ⟨some p22, .nilCheck, [(.tmp p12)], none⟩,
  ⟨some p23, (.fieldAddr 5), [(.tmp p22)], none⟩,
  ⟨none, (.store 1), [(.tmp p23), (.const (.bool false))], none⟩])
 .skip)),
 []⟩
def F38 : IFn := ⟨2,
(.seq (.reg [
  ⟨some p4, .move, [(.const .pnil)], none⟩])
 (.seq (.reg [
  ⟨some p5, .move, [(.tmp p0)], none⟩,
  ⟨some p6, .nilCheck, [(.tmp p5)], none⟩,
  ⟨some p7, (.fieldAddr 0), [(.tmp p6)], none⟩,
  ⟨some p8, (.load false 1), [(.tmp p7)], none⟩,
  ⟨some p9, .move, [(.tmp p1)], none⟩,
  ⟨some p10, (.lookup false .pnil false), [(.tmp p8), (.tmp p9)], none⟩,
  ⟨some p4, .move, [(.tmp p10)], none⟩])
 (.ret [.tmp p4]))),
 [.tmp p4]⟩
def F39 : IFn := ⟨1,
(.seq (.reg [
  ⟨some p2, .move, [(.const (.int .i64 (.ofNat 0)))], none⟩])
 (.seq (.drawn [
  ⟨0, ⟨some p3, .move, [(.tmp p0)], none⟩, .pure, []⟩,
  ⟨1, ⟨some p4, .nilCheck, [(.tmp p3)], none⟩, .pure, [0]⟩,
  ⟨2, ⟨some p5, (.fieldAddr 1), [(.tmp p4)], none⟩, .pure, [1]⟩,
  ⟨3, ⟨some p6, (.load false 1), [(.tmp p5)], none⟩, (.read 0 0), [2]⟩,
  ⟨4, ⟨some p7, .move, [(.tmp p0)], none⟩, .pure, []⟩,
  ⟨5, ⟨some p8, .nilCheck, [(.tmp p7)], none⟩, .pure, [4]⟩,
  ⟨6, ⟨some p9, (.fieldAddr 2), [(.tmp p8)], none⟩, .pure, [5]⟩,
  ⟨7, ⟨some p10, (.load false 1), [(.tmp p9)], none⟩, (.read 0 0), [6]⟩,
  ⟨8, ⟨some p11, .lenL, [(.tmp p10)], none⟩, .pure, [7]⟩,
  ⟨9, ⟨some p12, (.bin .add), [(.tmp p6), (.tmp p11)], none⟩, .pure, [3, 8]⟩,
  ⟨10, ⟨some p2, .move, [(.tmp p12)], none⟩, .pure, [9, 0, 1, 2, 3, 4, 5, 6, 7, 8, 9]⟩])
 (.ret [.tmp p2]))),
 [.tmp p2]⟩
def F40 : IFn := ⟨2,
(.seq (.reg [
  ⟨some p4, .move, [(.const (.int .i64 (.ofNat 0)))], none⟩])
 (.seq (.seq (.reg [
  ⟨some p10, .move, [(.tmp p0)], none⟩,
  ⟨some p11, .call, [(.const (.fn 39 [] [])), (.tmp p10)], none⟩,
  ⟨some p12, .move, [(.tmp p1)], none⟩,
  ⟨some p13, .lenS, [(.tmp p12)], none⟩,
  ⟨some p14, (.bin .sub), [(.const (.int .i64 (.ofNat 4611686018427387904))), (.tmp p13)], none⟩,
  ⟨some p15, (.bin .gtr), [(.tmp p11), (.tmp p14)], none⟩])
 (.cond (.tmp p15)
 (.seq (.reg [
  ⟨some p4, .move, [(.const (.int .i64 (.ofNat 2)))], none⟩])
 (.ret [.tmp p4]))
 .skip))
 (.seq (.reg [
  ⟨some p16, .move, [(.tmp p0)], none⟩,
  ⟨some p17, .call, [(.const (.fn 39 [] [])), (.tmp p16)], none⟩,
  ⟨some p18, .move, [(.tmp p1)], none⟩,
  ⟨some p19, .lenS, [(.tmp p18)], none⟩,
  ⟨some p20, (.bin .add), [(.tmp p17), (.tmp p19)], none⟩,
  ⟨some p5, .move, [(.tmp p20)], none⟩])
 (.seq (.drawn [
  ⟨0, ⟨some p21, .move, [(.tmp p0)], none⟩, .pure, []⟩,
  ⟨1, ⟨some p22, .nilCheck, [(.tmp p21)], none⟩, .pure, [0]⟩,
  ⟨2, ⟨some p23, (.fieldAddr 0), [(.tmp p22)], none⟩, .pure, [1]⟩,
  ⟨3, ⟨some p24, (.load false 1), [(.tmp p23)], none⟩, (.read 0 0), [2]⟩,
  ⟨4, ⟨some p25, .move, [(.tmp p0)], none⟩, .pure, []⟩,
  ⟨5, ⟨some p26, .nilCheck, [(.tmp p25)], none⟩, .pure, [4]⟩,
  ⟨6, ⟨some p27, (.fieldAddr 2), [(.tmp p26)], none⟩, .pure, [5]⟩,
  ⟨7, ⟨some p28, (.load false 1), [(.tmp p27)], none⟩, (.read 0 0), [6]⟩,
  ⟨8, ⟨some p29, .lenL, [(.tmp p28)], none⟩, .pure, [7]⟩,
  ⟨9, ⟨some p30, .move, [(.tmp p1)], none⟩, .pure, []⟩,
  ⟨10, ⟨some p31, .lenS, [(.tmp p30)], none⟩, .pure, [9]⟩,
  ⟨11, ⟨some p32, (.bin .add), [(.tmp p29), (.tmp p31)], none⟩, .pure, [8, 10]⟩,
  ⟨12, ⟨some p33, .min, [(.tmp p24), (.tmp p32)], none⟩, .pure, [3, 11]⟩,
  ⟨13, ⟨some p6, .move, [(.tmp p33)], none⟩, .pure, [12, 0, 1, 2, 3, 4, 5, 6, 7, 8, 9, 10, 11, 12]⟩])
 (.seq (.reg [
  ⟨some p34, .move, [(.tmp p6)], none⟩,
  ⟨some p35, (.mkSlice 5 1 [(.int .u8 (.ofNat 0))]), [(.tmp p34), (.tmp p34)], none⟩,
  ⟨some p7, .move, [(.tmp p35)], none⟩])
 (.seq (.reg [
  ⟨some p36, .move, [(.tmp p1)], none⟩,
  ⟨some p37, .lenS, [(.tmp p36)], none⟩,
  ⟨some p38, .move, [(.tmp p6)], none⟩,
  ⟨some p39, (.bin .sub), [(.tmp p37), (.tmp p38)], none⟩,
  ⟨some p40, .max, [(.const (.int .i64 (.ofNat 0))), (.tmp p39)], none⟩,
  ⟨some p8, .move, [(.tmp p40)], none⟩])
 (.seq (.reg [
  ⟨some p41, .move, [(.tmp p6)], none⟩,
  ⟨some p42, .move, [(.tmp p1)], none⟩,
  ⟨some p43, .lenS, [(.tmp p42)], none⟩,
  ⟨some p44, .move, [(.tmp p8)], none⟩,
  ⟨some p45, (.bin .sub), [(.tmp p43), (.tmp p44)], none⟩,
  ⟨some p46, (.bin .sub), [(.tmp p41), (.tmp p45)], none⟩,
  ⟨some p9, .move, [(.tmp p46)], none⟩])
 (.seq (.drawn [
  ⟨0, ⟨some p47, .move, [(.tmp p7)], none⟩, .pure, []⟩,
  ⟨1, ⟨some p48, .move, [(.tmp p0)], none⟩, .pure, []⟩,
  ⟨2, ⟨some p49, .nilCheck, [(.tmp p48)], none⟩, .pure, [1]⟩,
  ⟨3, ⟨some p50, (.fieldAddr 2), [(.tmp p49)], none⟩, .pure, [2]⟩,
  ⟨4, ⟨some p51, (.load false 1), [(.tmp p50)], none⟩, (.read 0 0), [3]⟩,
  ⟨5, ⟨some p52, .move, [(.tmp p0)], none⟩, .pure, []⟩,
  ⟨6, ⟨some p53, .nilCheck, [(.tmp p52)], none⟩, .pure, [5]⟩,
  ⟨7, ⟨some p54, (.fieldAddr 2), [(.tmp p53)], none⟩, .pure, [6]⟩,
  ⟨8, ⟨some p55, (.load false 1), [(.tmp p54)], none⟩, (.read 0 0), [7]⟩,
  ⟨9, ⟨some p56, .lenL, [(.tmp p55)], none⟩, .pure, [8]⟩,
  ⟨10, ⟨some p57, .move, [(.tmp p9)], none⟩, .pure, []⟩,
  ⟨11, ⟨some p58, (.bin .sub), [(.tmp p56), (.tmp p57)], none⟩, .pure, [9, 10]⟩,
  ⟨12, ⟨some p59, (.slSlice 1 true false false), [(.tmp p51), (.tmp p58)], none⟩, .pure, [4, 11]⟩,
  ⟨13, ⟨some p60, (.copy 1), [(.tmp p47), (.tmp p59)], none⟩, .eff, [0, 12]⟩])
 (.seq (.drawn [
  ⟨0, ⟨some p61, .move, [(.tmp p7)], none⟩, .pure, []⟩,
  ⟨1, ⟨some p62, .move, [(.tmp p9)], none⟩, .pure, []⟩,
  ⟨2, ⟨some p63, (.slSlice 1 true false false), [(.tmp p61), (.tmp p62)], none⟩, .pure, [0, 1]⟩,
  ⟨3, ⟨some p64, .move, [(.tmp p1)], none⟩, .pure, []⟩,
  ⟨4, ⟨some p65, .move, [(.tmp p8)], none⟩, .pure, []⟩,
  ⟨5, ⟨some p66, (.slStr true false), [(.tmp p64), (.tmp p65)], none⟩, .pure, [3, 4]⟩,
  ⟨6, ⟨some p67, (.copy 1), [(.tmp p63), (.tmp p66)], none⟩, .eff, [2, 5]⟩])
 (.seq (.reg [
  ⟨some p68, .move, [(.tmp p0)], none⟩,
  ⟨some p69, .move, [(.tmp p7)], none⟩,
  ⟨some p70, .nilCheck, [(.tmp p68)], none⟩,
  ⟨some p71, (.fieldAddr 2), [(.tmp p70)], none⟩,
  ⟨none, (.store 1), [(.tmp p71), (.tmp p69)], none⟩])
 (.seq (.reg [
  ⟨some p72, .move, [(.tmp p0)], none⟩,
  ⟨some p73, .move, [(.tmp p5)], none⟩,
  ⟨some p74, .move, [(.tmp p6)], none⟩,
  ⟨some p75, (.bin .sub), [(.tmp p73), (.tmp p74)], none⟩,
  ⟨some p76, .nilCheck, [(.tmp p72)], none⟩,
  ⟨some p77, (.fieldAddr 1), [(.tmp p76)], none⟩,
  ⟨none, (.store 1), [(.tmp p77), (.tmp p75)], none⟩])
 (.seq (.reg [
  ⟨some p4, .move, [(.const (.int .i64 (.ofNat 0)))], none⟩])
 (.ret [.tmp p4]))))))))))))),
 [.tmp p4]⟩
def F41 : IFn := ⟨3,
(.seq (.reg [
  ⟨some p6, .move, [(.const (.str []))], none⟩,
  ⟨some p7, .move, [(.const (.int .i64 (.ofNat 0)))], none⟩,
  ⟨some p8, .move, [(.const (.int .i64 (.ofNat 0)))], none⟩])
 (.seq (.block 0 [p0, p1, p2] (.seq (.seq (.reg [
  ⟨some p11, .move, [(.tmp p1)], none⟩,
  ⟨some p12, (.bin .lss), [(.tmp p11), (.const (.int .i64 (.ofNat 0)))], none⟩,
  ⟨some p10, .move, [(.tmp p12)], none⟩])
 (.cond (.tmp p10)
 .skip
 (.reg [
  ⟨some p13, .move, [(.tmp p2)], none⟩,
  ⟨some p14, (.bin .lss), [(.tmp p13), (.const (.int .i64 (.ofNat 0)))], none⟩,
  ⟨some p10, .move, [(.tmp p14)], none⟩])))
 (.cond (.tmp p10)
 (.seq (.reg [
  ⟨some p6, .move, [(.const (.str []))], none⟩,
  ⟨some p7, .move, [(.const (.int .i64 (.ofNat 0)))], none⟩,
  ⟨some p8, .move, [(.const (.int .i64 (.ofNat 1)))], none⟩])
 (.ret [.tmp p6, .tmp p7, .tmp p8]))
 (.seq (.reg [
  ⟨some p16, .move, [(.tmp p1)], none⟩,
  ⟨some p17, .move, [(.tmp p0)], none⟩,
  ⟨some p18, .nilCheck, [(.tmp p17)], none⟩,
  ⟨some p19, (.fieldAddr 1), [(.tmp p18)], none⟩,
  ⟨some p20, (.load false 1), [(.tmp p19)], none⟩,
  ⟨some p21, (.bin .lss), [(.tmp p16), (.tmp p20)], none⟩,
  ⟨some p15, .move, [(.tmp p21)], none⟩])
 (.cond (.tmp p15)
 (.seq (.reg [
  ⟨some p6, .move, [(.const (.str []))], none⟩,
  ⟨some p7, .move, [(.const (.int .i64 (.ofNat 0)))], none⟩,
  ⟨some p8, .move, [(.const (.int .i64 (.ofNat 60)))], none⟩])
 (.ret [.tmp p6, .tmp p7, .tmp p8]))
 (.seq (.reg [
  ⟨some p23, .move, [(.tmp p1)], none⟩,
  ⟨some p24, .move, [(.tmp p0)], none⟩,
  ⟨some p25, .call, [(.const (.fn 39 [] [])), (.tmp p24)], none⟩,
  ⟨some p26, (.bin .gtr), [(.tmp p23), (.tmp p25)], none⟩,
  ⟨some p22, .move, [(.tmp p26)], none⟩])
 (.cond (.tmp p22)
 (.seq (.reg [
  ⟨some p6, .move, [(.const (.str []))], none⟩,
  ⟨some p7, .move, [(.const (.int .i64 (.ofNat 0)))], none⟩,
  ⟨some p8, .move, [(.const (.int .i64 (.ofNat 61)))], none⟩])
 (.ret [.tmp p6, .tmp p7, .tmp p8]))
 .skip)))))))
 (.seq (.reg [
  ⟨some p27, .move, [(.tmp p2)], none⟩,
  ⟨some p28, .move, [(.tmp p0)], none⟩,
  ⟨some p29, .call, [(.const (.fn 39 [] [])), (.tmp p28)], none⟩,
  ⟨some p30, .move, [(.tmp p1)], none⟩,
  ⟨some p31, (.bin .sub), [(.tmp p29), (.tmp p30)], none⟩,
  ⟨some p32, .min, [(.tmp p27), (.tmp p31)], none⟩,
  ⟨some p9, .move, [(.tmp p32)], none⟩])
 (.seq (.drawn [
  ⟨0, ⟨some p33, .move, [(.tmp p0)], none⟩, .pure, []⟩,
  ⟨1, ⟨some p34, .move, [(.tmp p1)], none⟩, .pure, []⟩,
  ⟨2, ⟨some p35, .move, [(.tmp p0)], none⟩, .pure, []⟩,
  ⟨3, ⟨some p36, .nilCheck, [(.tmp p35)], none⟩, .pure, [2]⟩,
  ⟨4, ⟨some p37, (.fieldAddr 1), [(.tmp p36)], none⟩, .pure, [3]⟩,
  ⟨5, ⟨some p38, (.load false 1), [(.tmp p37)], none⟩, (.read 0 0), [4]⟩,
  ⟨6, ⟨some p39, (.bin .sub), [(.tmp p34), (.tmp p38)], none⟩, .pure, [1, 5]⟩,
  ⟨7, ⟨some p40, .move, [(.tmp p1)], none⟩, .pure, []⟩,
  ⟨8, ⟨some p41, .move, [(.tmp p0)], none⟩, .pure, []⟩,
  ⟨9, ⟨some p42, .nilCheck, [(.tmp p41)], none⟩, .pure, [8]⟩,
  ⟨10, ⟨some p43, (.fieldAddr 1), [(.tmp p42)], none⟩, .pure, [9]⟩,
  ⟨11, ⟨some p44, (.load false 1), [(.tmp p43)], none⟩, (.read 0 0), [10]⟩,
  ⟨12, ⟨some p45, (.bin .sub), [(.tmp p40), (.tmp p44)], none⟩, .pure, [7, 11]⟩,
  ⟨13, ⟨some p46, .move, [(.tmp p9)], none⟩, .pure, []⟩,
  ⟨14, ⟨some p47, (.bin .add), [(.tmp p45), (.tmp p46)], none⟩, .pure, [12, 13]⟩,
  ⟨15, ⟨some p48, .call, [(.const (.fn 65 [] [])), (.tmp p33), (.tmp p39), (.tmp p47)], none⟩, .eff, [0, 6, 14]⟩,
  ⟨16, ⟨some p49, .convBytesStr, [(.tmp p48)], none⟩, (.read 1 1), [15]⟩,
  ⟨17, ⟨some p50, .move, [(.tmp p1)], none⟩, .pure, []⟩,
  ⟨18, ⟨some p51, .move, [(.tmp p9)], none⟩, .pure, []⟩,
  ⟨19, ⟨some p52, (.bin .add), [(.tmp p50), (.tmp p51)], none⟩, .pure, [17, 18]⟩,
  ⟨20, ⟨some p6, .move, [(.tmp p49)], none⟩, .pure, [16, 15, 0, 1, 2, 3, 4, 5, 6, 7, 8, 9, 10, 11, 12, 13, 14, 15, 16]⟩,
  ⟨21, ⟨some p7, .move, [(.tmp p52)], none⟩, .pure, [19, 20, 0, 1, 2, 3, 4, 5, 6, 7, 8, 9, 10, 11, 12, 13, 14, 15, 16, 17, 18, 19, 20]⟩,
  ⟨22, ⟨some p8, .move, [(.const (.int .i64 (.ofNat 0)))], none⟩, .pure, [21, 0, 1, 2, 3, 4, 5, 6, 7, 8, 9, 10, 11, 12, 13, 14, 15, 16, 17, 18, 19, 20, 21]⟩])
 (.ret [.tmp p6, .tmp p7, .tmp p8]))))),
 [.tmp p6, .tmp p7, .tmp p8]⟩
def F42 : IFn := ⟨1,
(.seq (.reg [
  ⟨some p3, .move, [(.tmp p0)], none⟩,
  ⟨some p4, .lenL, [(.tmp p3)], none⟩,
  ⟨some p2, .move, [(.tmp p4)], none⟩])
 (.reg [
  ⟨some p5, .move, [(.tmp p0)], none⟩,
  ⟨some p6, .move, [(.tmp p2)], none⟩,
  ⟨some p7, .move, [(.tmp p2)], none⟩,
  ⟨some p8, (.convInt .u64), [(.tmp p7)], none⟩,
  ⟨some p9, .call, [(.const (.fn 67 [] [])), (.tmp p8)], none⟩,
  ⟨some p10, .call, [(.const (.fn 66 [] [])), (.tmp p5), (.const (.int .i64 (.ofNat 0))), (.tmp p6), (.tmp p9)], none⟩])),
 []⟩
def F43 : IFn := ⟨1,
(.seq (.reg [
  ⟨some p2, .move, [(.const (.bool false))], none⟩])
 (.seq (.seq (.reg [
  ⟨some p4, .move, [(.tmp p0)], none⟩,
  ⟨some p5, .lenS, [(.tmp p4)], none⟩,
  ⟨some p6, (.bin .lss), [(.tmp p5), (.const (.int .i64 (.ofNat 1)))], none⟩,
  ⟨some p7, .move, [(.tmp p6)], none⟩,
  ⟨some p8, .move, [(.tmp p0)], some (p7, false)⟩,
  ⟨some p9, .lenS, [(.tmp p8)], some (p7, false)⟩,
  ⟨some p10, (.bin .gtr), [(.tmp p9), (.const (.int .i64 (.ofNat 32)))], some (p7, false)⟩,
  ⟨some p11, .pick, [(.tmp p7), (.const (.bool true)), (.tmp p10)], none⟩])
 (.cond (.tmp p11)
 (.seq (.reg [
  ⟨some p2, .move, [(.const (.bool false))], none⟩])
 (.ret [.tmp p2]))
 .skip))
 (.seq (.seq (.reg [
  ⟨some p3, .move, [(.const (.int .i64 (.ofNat 0)))], none⟩])
 (.block 0 [p0] (.loop [p0, p3] (.seq (.seq (.reg [
  ⟨some p12, .move, [(.tmp p3)], none⟩,
  ⟨some p13, .move, [(.tmp p0)], none⟩,
  ⟨some p14, .lenS, [(.tmp p13)], none⟩,
  ⟨some p15, (.bin .lss), [(.tmp p12), (.tmp p14)], none⟩])
 (.cond (.tmp p15)
 .skip
 (.exit 0 [p0])))
 (.seq (.block 1 [p0, p3] (.seq (.reg [
  ⟨some p18, .move, [(.tmp p0)], none⟩,
  ⟨some p19, .move, [(.tmp p3)], none⟩,
  ⟨some p20, .idxStr, [(.tmp p18), (.tmp p19)], none⟩,
  ⟨some p21, (.bin .lss), [(.tmp p20), (.const (.int .u8 (.ofNat 32)))], none⟩,
  ⟨some p22, .move, [(.tmp p21)], none⟩,
  ⟨some p23, .move, [(.tmp p0)], some (p22, false)⟩,
  ⟨some p24, .move, [(.tmp p3)], some (p22, false)⟩,
  ⟨some p25, .idxStr, [(.tmp p23), (.tmp p24)], some (p22, false)⟩,
  ⟨some p26, (.bin .gtr), [(.tmp p25), (.const (.int .u8 (.ofNat 126)))], some (p22, false)⟩,
  ⟨some p27, .pick, [(.tmp p22), (.const (.bool true)), (.tmp p26)], none⟩,
  ⟨some p28, .move, [(.tmp p27)], none⟩,
  ⟨some p29, .move, [(.tmp p0)], some (p28, false)⟩,
  ⟨some p30, .move, [(.tmp p3)], some (p28, false)⟩,
  ⟨some p31, .idxStr, [(.tmp p29), (.tmp p30)], some (p28, false)⟩,
  ⟨some p32, (.eql (.base .int) false), [(.tmp p31), (.const (.int .u8 (.ofNat 46)))], some (p28, false)⟩,
  ⟨some p33, .pick, [(.tmp p28), (.const (.bool true)), (.tmp p32)], none⟩,
  ⟨some p34, .move, [(.tmp p33)], none⟩,
  ⟨some p35, .move, [(.tmp p0)], some (p34, false)⟩,
  ⟨some p36, .move, [(.tmp p3)], some (p34, false)⟩,
  ⟨some p37, .idxStr, [(.tmp p35), (.tmp p36)], some (p34, false)⟩,
  ⟨some p38, (.eql (.base .int) false), [(.tmp p37), (.const (.int .u8 (.ofNat 58)))], some (p34, false)⟩,
  ⟨some p39, .pick, [(.tmp p34), (.const (.bool true)), (.tmp p38)], none⟩])
 (.cond (.tmp p39)
 (.seq (.reg [
  ⟨some p2, .move, [(.const (.bool false))], none⟩])
 (.ret [.tmp p2]))
 .skip)))
 (.reg [
  ⟨some p16, .move, [(.tmp p3)], none⟩,
  ⟨some p17, (.bin .add), [(.tmp p16), (.const (.int .i64 (.ofNat 1)))], none⟩,
  ⟨some p3, .move, [(.tmp p17)], none⟩]))))))
 (.seq (.reg [
  ⟨some p40, .move, [(.tmp p0)], none⟩,
  ⟨some p41, .idxStr, [(.tmp p40), (.const (.int .i64 (.ofNat 0)))], none⟩,
  ⟨some p42, .call, [(.const (.fn 68 [] [])), (.const (.str [32, 33, 36, 37, 43, 45, 61, 64, 94, 123])), (.tmp p41)], none⟩,
  ⟨some p43, (.bin .lss), [(.tmp p42), (.const (.int .i64 (.ofNat 0)))], none⟩,
  ⟨some p44, .move, [(.tmp p43)], none⟩,
  ⟨some p45, .move, [(.tmp p0)], some (p44, true)⟩,
  ⟨some p46, .move, [(.tmp p0)], some (p44, true)⟩,
  ⟨some p47, .lenS, [(.tmp p46)], some (p44, true)⟩,
  ⟨some p48, (.bin .sub), [(.tmp p47), (.const (.int .i64 (.ofNat 1)))], some (p44, true)⟩,
  ⟨some p49, .idxStr, [(.tmp p45), (.tmp p48)], some (p44, true)⟩,
  ⟨some p50, (.eql (.base .int) true), [(.tmp p49), (.const (.int .u8 (.ofNat 32)))], some (p44, true)⟩,
  ⟨some p51, .pick, [(.tmp p44), (.tmp p50), (.const (.bool false))], none⟩,
  ⟨some p2, .move, [(.tmp p51)], none⟩])
 (.ret [.tmp p2]))))),
 [.tmp p2]⟩
def F44 : IFn := ⟨1,
(.seq (.reg [
  ⟨some p2, .move, [(.const (.int .i64 (.ofNat 0)))], none⟩])
 (.seq (.reg [
  ⟨some p3, .move, [(.tmp p0)], none⟩,
  ⟨some p4, .nilCheck, [(.tmp p3)], none⟩,
  ⟨some p5, (.fieldAddr 0), [(.tmp p4)], none⟩,
  ⟨some p6, (.load false 1), [(.tmp p5)], none⟩,
  ⟨some p7, .lenM, [(.tmp p6)], none⟩,
  ⟨some p2, .move, [(.tmp p7)], none⟩])
 (.ret [.tmp p2]))),
 [.tmp p2]⟩
def F45 : IFn := ⟨1,
(.seq (.reg [
  ⟨some p2, .move, [(.const (.int .i64 (.ofNat 0)))], none⟩])
 (.seq (.reg [
  ⟨some p3, .move, [(.tmp p0)], none⟩,
  ⟨some p4, .nilCheck, [(.tmp p3)], none⟩,
  ⟨some p5, (.fieldAddr 0), [(.tmp p4)], none⟩,
  ⟨some p6, (.load false 1), [(.tmp p5)], none⟩,
  ⟨some p7, .lenM, [(.tmp p6)], none⟩,
  ⟨some p2, .move, [(.tmp p7)], none⟩])
 (.ret [.tmp p2]))),
 [.tmp p2]⟩
def F46 : IFn := ⟨1,
(.seq (.reg [
  ⟨some p2, .move, [(.const (.int .i64 (.ofNat 0)))], none⟩])
 (.seq (.reg [
  ⟨some p3, .move, [(.tmp p0)], none⟩,
  ⟨some p4, .nilCheck, [(.tmp p3)], none⟩,
  ⟨some p5, (.fieldAddr 0), [(.tmp p4)], none⟩,
  ⟨some p6, (.load false 1), [(.tmp p5)], none⟩,
  ⟨some p7, .lenM, [(.tmp p6)], none⟩,
  ⟨some p2, .move, [(.tmp p7)], none⟩])
 (.ret [.tmp p2]))),
 [.tmp p2]⟩
def F47 : IFn := ⟨1,
(.seq (.reg [
  ⟨some p2, .move, [(.const (.int .i64 (.ofNat 0)))], none⟩])
 (.seq (.reg [
  ⟨some p3, .move, [(.const (.int .i64 (.ofNat 0)))], none⟩])
 (.seq (.seq (.reg [
  ⟨some p6, .move, [(.tmp p0)], none⟩,
  ⟨some p7, .nilCheck, [(.tmp p6)], none⟩,
  ⟨some p8, (.fieldAddr 3), [(.tmp p7)], none⟩,
  ⟨some p9, (.load false 1), [(.tmp p8)], none⟩,
  ⟨some p10, .call, [(.const (.fn 13 [] [])), (.tmp p9)], none⟩,
  ⟨some p11, .lenL, [(.tmp p10)], none⟩,
  ⟨some p12, .move, [(.const (.int .i64 (.ofNat 0)))], none⟩])
 (.block 0 [p3] (.loop [p0, p3, p10, p11, p12] (.seq (.reg [
  ⟨some p13, (.bin .lss), [(.tmp p12), (.tmp p11)], none⟩])
 (.seq (.cond (.tmp p13)
 .skip
 (.exit 0 [p3]))
 (.seq (.block 1 [p0, p3, p10, p11, p12] (.seq (.reg [
  ⟨some p14, (.idxSlice 1), [(.tmp p10), (.tmp p12)], none⟩,
  ⟨some p15, (.load false 1), [(.tmp p14)], none⟩,
  ⟨some p5, .move, [(.tmp p15)], none⟩])
 (.reg [
  ⟨some p16, .move, [(.tmp p3)], none⟩,
  ⟨some p17, .move, [(.tmp p0)], none⟩,
  ⟨some p18, .nilCheck, [(.tmp p17)], none⟩,
  ⟨some p19, (.fieldAddr 3), [(.tmp p18)], none⟩,
  ⟨some p20, (.load false 1), [(.tmp p19)], none⟩,
  ⟨some p21, .move, [(.tmp p5)], none⟩,
  ⟨some p22, .call, [(.const (.fn 14 [] [])), (.tmp p20), (.tmp p21)], none⟩,
  ⟨some p23, .nilCheck, [(.tmp p22)], none⟩,
  ⟨some p24, (.fieldAddr 2), [(.tmp p23)], none⟩,
  ⟨some p25, (.load false 1), [(.tmp p24)], none⟩,
  ⟨some p26, .lenL, [(.tmp p25)], none⟩,
  ⟨some p27, (.bin .add), [(.tmp p16), (.tmp p26)], none⟩,
  ⟨some p3, .move, [(.tmp p27)], none⟩])))
 (.reg [
  ⟨some p28, (.bin .add), [(.tmp p12), (.const (.int .i64 (.ofNat 1)))], none⟩,
  ⟨some p12, .move, [(.tmp p28)], none⟩])))))))
 (.seq (.reg [
  ⟨some p29, .move, [(.tmp p3)], none⟩,
  ⟨some p2, .move, [(.tmp p29)], none⟩])
 (.ret [.tmp p2]))))),
 [.tmp p2]⟩
def F48 : IFn := ⟨1,
(.seq (.reg [
  ⟨some p2, .move, [(.const (.str []))], none⟩])
 (.seq (.reg [
  ⟨some p3, .move, [(.tmp p0)], none⟩,
  ⟨some p4, .call, [(.const (.fn 69 [] [])), (.tmp p3)], none⟩,
  ⟨some p2, .move, [(.tmp p4)], none⟩])
 (.ret [.tmp p2]))),
 [.tmp p2]⟩
def F49 : IFn := ⟨2,
(.seq (.reg [
  ⟨some p4, .move, [(.const (.int .i64 (.ofNat 0)))], none⟩])
 (.seq (.reg [
  ⟨some p5, .move, [(.tmp p0)], none⟩,
  ⟨some p6, .nilCheck, [(.tmp p5)], none⟩,
  ⟨some p7, (.fieldAddr 1), [(.tmp p6)], none⟩,
  ⟨some p8, (.load false 1), [(.tmp p7)], none⟩,
  ⟨some p9, (.bin .add), [(.tmp p8), (.const (.int .i64 (.ofNat 1)))], none⟩,
  ⟨some p10, .nilCheck, [(.tmp p5)], none⟩,
  ⟨some p11, (.fieldAddr 1), [(.tmp p10)], none⟩,
  ⟨none, (.store 1), [(.tmp p11), (.tmp p9)], none⟩])
 (.seq (.drawn [
  ⟨0, ⟨some p12, .move, [(.tmp p0)], none⟩, .pure, []⟩,
  ⟨1, ⟨some p13, .nilCheck, [(.tmp p12)], none⟩, .pure, [0]⟩,
  ⟨2, ⟨some p14, (.fieldAddr 0), [(.tmp p13)], none⟩, .pure, [1]⟩,
  ⟨3, ⟨some p15, (.load false 1), [(.tmp p14)], none⟩, (.read 0 0), [2]⟩,
  ⟨4, ⟨some p16, .move, [(.tmp p0)], none⟩, .pure, []⟩,
  ⟨5, ⟨some p17, .nilCheck, [(.tmp p16)], none⟩, .pure, [4]⟩,
  ⟨6, ⟨some p18, (.fieldAddr 1), [(.tmp p17)], none⟩, .pure, [5]⟩,
  ⟨7, ⟨some p19, (.load false 1), [(.tmp p18)], none⟩, (.read 0 0), [6]⟩,
  ⟨8, ⟨some p20, .move, [(.tmp p1)], none⟩, .pure, []⟩,
  ⟨9, ⟨none, (.mapUpdate false), [(.tmp p15), (.tmp p19), (.tmp p20)], none⟩, .eff, [3, 7, 8, 0, 1, 2, 3, 4, 5, 6, 7, 8]⟩])
 (.seq (.reg [
  ⟨some p21, .move, [(.tmp p0)], none⟩,
  ⟨some p22, .nilCheck, [(.tmp p21)], none⟩,
  ⟨some p23, (.fieldAddr 1), [(.tmp p22)], none⟩,
  ⟨some p24, (.load false 1), [(.tmp p23)], none⟩,
  ⟨some p4, .move, [(.tmp p24)], none⟩])
 (.ret [.tmp p4]))))),
 [.tmp p4]⟩
def F50 : IFn := ⟨3,
(.seq (.reg [
  ⟨some p6, .move, [(.const .snil)], none⟩,
  ⟨some p7, .move, [(.const (.int .i64 (.ofNat 0)))], none⟩])
 (.seq (.block 0 [p0, p1, p2] (.seq (.seq (.reg [
  ⟨some p9, .move, [(.tmp p0)], none⟩,
  ⟨some p10, .call, [(.const (.fn 70 [] [])), (.tmp p9)], none⟩,
  ⟨some p11, .not, [(.tmp p10)], none⟩,
  ⟨some p8, .move, [(.tmp p11)], none⟩])
 (.cond (.tmp p8)
 .skip
 (.reg [
  ⟨some p12, .move, [(.tmp p1)], none⟩,
  ⟨some p13, .call, [(.const (.fn 70 [] [])), (.tmp p12)], none⟩,
  ⟨some p14, .not, [(.tmp p13)], none⟩,
  ⟨some p8, .move, [(.tmp p14)], none⟩])))
 (.cond (.tmp p8)
 (.seq (.reg [
  ⟨some p6, .move, [(.const .snil)], none⟩,
  ⟨some p7, .move, [(.const (.int .i64 (.ofNat 41)))], none⟩])
 (.ret [.tmp p6, .tmp p7]))
 (.seq (.reg [
  ⟨some p16, .move, [(.tmp p2)], none⟩,
  ⟨some p17, .call, [(.const (.fn 71 [] [])), (.tmp p16)], none⟩,
  ⟨some p18, .not, [(.tmp p17)], none⟩,
  ⟨some p15, .move, [(.tmp p18)], none⟩])
 (.cond (.tmp p15)
 (.seq (.reg [
  ⟨some p6, .move, [(.const .snil)], none⟩,
  ⟨some p7, .move, [(.const (.int .i64 (.ofNat 43)))], none⟩])
 (.ret [.tmp p6, .tmp p7]))
 .skip)))))
 (.seq (.reg [
  ⟨some p19, .move, [(.tmp p0)], none⟩,
  ⟨some p20, .move, [(.tmp p1)], none⟩,
  ⟨some p21, .move, [(.tmp p2)], none⟩,
  ⟨some p22, (.build [(.int .i64 (.ofNat 0)), (.int .i64 (.ofNat 0)), (.int .i64 (.ofNat 0)), (.int .i64 (.ofNat 0)), (.int .i64 (.ofNat 0)), (.int .i64 (.ofNat 0)), (.int .i64 (.ofNat 0))] [(1, 1), (4, 1), (5, 1), (6, 1)]), [(.const (.int .i64 (.ofNat 1))), (.tmp p19), (.tmp p20), (.tmp p21)], none⟩,
  ⟨some p23, (.buildSlice 91 7 [(.int .i64 (.ofNat 0)), (.int .i64 (.ofNat 0)), (.int .i64 (.ofNat 0)), (.int .i64 (.ofNat 0)), (.int .i64 (.ofNat 0)), (.int .i64 (.ofNat 0)), (.int .i64 (.ofNat 0))] 1 [(0, 7)]), [(.tmp p22)], none⟩,
  ⟨some p6, .move, [(.tmp p23)], none⟩,
  ⟨some p7, .move, [(.const (.int .i64 (.ofNat 0)))], none⟩])
 (.ret [.tmp p6, .tmp p7])))),
 [.tmp p6, .tmp p7]⟩
def F51 : IFn := ⟨1,
(.seq (.reg [
  ⟨some p2, .move, [(.const .inil)], none⟩])
 (.seq (.seq (.reg [
  ⟨some p8, .move, [(.tmp p0)], none⟩,
  ⟨some p9, .lenL, [(.tmp p8)], none⟩,
  ⟨some p10, (.eql (.base .int) false), [(.tmp p9), (.const (.int .i64 (.ofNat 0)))], none⟩,
  ⟨some p11, .move, [(.tmp p10)], none⟩,
  ⟨some p12, .move, [(.tmp p0)], some (p11, false)⟩,
  ⟨some p13, .lenL, [(.tmp p12)], some (p11, false)⟩,
  ⟨some p14, (.bin .gtr), [(.tmp p13), (.const (.int .i64 (.ofNat 64)))], some (p11, false)⟩,
  ⟨some p15, .pick, [(.tmp p11), (.const (.bool true)), (.tmp p14)], none⟩,
  ⟨some p16, .move, [(.tmp p15)], none⟩,
  ⟨some p17, .move, [(.tmp p0)], some (p16, false)⟩,
  ⟨some p18, (.idxSlice 7), [(.tmp p17), (.const (.int .i64 (.ofNat 0)))], some (p16, false)⟩,
  ⟨some p19, (.fieldAddr 4), [(.tmp p18)], some (p16, false)⟩,
  ⟨some p20, (.load false 1), [(.tmp p19)], some (p16, false)⟩,
  ⟨some p21, .call, [(.const (.fn 70 [] [])), (.tmp p20)], some (p16, false)⟩,
  ⟨some p22, .not, [(.tmp p21)], some (p16, false)⟩,
  ⟨some p23, .pick, [(.tmp p16), (.const (.bool true)), (.tmp p22)], none⟩,
  ⟨some p24, .move, [(.tmp p23)], none⟩,
  ⟨some p25, .move, [(.tmp p0)], some (p24, false)⟩,
  ⟨some p26, (.idxSlice 7), [(.tmp p25), (.const (.int .i64 (.ofNat 0)))], some (p24, false)⟩,
  ⟨some p27, (.fieldAddr 5), [(.tmp p26)], some (p24, false)⟩,
  ⟨some p28, (.load false 1), [(.tmp p27)], some (p24, false)⟩,
  ⟨some p29, .call, [(.const (.fn 70 [] [])), (.tmp p28)], some (p24, false)⟩,
  ⟨some p30, .not, [(.tmp p29)], some (p24, false)⟩,
  ⟨some p31, .pick, [(.tmp p24), (.const (.bool true)), (.tmp p30)], none⟩])
 (.cond (.tmp p31)
 (.seq (.reg [
  ⟨some p2, .move, [(.const .inil)], none⟩])
 (.ret [.tmp p2]))
 .skip))
 (.seq (.reg [
  ⟨some p32, .mkMap, [], none⟩,
  ⟨some p3, .move, [(.tmp p32)], none⟩])
 (.seq (.seq (.reg [
  ⟨some p33, .move, [(.tmp p0)], none⟩,
  ⟨some p34, .lenL, [(.tmp p33)], none⟩,
  ⟨some p35, .move, [(.const (.int .i64 (.ofNat 0)))], none⟩])
 (.block 0 [p0, p3] (.loop [p0, p3, p33, p34, p35] (.seq (.reg [
  ⟨some p36, (.bin .lss), [(.tmp p35), (.tmp p34)], none⟩])
 (.seq (.cond (.tmp p36)
 .skip
 (.exit 0 [p0, p3]))
 (.seq (.block 1 [p0, p3, p33, p34, p35] (.seq (.reg [
  ⟨some p37, (.idxSlice 7), [(.tmp p33), (.tmp p35)], none⟩,
  ⟨some p38, (.load true 7), [(.tmp p37)], none⟩,
  ⟨some p5, (.alloc 91 [(.int .i64 (.ofNat 0)), (.int .i64 (.ofNat 0)), (.int .i64 (.ofNat 0)), (.int .i64 (.ofNat 0)), (.int .i64 (.ofNat 0)), (.int .i64 (.ofNat 0)), (.int .i64 (.ofNat 0))]), [], none⟩,
  ⟨none, (.store 7), [(.tmp p5), (.tmp p38)], none⟩])
 (.seq (.seq (.reg [
  ⟨some p39, (.fieldAddr 4), [(.tmp p5)], none⟩,
  ⟨some p40, (.load false 1), [(.tmp p39)], none⟩,
  ⟨some p41, (.bin .lss), [(.tmp p40), (.const (.int .i64 (.ofNat 1)))], none⟩,
  ⟨some p42, .move, [(.tmp p41)], none⟩,
  ⟨some p43, (.fieldAddr 4), [(.tmp p5)], some (p42, false)⟩,
  ⟨some p44, (.load false 1), [(.tmp p43)], some (p42, false)⟩,
  ⟨some p45, (.bin .gtr), [(.tmp p44), (.const (.int .i64 (.ofNat 1000)))], some (p42, false)⟩,
  ⟨some p46, .pick, [(.tmp p42), (.const (.bool true)), (.tmp p45)], none⟩,
  ⟨some p47, .move, [(.tmp p46)], none⟩,
  ⟨some p48, (.fieldAddr 5), [(.tmp p5)], some (p47, false)⟩,
  ⟨some p49, (.load false 1), [(.tmp p48)], some (p47, false)⟩,
  ⟨some p50, (.bin .lss), [(.tmp p49), (.const (.int .i64 (.ofNat 1)))], some (p47, false)⟩,
  ⟨some p51, .pick, [(.tmp p47), (.const (.bool true)), (.tmp p50)], none⟩,
  ⟨some p52, .move, [(.tmp p51)], none⟩,
  ⟨some p53, (.fieldAddr 5), [(.tmp p5)], some (p52, false)⟩,
  ⟨some p54, (.load false 1), [(.tmp p53)], some (p52, false)⟩,
  ⟨some p55, (.bin .gtr), [(.tmp p54), (.const (.int .i64 (.ofNat 1000)))], some (p52, false)⟩,
  ⟨some p56, .pick, [(.tmp p52), (.const (.bool true)), (.tmp p55)], none⟩])
 (.cond (.tmp p56)
 (.seq (.reg [
  ⟨some p2, .move, [(.const .inil)], none⟩])
 (.ret [.tmp p2]))
 .skip))
 (.seq (.reg [
  ⟨some p57, (.fieldAddr 1), [(.tmp p5)], none⟩,
  ⟨some p58, (.load false 1), [(.tmp p57)], none⟩,
  ⟨some p59, (.eql (.base .int) false), [(.tmp p58), (.const (.int .i64 (.ofNat 1)))], none⟩])
 (.cond (.tmp p59)
 (.seq (.seq (.reg [
  ⟨some p60, (.fieldAddr 6), [(.tmp p5)], none⟩,
  ⟨some p61, (.load false 1), [(.tmp p60)], none⟩,
  ⟨some p62, .call, [(.const (.fn 71 [] [])), (.tmp p61)], none⟩,
  ⟨some p63, .not, [(.tmp p62)], none⟩,
  ⟨some p64, .move, [(.tmp p63)], none⟩,
  ⟨some p65, .move, [(.tmp p3)], some (p64, false)⟩,
  ⟨some p66, (.fieldAddr 6), [(.tmp p5)], some (p64, false)⟩,
  ⟨some p67, (.load false 1), [(.tmp p66)], some (p64, false)⟩,
  ⟨some p68, (.lookup false (.int .i64 (.ofNat 0)) false), [(.tmp p65), (.tmp p67)], some (p64, false)⟩,
  ⟨some p69, (.bin .gtr), [(.tmp p68), (.const (.int .i64 (.ofNat 0)))], some (p64, false)⟩,
  ⟨some p70, .pick, [(.tmp p64), (.const (.bool true)), (.tmp p69)], none⟩])
 (.cond (.tmp p70)
 (.seq (.reg [
  ⟨some p2, .move, [(.const .inil)], none⟩])
 (.ret [.tmp p2]))
 .skip))
 (.reg [
  ⟨some p71, .move, [(.tmp p3)], none⟩,
  ⟨some p72, (.fieldAddr 6), [(.tmp p5)], none⟩,
  ⟨some p73, (.load false 1), [(.tmp p72)], none⟩,
  ⟨some p74, (.lookup false (.int .i64 (.ofNat 0)) false), [(.tmp p71), (.tmp p73)], none⟩,
  ⟨some p75, (.bin .add), [(.tmp p74), (.const (.int .i64 (.ofNat 1)))], none⟩,
  ⟨none, (.mapUpdate false), [(.tmp p71), (.tmp p73), (.tmp p75)], none⟩]))
 (.seq (.reg [
  ⟨some p76, (.fieldAddr 6), [(.tmp p5)], none⟩,
  ⟨some p77, (.load false 1), [(.tmp p76)], none⟩,
  ⟨some p78, (.eql (.base .int) true), [(.tmp p77), (.const (.int .i64 (.ofNat 0)))], none⟩,
  ⟨some p79, .move, [(.tmp p78)], none⟩,
  ⟨some p80, (.fieldAddr 1), [(.tmp p5)], some (p79, false)⟩,
  ⟨some p81, (.load false 1), [(.tmp p80)], some (p79, false)⟩,
  ⟨some p82, .call, [(.const (.fn 52 [] [])), (.tmp p81)], some (p79, false)⟩,
  ⟨some p83, .not, [(.tmp p82)], some (p79, false)⟩,
  ⟨some p84, .pick, [(.tmp p79), (.const (.bool true)), (.tmp p83)], none⟩])
 (.cond (.tmp p84)
 (.seq (.reg [
  ⟨some p2, .move, [(.const .inil)], none⟩])
 (.ret [.tmp p2]))
 .skip)))))))
 (.reg [
  ⟨some p85, (.bin .add), [(.tmp p35), (.const (.int .i64 (.ofNat 1)))], none⟩,
  ⟨some p35, .move, [(.tmp p85)], none⟩])))))))
 (.seq (.seq (.reg [
  ⟨some p86, .move, [(.tmp p3)], none⟩,
  ⟨some p87, .lenM, [(.tmp p86)], none⟩,
  ⟨some p88, (.bin .gtr), [(.tmp p87), (.const (.int .i64 (.ofNat 32)))], none⟩])
 (.cond (.tmp p88)
 (.seq (.reg [
  ⟨some p2, .move, [(.const .inil)], none⟩])
 (.ret [.tmp p2]))
 .skip))
 (.seq (.reg [
  ⟨some p90, .move, [(.tmp p0)], none⟩,
  ⟨some p91, .call, [(.const (.fn 72 [] [])), (.tmp p90), (.const (.int .i64 (.ofNat 0)))], none⟩,
  ⟨some p89, .move, [(.tmp p91)], none⟩,
  ⟨some p92, (.extract 0), [(.tmp p89)], none⟩,
  ⟨some p93, (.extract 1), [(.tmp p89)], none⟩,
  ⟨some p6, .move, [(.tmp p92)], none⟩,
  ⟨some p7, .move, [(.tmp p93)], none⟩])
 (.seq (.seq (.reg [
  ⟨some p94, .move, [(.tmp p6)], none⟩,
  ⟨some p95, (.eql (.iface true) false), [(.tmp p94), (.const .inil)], none⟩,
  ⟨some p96, .move, [(.tmp p95)], none⟩,
  ⟨some p97, .move, [(.tmp p7)], some (p96, false)⟩,
  ⟨some p98, .lenL, [(.tmp p97)], some (p96, false)⟩,
  ⟨some p99, (.bin .gtr), [(.tmp p98), (.const (.int .i64 (.ofNat 0)))], some (p96, false)⟩,
  ⟨some p100, .pick, [(.tmp p96), (.const (.bool true)), (.tmp p99)], none⟩,
  ⟨some p101, .move, [(.tmp p100)], none⟩,
  ⟨some p102, .move, [(.tmp p6)], some (p101, false)⟩,
  ⟨some p103, .call, [(.const (.fn 62 [] [])), (.tmp p102)], some (p101, false)⟩,
  ⟨some p104, .move, [(.tmp p0)], some (p101, false)⟩,
  ⟨some p105, .call, [(.const (.fn 73 [] [])), (.tmp p103), (.tmp p104)], some (p101, false)⟩,
  ⟨some p106, .not, [(.tmp p105)], some (p101, false)⟩,
  ⟨some p107, .pick, [(.tmp p101), (.const (.bool true)), (.tmp p106)], none⟩])
 (.cond (.tmp p107)
 (.seq (.reg [
  ⟨some p2, .move, [(.const .inil)], none⟩])
 (.ret [.tmp p2]))
 .skip))
 (.seq (.reg [
  ⟨some p108, .move, [(.tmp p6)], none⟩,
  ⟨some p2, .move, [(.tmp p108)], none⟩])
 (.ret [.tmp p2]))))))))),
 [.tmp p2]⟩
def F52 : IFn := ⟨1,
(.seq (.reg [
  ⟨some p2, .move, [(.const (.bool false))], none⟩])
 (.seq (.reg [
  ⟨some p3, .move, [(.tmp p0)], none⟩,
  ⟨some p4, (.eql (.base .int) false), [(.tmp p3), (.const (.int .i64 (.ofNat 2)))], none⟩,
  ⟨some p5, .move, [(.tmp p4)], none⟩,
  ⟨some p6, .move, [(.tmp p0)], some (p5, false)⟩,
  ⟨some p7, (.eql (.base .int) false), [(.tmp p6), (.const (.int .i64 (.ofNat 3)))], some (p5, false)⟩,
  ⟨some p8, .pick, [(.tmp p5), (.const (.bool true)), (.tmp p7)], none⟩,
  ⟨some p2, .move, [(.tmp p8)], none⟩])
 (.ret [.tmp p2]))),
 [.tmp p2]⟩
def F53 : IFn := ⟨2,
(.seq (.reg [
  ⟨some p4, .move, [(.const .snil)], none⟩])
 (.seq (.seq (.reg [
  ⟨some p10, .move, [(.tmp p0)], none⟩])
 (.block 0 [] (.seq (.reg [
  ⟨some p11, (.assertT 125 .pnil true), [(.tmp p10)], none⟩,
  ⟨some p12, (.extract 1), [(.tmp p11)], none⟩,
  ⟨some p13, (.extract 0), [(.tmp p11)], none⟩])
 (.cond (.tmp p12)
 (.seq (.reg [
  ⟨some p5, .move, [(.tmp p13)], none⟩])
 (.seq (.reg [
  ⟨some p14, .move, [(.tmp p5)], none⟩,
  ⟨some p15, .nilCheck, [(.tmp p14)], none⟩,
  ⟨some p16, (.fieldAddr 4), [(.tmp p15)], none⟩,
  ⟨some p17, (.load false 1), [(.tmp p16)], none⟩,
  ⟨some p18, .move, [(.tmp p1)], none⟩,
  ⟨some p19, (.eql (.base .int) false), [(.tmp p17), (.tmp p18)], none⟩])
 (.cond (.tmp p19)
 (.seq (.reg [
  ⟨some p20, .move, [(.tmp p0)], none⟩,
  ⟨some p21, (.buildSlice 120 1 [.inil] 1 [(0, 1)]), [(.tmp p20)], none⟩,
  ⟨some p4, .move, [(.tmp p21)], none⟩])
 (.ret [.tmp p4]))
 .skip)))
 (.seq (.reg [
  ⟨some p22, (.assertT 131 .pnil true), [(.tmp p10)], none⟩,
  ⟨some p23, (.extract 1), [(.tmp p22)], none⟩,
  ⟨some p24, (.extract 0), [(.tmp p22)], none⟩])
 (.cond (.tmp p23)
 (.seq (.reg [
  ⟨some p6, .move, [(.tmp p24)], none⟩])
 (.seq (.reg [
  ⟨some p25, .move, [(.tmp p6)], none⟩,
  ⟨some p26, .nilCheck, [(.tmp p25)], none⟩,
  ⟨some p27, (.fieldAddr 5), [(.tmp p26)], none⟩,
  ⟨some p28, (.load false 1), [(.tmp p27)], none⟩,
  ⟨some p29, .lenL, [(.tmp p28)], none⟩,
  ⟨some p30, .move, [(.const (.int .i64 (.ofNat 0)))], none⟩])
 (.block 1 [] (.loop [p0, p1, p28, p29, p30] (.seq (.reg [
  ⟨some p31, (.bin .lss), [(.tmp p30), (.tmp p29)], none⟩])
 (.seq (.cond (.tmp p31)
 .skip
 (.exit 1 []))
 (.seq (.block 2 [p0, p1, p28, p29, p30] (.seq (.reg [
  ⟨some p32, (.idxSlice 1), [(.tmp p28), (.tmp p30)], none⟩,
  ⟨some p33, (.load false 1), [(.tmp p32)], none⟩,
  ⟨some p8, .move, [(.tmp p33)], none⟩])
 (.seq (.reg [
  ⟨some p34, .move, [(.tmp p8)], none⟩,
  ⟨some p35, .move, [(.tmp p1)], none⟩,
  ⟨some p36, .call, [(.const (.fn 53 [] [])), (.tmp p34), (.tmp p35)], none⟩,
  ⟨some p9, .move, [(.tmp p36)], none⟩])
 (.seq (.reg [
  ⟨some p37, .move, [(.tmp p9)], none⟩,
  ⟨some p38, (.eql .slc true), [(.tmp p37), (.const .snil)], none⟩])
 (.cond (.tmp p38)
 (.seq (.reg [
  ⟨some p39, .move, [(.tmp p0)], none⟩,
  ⟨some p40, (.buildSlice 120 1 [.inil] 1 [(0, 1)]), [(.tmp p39)], none⟩,
  ⟨some p41, .move, [(.tmp p9)], none⟩,
  ⟨some p42, (.append 120 1), [(.tmp p40), (.tmp p41)], none⟩,
  ⟨some p4, .move, [(.tmp p42)], none⟩])
 (.ret [.tmp p4]))
 .skip)))))
 (.reg [
  ⟨some p43, (.bin .add), [(.tmp p30), (.const (.int .i64 (.ofNat 1)))], none⟩,
  ⟨some p30, .move, [(.tmp p43)], none⟩]))))))))
 .skip))))))
 (.seq (.reg [
  ⟨some p4, .move, [(.const .snil)], none⟩])
 (.ret [.tmp p4])))),
 [.tmp p4]⟩
def F54 : IFn := ⟨2,
(.seq (.reg [
  ⟨some p4, .move, [(.const (.int .i64 (.ofNat 0)))], none⟩])
 (.seq (.reg [
  ⟨some p6, .move, [(.tmp p0)], none⟩,
  ⟨some p7, .call, [(.const (.fn 74 [] [])), (.tmp p6)], none⟩,
  ⟨some p5, .move, [(.tmp p7)], none⟩])
 (.seq (.block 0 [] (.seq (.seq (.reg [
  ⟨some p9, .move, [(.tmp p1)], none⟩,
  ⟨some p10, (.bin .lss), [(.tmp p9), (.const (.int .i64 (.ofNat 1)))], none⟩,
  ⟨some p8, .move, [(.tmp p10)], none⟩])
 (.cond (.tmp p8)
 .skip
 (.seq (.reg [
  ⟨some p11, .move, [(.tmp p1)], none⟩,
  ⟨some p12, (.bin .gtr), [(.tmp p11), (.const (.int .i64 (.ofNat 4611686018427387904)))], none⟩,
  ⟨some p8, .move, [(.tmp p12)], none⟩])
 (.cond (.tmp p8)
 .skip
 (.reg [
  ⟨some p13, .move, [(.tmp p5)], none⟩,
  ⟨some p14, .move, [(.tmp p1)], none⟩,
  ⟨some p15, .call, [(.const (.fn 75 [] [])), (.tmp p13), (.tmp p14)], none⟩,
  ⟨some p8, .move, [(.tmp p15)], none⟩])))))
 (.cond (.tmp p8)
 (.seq (.reg [
  ⟨some p4, .move, [(.const (.int .i64 (.ofNat 43)))], none⟩])
 (.ret [.tmp p4]))
 (.seq (.reg [
  ⟨some p17, .move, [(.tmp p5)], none⟩,
  ⟨some p18, .lenL, [(.tmp p17)], none⟩,
  ⟨some p19, (.bin .geq), [(.tmp p18), (.const (.int .i64 (.ofNat 32)))], none⟩,
  ⟨some p16, .move, [(.tmp p19)], none⟩])
 (.cond (.tmp p16)
 (.seq (.reg [
  ⟨some p4, .move, [(.const (.int .i64 (.ofNat 45)))], none⟩])
 (.ret [.tmp p4]))
 .skip)))))
 (.seq (.reg [
  ⟨some p4, .move, [(.const (.int .i64 (.ofNat 0)))], none⟩])
 (.ret [.tmp p4]))))),
 [.tmp p4]⟩
def F55 : IFn := ⟨2,
(.seq (.reg [
  ⟨some p4, .move, [(.const (.int .i64 (.ofNat 0)))], none⟩])
 (.seq (.seq (.reg [
  ⟨some p5, .move, [(.tmp p1)], none⟩,
  ⟨some p6, (.eql (.base .int) false), [(.tmp p5), (.const (.int .i64 (.ofNat 2)))], none⟩])
 (.cond (.tmp p6)
 (.seq (.reg [
  ⟨some p7, .move, [(.tmp p0)], none⟩,
  ⟨some p8, .nilCheck, [(.tmp p7)], none⟩,
  ⟨some p9, (.fieldAddr 2), [(.tmp p8)], none⟩,
  ⟨some p10, (.load false 1), [(.tmp p9)], none⟩,
  ⟨some p4, .move, [(.tmp p10)], none⟩])
 (.ret [.tmp p4]))
 .skip))
 (.seq (.reg [
  ⟨some p11, .move, [(.tmp p0)], none⟩,
  ⟨some p12, .nilCheck, [(.tmp p11)], none⟩,
  ⟨some p13, (.fieldAddr 3), [(.tmp p12)], none⟩,
  ⟨some p14, (.load false 1), [(.tmp p13)], none⟩,
  ⟨some p4, .move, [(.tmp p14)], none⟩])
 (.ret [.tmp p4])))),
 [.tmp p4]⟩
def F56 : IFn := ⟨3,
(.seq (.reg [
  ⟨some p6, .move, [(.tmp p1)], none⟩,
  ⟨some p7, (.eql (.base .int) false), [(.tmp p6), (.const (.int .i64 (.ofNat 2)))], none⟩])
 (.cond (.tmp p7)
 (.reg [
  ⟨some p8, .move, [(.tmp p0)], none⟩,
  ⟨some p9, .move, [(.tmp p2)], none⟩,
  ⟨some p10, .nilCheck, [(.tmp p8)], none⟩,
  ⟨some p11, (.fieldAddr 2), [(.tmp p10)], none⟩,
  ⟨none, (.store 1), [(.tmp p11), (.tmp p9)], none⟩])
 (.reg [
  ⟨some p12, .move, [(.tmp p0)], none⟩,
  ⟨some p13, .move, [(.tmp p2)], none⟩,
  ⟨some p14, .nilCheck, [(.tmp p12)], none⟩,
  ⟨some p15, (.fieldAddr 3), [(.tmp p14)], none⟩,
  ⟨none, (.store 1), [(.tmp p15), (.tmp p13)], none⟩]))),
 []⟩
def F57 : IFn := ⟨1,
(.seq (.reg [
  ⟨some p2, .move, [(.const .pnil)], none⟩])
 (.seq (.seq (.reg [
  ⟨some p3, .move, [(.tmp p0)], none⟩,
  ⟨some p4, .lenL, [(.tmp p3)], none⟩,
  ⟨some p5, (.bin .lss), [(.tmp p4), (.const (.int .i64 (.ofNat 2)))], none⟩])
 (.cond (.tmp p5)
 (.seq (.reg [
  ⟨some p2, .move, [(.const .pnil)], none⟩])
 (.ret [.tmp p2]))
 .skip))
 (.seq (.reg [
  ⟨some p6, .move, [(.tmp p0)], none⟩,
  ⟨some p7, .move, [(.tmp p0)], none⟩,
  ⟨some p8, .lenL, [(.tmp p7)], none⟩,
  ⟨some p9, (.bin .sub), [(.tmp p8), (.const (.int .i64 (.ofNat 2)))], none⟩,
  ⟨some p10, (.idxSlice 1), [(.tmp p6), (.tmp p9)], none⟩,
  ⟨some p11, (.load false 1), [(.tmp p10)], none⟩,
  ⟨some p12, (.assertT 131 .pnil false), [(.tmp p11)], none⟩,
  ⟨some p2, .move, [(.tmp p12)], none⟩])
 (.ret [.tmp p2])))),
 [.tmp p2]⟩
def F58 : IFn := ⟨2,
(.seq (.reg [
  ⟨some p4, .move, [(.const (.int .i64 (.ofNat 0)))], none⟩])
 (.seq (.seq (.reg [
  ⟨some p6, .move, [(.tmp p0)], none⟩,
  ⟨some p7, .lenL, [(.tmp p6)], none⟩,
  ⟨some p8, .move, [(.const (.int .i64 (.ofNat 0)))], none⟩])
 (.block 0 [] (.loop [p0, p1, p7, p8] (.seq (.reg [
  ⟨some p9, (.bin .lss), [(.tmp p8), (.tmp p7)], none⟩])
 (.seq (.cond (.tmp p9)
 .skip
 (.exit 0 []))
 (.seq (.block 1 [p0, p1, p7, p8] (.seq (.reg [
  ⟨some p10, .move, [(.tmp p8)], none⟩,
  ⟨some p5, .move, [(.tmp p10)], none⟩])
 (.seq (.reg [
  ⟨some p11, .move, [(.tmp p1)], none⟩,
  ⟨some p12, .move, [(.tmp p0)], none⟩,
  ⟨some p13, .move, [(.tmp p5)], none⟩,
  ⟨some p14, (.idxSlice 1), [(.tmp p12), (.tmp p13)], none⟩,
  ⟨some p15, (.load false 1), [(.tmp p14)], none⟩,
  ⟨some p16, (.eql (.iface false) false), [(.tmp p11), (.tmp p15)], none⟩])
 (.cond (.tmp p16)
 (.seq (.reg [
  ⟨some p17, .move, [(.tmp p5)], none⟩,
  ⟨some p4, .move, [(.tmp p17)], none⟩])
 (.ret [.tmp p4]))
 .skip))))
 (.reg [
  ⟨some p18, (.bin .add), [(.tmp p8), (.const (.int .i64 (.ofNat 1)))], none⟩,
  ⟨some p8, .move, [(.tmp p18)], none⟩])))))))
 (.seq (.reg [
  ⟨some p4, .move, [(.const (.int .i64 (.negSucc 0)))], none⟩])
 (.ret [.tmp p4])))),
 [.tmp p4]⟩
def F60 : IFn := ⟨3,
(.seq (.reg [
  ⟨some p6, .move, [(.const .snil)], none⟩])
 (.seq (.seq (.reg [
  ⟨some p7, .move, [(.tmp p2)], none⟩])
 (.cond (.tmp p7)
 (.seq (.reg [
  ⟨some p8, .move, [(.tmp p1)], none⟩,
  ⟨some p9, .move, [(.tmp p0)], none⟩,
  ⟨some p10, (.buildSlice 120 1 [.inil] 2 [(0, 1), (1, 1)]), [(.tmp p8), (.tmp p9)], none⟩,
  ⟨some p6, .move, [(.tmp p10)], none⟩])
 (.ret [.tmp p6]))
 .skip))
 (.seq (.reg [
  ⟨some p11, .move, [(.tmp p0)], none⟩,
  ⟨some p12, .move, [(.tmp p1)], none⟩,
  ⟨some p13, (.buildSlice 120 1 [.inil] 2 [(0, 1), (1, 1)]), [(.tmp p11), (.tmp p12)], none⟩,
  ⟨some p6, .move, [(.tmp p13)], none⟩])
 (.ret [.tmp p6])))),
 [.tmp p6]⟩
def F61 : IFn := ⟨3,
(.seq (.reg [
  ⟨some p6, .move, [(.const .inil)], none⟩])
 (.seq (.reg [
  ⟨some p8, .move, [(.tmp p1)], none⟩,
  ⟨some p9, .call, [(.const (.fn 57 [] [])), (.tmp p8)], none⟩,
  ⟨some p7, .move, [(.tmp p9)], none⟩])
 (.seq (.seq (.reg [
  ⟨some p10, .move, [(.tmp p7)], none⟩,
  ⟨some p11, (.eql .ptr false), [(.tmp p10), (.const .pnil)], none⟩])
 (.cond (.tmp p11)
 (.seq (.reg [
  ⟨some p12, .move, [(.tmp p2)], none⟩,
  ⟨some p6, .move, [(.tmp p12)], none⟩])
 (.ret [.tmp p6]))
 .skip))
 (.seq (.drawn [
  ⟨0, ⟨some p13, .move, [(.tmp p7)], none⟩, .pure, []⟩,
  ⟨1, ⟨some p14, .nilCheck, [(.tmp p13)], none⟩, .pure, [0]⟩,
  ⟨2, ⟨some p15, (.fieldAddr 5), [(.tmp p14)], none⟩, .pure, [1]⟩,
  ⟨3, ⟨some p16, (.load false 1), [(.tmp p15)], none⟩, (.read 0 1), [2]⟩,
  ⟨4, ⟨some p17, .move, [(.tmp p7)], none⟩, .pure, []⟩,
  ⟨5, ⟨some p18, .nilCheck, [(.tmp p17)], none⟩, .pure, [4]⟩,
  ⟨6, ⟨some p19, (.fieldAddr 5), [(.tmp p18)], none⟩, .pure, [5]⟩,
  ⟨7, ⟨some p20, (.load false 1), [(.tmp p19)], none⟩, (.read 0 0), [6]⟩,
  ⟨8, ⟨some p21, .move, [(.tmp p1)], none⟩, .pure, []⟩,
  ⟨9, ⟨some p22, .move, [(.tmp p1)], none⟩, .pure, []⟩,
  ⟨10, ⟨some p23, .lenL, [(.tmp p22)], none⟩, .pure, [9]⟩,
  ⟨11, ⟨some p24, (.bin .sub), [(.tmp p23), (.const (.int .i64 (.ofNat 1)))], none⟩, .pure, [10]⟩,
  ⟨12, ⟨some p25, (.idxSlice 1), [(.tmp p21), (.tmp p24)], none⟩, .pure, [8, 11]⟩,
  ⟨13, ⟨some p26, (.load false 1), [(.tmp p25)], none⟩, (.read 0 0), [12]⟩,
  ⟨14, ⟨some p27, .call, [(.const (.fn 58 [] [])), (.tmp p20), (.tmp p26)], none⟩, .eff, [7, 13]⟩,
  ⟨15, ⟨some p28, .move, [(.tmp p2)], none⟩, .pure, []⟩,
  ⟨16, ⟨some p29, (.idxSlice 1), [(.tmp p16), (.tmp p27)], none⟩, .pure, [3, 14, 0, 1, 2, 3, 4, 5, 6, 7, 8, 9, 10, 11, 12, 13, 14, 15]⟩,
  ⟨17, ⟨none, (.store 1), [(.tmp p29), (.tmp p28)], none⟩, .eff, [16, 15, 14, 0, 1, 2, 3, 4, 5, 6, 7, 8, 9, 10, 11, 12, 13, 14, 15]⟩])
 (.seq (.reg [
  ⟨some p30, .move, [(.tmp p0)], none⟩,
  ⟨some p6, .move, [(.tmp p30)], none⟩])
 (.ret [.tmp p6])))))),
 [.tmp p6]⟩
def F62 : IFn := ⟨1,
(.seq (.reg [
  ⟨some p2, .move, [(.const .snil)], none⟩])
 (.seq (.reg [
  ⟨some p3, (.alloc 60 [.snil]), [], none⟩])
 (.seq (.reg [
  ⟨some p4, .move, [(.tmp p0)], none⟩,
  ⟨some p5, .call, [(.const (.fn 80 [] [])), (.tmp p4), (.const (.int .i64 (.ofNat 0))), (.const (.int .i64 (.ofNat 0))), (.const (.int .i64 (.ofNat 0))), (.tmp p3)], none⟩])
 (.seq (.reg [
  ⟨some p6, (.load false 1), [(.tmp p3)], none⟩,
  ⟨some p2, .move, [(.tmp p6)], none⟩])
 (.ret [.tmp p2]))))),
 [.tmp p2]⟩
def F63 : IFn := ⟨1,
(.seq (.reg [
  ⟨some p2, .move, [(.const .pnil)], none⟩,
  ⟨some p3, .move, [(.const (.int .i64 (.ofNat 0)))], none⟩])
 (.seq (.reg [
  ⟨some p4, .move, [(.tmp p0)], none⟩,
  ⟨some p5, .call, [(.const (.fn 81 [] [])), (.tmp p4), (.const (.int .i64 (.ofNat 0))), (.const (.str []))], none⟩,
  ⟨some p6, (.extract 0), [(.tmp p5)], none⟩,
  ⟨some p7, (.extract 1), [(.tmp p5)], none⟩,
  ⟨some p2, .move, [(.tmp p6)], none⟩,
  ⟨some p3, .move, [(.tmp p7)], none⟩])
 (.ret [.tmp p2, .tmp p3]))),
 [.tmp p2, .tmp p3]⟩
def F64 : IFn := ⟨2,
(.seq (.reg [
  ⟨some p4, .move, [(.const (.int .i64 (.ofNat 0)))], none⟩])
 (.seq (.reg [
  ⟨some p5, .move, [(.tmp p0)], none⟩,
  ⟨some p6, .nilCheck, [(.tmp p5)], none⟩,
  ⟨some p7, (.fieldAddr 1), [(.tmp p6)], none⟩,
  ⟨some p8, (.load false 1), [(.tmp p7)], none⟩,
  ⟨some p9, (.bin .add), [(.tmp p8), (.const (.int .i64 (.ofNat 1)))], none⟩,
  ⟨some p10, .nilCheck, [(.tmp p5)], none⟩,
  ⟨some p11, (.fieldAddr 1), [(.tmp p10)], none⟩,
  ⟨none, (.store 1), [(.tmp p11), (.tmp p9)], none⟩])
 (.seq (.drawn [
  ⟨0, ⟨some p12, .move, [(.tmp p0)], none⟩, .pure, []⟩,
  ⟨1, ⟨some p13, .nilCheck, [(.tmp p12)], none⟩, .pure, [0]⟩,
  ⟨2, ⟨some p14, (.fieldAddr 0), [(.tmp p13)], none⟩, .pure, [1]⟩,
  ⟨3, ⟨some p15, (.load false 1), [(.tmp p14)], none⟩, (.read 0 0), [2]⟩,
  ⟨4, ⟨some p16, .move, [(.tmp p0)], none⟩, .pure, []⟩,
  ⟨5, ⟨some p17, .nilCheck, [(.tmp p16)], none⟩, .pure, [4]⟩,
  ⟨6, ⟨some p18, (.fieldAddr 1), [(.tmp p17)], none⟩, .pure, [5]⟩,
  ⟨7, ⟨some p19, (.load false 1), [(.tmp p18)], none⟩, (.read 0 0), [6]⟩,
  ⟨8, ⟨some p20, .move, [(.tmp p1)], none⟩, .pure, []⟩,
  ⟨9, ⟨none, (.mapUpdate false), [(.tmp p15), (.tmp p19), (.tmp p20)], none⟩, .eff, [3, 7, 8, 0, 1, 2, 3, 4, 5, 6, 7, 8]⟩])
 (.seq (.reg [
  ⟨some p21, .move, [(.tmp p0)], none⟩,
  ⟨some p22, .nilCheck, [(.tmp p21)], none⟩,
  ⟨some p23, (.fieldAddr 1), [(.tmp p22)], none⟩,
  ⟨some p24, (.load false 1), [(.tmp p23)], none⟩,
  ⟨some p4, .move, [(.tmp p24)], none⟩])
 (.ret [.tmp p4]))))),
 [.tmp p4]⟩
def F65 : IFn := ⟨3,
(.seq (.reg [
  ⟨some p6, .move, [(.const .snil)], none⟩])
 (.seq (.reg [
  ⟨some p7, .move, [(.tmp p0)], none⟩,
  ⟨some p8, .nilCheck, [(.tmp p7)], none⟩,
  ⟨some p9, (.fieldAddr 2), [(.tmp p8)], none⟩,
  ⟨some p10, (.load false 1), [(.tmp p9)], none⟩,
  ⟨some p11, .move, [(.tmp p1)], none⟩,
  ⟨some p12, .move, [(.tmp p2)], none⟩,
  ⟨some p13, .move, [(.tmp p2)], none⟩,
  ⟨some p14, (.slSlice 1 true true true), [(.tmp p10), (.tmp p11), (.tmp p12), (.tmp p13)], none⟩,
  ⟨some p6, .move, [(.tmp p14)], none⟩])
 (.ret [.tmp p6]))),
 [.tmp p6]⟩
def F66 : IFn := ⟨4,
(.seq (.reg [
  ⟨some p8, .move, [(.const (.bool true))], none⟩])
 (.seq (.reg [
  ⟨some p9, .move, [(.const (.bool true))], none⟩])
 (.block 0 [] (.loop [p0, p1, p2, p3, p8, p9] (.block 1 [p0, p1, p2, p3, p8, p9] (.seq (.reg [
  ⟨some p19, .move, [(.tmp p2)], none⟩,
  ⟨some p20, .move, [(.tmp p1)], none⟩,
  ⟨some p21, (.bin .sub), [(.tmp p19), (.tmp p20)], none⟩,
  ⟨some p10, .move, [(.tmp p21)], none⟩])
 (.seq (.seq (.reg [
  ⟨some p22, .move, [(.tmp p10)], none⟩,
  ⟨some p23, (.bin .leq), [(.tmp p22), (.const (.int .i64 (.ofNat 12)))], none⟩])
 (.cond (.tmp p23)
 (.seq (.reg [
  ⟨some p24, .move, [(.tmp p0)], none⟩,
  ⟨some p25, .move, [(.tmp p1)], none⟩,
  ⟨some p26, .move, [(.tmp p2)], none⟩,
  ⟨some p27, .call, [(.const (.fn 82 [] [])), (.tmp p24), (.tmp p25), (.tmp p26)], none⟩])
 (.ret []))
 .skip))
 (.seq (.seq (.reg [
  ⟨some p28, .move, [(.tmp p3)], none⟩,
  ⟨some p29, (.eql (.base .int) false), [(.tmp p28), (.const (.int .i64 (.ofNat 0)))], none⟩])
 (.cond (.tmp p29)
 (.seq (.reg [
  ⟨some p30, .move, [(.tmp p0)], none⟩,
  ⟨some p31, .move, [(.tmp p1)], none⟩,
  ⟨some p32, .move, [(.tmp p2)], none⟩,
  ⟨some p33, .call, [(.const (.fn 83 [] [])), (.tmp p30), (.tmp p31), (.tmp p32)], none⟩])
 (.ret []))
 .skip))
 (.seq (.seq (.reg [
  ⟨some p34, .move, [(.tmp p8)], none⟩,
  ⟨some p35, .not, [(.tmp p34)], none⟩])
 (.cond (.tmp p35)
 (.seq (.reg [
  ⟨some p36, .move, [(.tmp p0)], none⟩,
  ⟨some p37, .move, [(.tmp p1)], none⟩,
  ⟨some p38, .move, [(.tmp p2)], none⟩,
  ⟨some p39, .call, [(.const (.fn 84 [] [])), (.tmp p36), (.tmp p37), (.tmp p38)], none⟩])
 (.reg [
  ⟨some p40, .move, [(.tmp p3)], none⟩,
  ⟨some p41, (.bin .sub), [(.tmp p40), (.const (.int .i64 (.ofNat 1)))], none⟩,
  ⟨some p3, .move, [(.tmp p41)], none⟩]))
 .skip))
 (.seq (.reg [
  ⟨some p43, .move, [(.tmp p0)], none⟩,
  ⟨some p44, .move, [(.tmp p1)], none⟩,
  ⟨some p45, .move, [(.tmp p2)], none⟩,
  ⟨some p46, .call, [(.const (.fn 85 [] [])), (.tmp p43), (.tmp p44), (.tmp p45)], none⟩,
  ⟨some p42, .move, [(.tmp p46)], none⟩,
  ⟨some p47, (.extract 0), [(.tmp p42)], none⟩,
  ⟨some p48, (.extract 1), [(.tmp p42)], none⟩,
  ⟨some p11, .move, [(.tmp p47)], none⟩,
  ⟨some p12, .move, [(.tmp p48)], none⟩])
 (.seq (.seq (.reg [
  ⟨some p49, .move, [(.tmp p12)], none⟩,
  ⟨some p50, (.eql (.base .int) false), [(.tmp p49), (.const (.int .i64 (.ofNat 2)))], none⟩])
 (.cond (.tmp p50)
 (.seq (.reg [
  ⟨some p51, .move, [(.tmp p0)], none⟩,
  ⟨some p52, .move, [(.tmp p1)], none⟩,
  ⟨some p53, .move, [(.tmp p2)], none⟩,
  ⟨some p54, .call, [(.const (.fn 86 [] [])), (.tmp p51), (.tmp p52), (.tmp p53)], none⟩])
 (.seq (.reg [
  ⟨some p55, .move, [(.tmp p2)], none⟩,
  ⟨some p56, (.bin .sub), [(.tmp p55), (.const (.int .i64 (.ofNat 1)))], none⟩,
  ⟨some p57, .move, [(.tmp p11)], none⟩,
  ⟨some p58, .move, [(.tmp p1)], none⟩,
  ⟨some p59, (.bin .sub), [(.tmp p57), (.tmp p58)], none⟩,
  ⟨some p60, (.bin .sub), [(.tmp p56), (.tmp p59)], none⟩,
  ⟨some p11, .move, [(.tmp p60)], none⟩])
 (.reg [
  ⟨some p12, .move, [(.const (.int .i64 (.ofNat 1)))], none⟩])))
 .skip))
 (.seq (.seq (.reg [
  ⟨some p61, .move, [(.tmp p8)], none⟩,
  ⟨some p62, .move, [(.tmp p61)], none⟩,
  ⟨some p63, .move, [(.tmp p9)], some (p62, true)⟩,
  ⟨some p64, .pick, [(.tmp p62), (.tmp p63), (.const (.bool false))], none⟩,
  ⟨some p65, .move, [(.tmp p64)], none⟩,
  ⟨some p66, .move, [(.tmp p12)], some (p65, true)⟩,
  ⟨some p67, (.eql (.base .int) false), [(.tmp p66), (.const (.int .i64 (.ofNat 1)))], some (p65, true)⟩,
  ⟨some p68, .pick, [(.tmp p65), (.tmp p67), (.const (.bool false))], none⟩])
 (.cond (.tmp p68)
 (.seq (.reg [
  ⟨some p69, .move, [(.tmp p0)], none⟩,
  ⟨some p70, .move, [(.tmp p1)], none⟩,
  ⟨some p71, .move, [(.tmp p2)], none⟩,
  ⟨some p72, .call, [(.const (.fn 87 [] [])), (.tmp p69), (.tmp p70), (.tmp p71)], none⟩])
 (.cond (.tmp p72)
 (.ret [])
 .skip))
 .skip))
 (.seq (.seq (.drawn [
  ⟨0, ⟨some p73, .move, [(.tmp p1)], none⟩, .pure, []⟩,
  ⟨1, ⟨some p74, (.bin .gtr), [(.tmp p73), (.const (.int .i64 (.ofNat 0)))], none⟩, .pure, [0]⟩,
  ⟨2, ⟨some p75, .move, [(.tmp p74)], none⟩, .pure, [1]⟩,
  ⟨3, ⟨some p76, .move, [(.tmp p0)], some (p75, true)⟩, .pure, [2]⟩,
  ⟨4, ⟨some p77, .move, [(.tmp p1)], some (p75, true)⟩, .pure, [2]⟩,
  ⟨5, ⟨some p78, (.bin .sub), [(.tmp p77), (.const (.int .i64 (.ofNat 1)))], some (p75, true)⟩, .pure, [4, 2]⟩,
  ⟨6, ⟨some p79, (.idxSlice 1), [(.tmp p76), (.tmp p78)], some (p75, true)⟩, .pure, [3, 5, 2]⟩,
  ⟨7, ⟨some p80, (.load false 1), [(.tmp p79)], some (p75, true)⟩, (.read 0 0), [6, 2]⟩,
  ⟨8, ⟨some p81, .move, [(.tmp p0)], some (p75, true)⟩, .pure, [2]⟩,
  ⟨9, ⟨some p82, .move, [(.tmp p11)], some (p75, true)⟩, .pure, [2]⟩,
  ⟨10, ⟨some p83, (.idxSlice 1), [(.tmp p81), (.tmp p82)], some (p75, true)⟩, .pure, [8, 9, 2]⟩,
  ⟨11, ⟨some p84, (.load false 1), [(.tmp p83)], some (p75, true)⟩, (.read 0 0), [10, 2]⟩,
  ⟨12, ⟨some p85, .call, [(.const (.fn 88 [] [])), (.tmp p80), (.tmp p84)], some (p75, true)⟩, .eff, [7, 11, 2, 2]⟩,
  ⟨13, ⟨some p86, .not, [(.tmp p85)], some (p75, true)⟩, .pure, [12, 2]⟩,
  ⟨14, ⟨some p87, .pick, [(.tmp p75), (.tmp p86), (.const (.bool false))], none⟩, .pure, [2, 13]⟩])
 (.cond (.tmp p87)
 (.seq (.reg [
  ⟨some p88, .move, [(.tmp p0)], none⟩,
  ⟨some p89, .move, [(.tmp p1)], none⟩,
  ⟨some p90, .move, [(.tmp p2)], none⟩,
  ⟨some p91, .move, [(.tmp p11)], none⟩,
  ⟨some p92, .call, [(.const (.fn 89 [] [])), (.tmp p88), (.tmp p89), (.tmp p90), (.tmp p91)], none⟩,
  ⟨some p13, .move, [(.tmp p92)], none⟩])
 (.seq (.reg [
  ⟨some p93, .move, [(.tmp p13)], none⟩,
  ⟨some p1, .move, [(.tmp p93)], none⟩])
 (.exit 1 [p0, p1, p2, p3, p8, p9])))
 .skip))
 (.seq (.reg [
  ⟨some p95, .move, [(.tmp p0)], none⟩,
  ⟨some p96, .move, [(.tmp p1)], none⟩,
  ⟨some p97, .move, [(.tmp p2)], none⟩,
  ⟨some p98, .move, [(.tmp p11)], none⟩,
  ⟨some p99, .call, [(.const (.fn 90 [] [])), (.tmp p95), (.tmp p96), (.tmp p97), (.tmp p98)], none⟩,
  ⟨some p94, .move, [(.tmp p99)], none⟩,
  ⟨some p100, (.extract 0), [(.tmp p94)], none⟩,
  ⟨some p101, (.extract 1), [(.tmp p94)], none⟩,
  ⟨some p14, .move, [(.tmp p100)], none⟩,
  ⟨some p15, .move, [(.tmp p101)], none⟩])
 (.seq (.reg [
  ⟨some p102, .move, [(.tmp p15)], none⟩,
  ⟨some p9, .move, [(.tmp p102)], none⟩])
 (.seq (.reg [
  ⟨some p103, .move, [(.tmp p14)], none⟩,
  ⟨some p104, .move, [(.tmp p1)], none⟩,
  ⟨some p105, (.bin .sub), [(.tmp p103), (.tmp p104)], none⟩,
  ⟨some p106, .move, [(.tmp p2)], none⟩,
  ⟨some p107, .move, [(.tmp p14)], none⟩,
  ⟨some p108, (.bin .sub), [(.tmp p106), (.tmp p107)], none⟩,
  ⟨some p16, .move, [(.tmp p105)], none⟩,
  ⟨some p17, .move, [(.tmp p108)], none⟩])
 (.seq (.reg [
  ⟨some p109, .move, [(.tmp p10)], none⟩,
  ⟨some p110, (.bin .quo), [(.tmp p109), (.const (.int .i64 (.ofNat 8)))], none⟩,
  ⟨some p18, .move, [(.tmp p110)], none⟩])
 (.seq (.reg [
  ⟨some p111, .move, [(.tmp p16)], none⟩,
  ⟨some p112, .move, [(.tmp p17)], none⟩,
  ⟨some p113, (.bin .lss), [(.tmp p111), (.tmp p112)], none⟩])
 (.cond (.tmp p113)
 (.seq (.reg [
  ⟨some p114, .move, [(.tmp p16)], none⟩,
  ⟨some p115, .move, [(.tmp p18)], none⟩,
  ⟨some p116, (.bin .geq), [(.tmp p114), (.tmp p115)], none⟩,
  ⟨some p8, .move, [(.tmp p116)], none⟩])
 (.seq (.reg [
  ⟨some p117, .move, [(.tmp p0)], none⟩,
  ⟨some p118, .move, [(.tmp p1)], none⟩,
  ⟨some p119, .move, [(.tmp p14)], none⟩,
  ⟨some p120, .move, [(.tmp p3)], none⟩,
  ⟨some p121, .call, [(.const (.fn 66 [] [])), (.tmp p117), (.tmp p118), (.tmp p119), (.tmp p120)], none⟩])
 (.reg [
  ⟨some p122, .move, [(.tmp p14)], none⟩,
  ⟨some p123, (.bin .add), [(.tmp p122), (.const (.int .i64 (.ofNat 1)))], none⟩,
  ⟨some p1, .move, [(.tmp p123)], none⟩])))
 (.seq (.reg [
  ⟨some p124, .move, [(.tmp p17)], none⟩,
  ⟨some p125, .move, [(.tmp p18)], none⟩,
  ⟨some p126, (.bin .geq), [(.tmp p124), (.tmp p125)], none⟩,
  ⟨some p8, .move, [(.tmp p126)], none⟩])
 (.seq (.reg [
  ⟨some p127, .move, [(.tmp p0)], none⟩,
  ⟨some p128, .move, [(.tmp p14)], none⟩,
  ⟨some p129, (.bin .add), [(.tmp p128), (.const (.int .i64 (.ofNat 1)))], none⟩,
  ⟨some p130, .move, [(.tmp p2)], none⟩,
  ⟨some p131, .move, [(.tmp p3)], none⟩,
  ⟨some p132, .call, [(.const (.fn 66 [] [])), (.tmp p127), (.tmp p129), (.tmp p130), (.tmp p131)], none⟩])
 (.reg [
  ⟨some p133, .move, [(.tmp p14)], none⟩,
  ⟨some p2, .move, [(.tmp p133)], none⟩])))))))))))))))))))))),
 []⟩
def F67 : IFn := ⟨1,
(.seq (.reg [
  ⟨some p2, .move, [(.const (.int .i64 (.ofNat 0)))], none⟩])
 (.seq (.cond (.const (.bool false))
 (.seq (.reg [
  ⟨some p3, .move, [(.tmp p0)], none⟩,
  ⟨some p4, (.convInt .u32), [(.tmp p3)], none⟩,
  ⟨some p5, .call, [(.const (.fn 91 [] [])), (.tmp p4)], none⟩,
  ⟨some p2, .move, [(.tmp p5)], none⟩])
 (.ret [.tmp p2]))
 .skip)
 (.seq (.reg [
  ⟨some p6, .move, [(.tmp p0)], none⟩,
  ⟨some p7, .call, [(.const (.fn 92 [] [])), (.tmp p6)], none⟩,
  ⟨some p2, .move, [(.tmp p7)], none⟩])
 (.ret [.tmp p2])))),
 [.tmp p2]⟩
def F68 : IFn := ⟨2,
(.seq (.reg [
  ⟨some p4, .move, [(.const (.int .i64 (.ofNat 0)))], none⟩])
 (.seq (.reg [
  ⟨some p5, .move, [(.tmp p0)], none⟩,
  ⟨some p6, .move, [(.tmp p1)], none⟩,
  ⟨some p7, .call, [(.const (.fn 93 [] [])), (.tmp p5), (.tmp p6)], none⟩,
  ⟨some p4, .move, [(.tmp p7)], none⟩])
 (.ret [.tmp p4]))),
 [.tmp p4]⟩
def F69 : IFn := ⟨1,
(.seq (.reg [
  ⟨some p2, .move, [(.const (.str []))], none⟩])
 (.seq (.reg [
  ⟨some p3, .move, [(.tmp p0)], none⟩,
  ⟨some p4, .call, [(.const (.fn 94 [] [])), (.tmp p3), (.const (.int .i64 (.ofNat 10)))], none⟩,
  ⟨some p2, .move, [(.tmp p4)], none⟩])
 (.ret [.tmp p2]))),
 [.tmp p2]⟩
def F70 : IFn := ⟨1,
(.seq (.reg [
  ⟨some p2, .move, [(.const (.bool false))], none⟩])
 (.seq (.reg [
  ⟨some p3, .move, [(.tmp p0)], none⟩,
  ⟨some p4, (.bin .geq), [(.tmp p3), (.const (.int .i64 (.ofNat 1)))], none⟩,
  ⟨some p5, .move, [(.tmp p4)], none⟩,
  ⟨some p6, .move, [(.tmp p0)], some (p5, true)⟩,
  ⟨some p7, (.bin .leq), [(.tmp p6), (.const (.int .i64 (.ofNat 1000)))], some (p5, true)⟩,
  ⟨some p8, .pick, [(.tmp p5), (.tmp p7), (.const (.bool false))], none⟩,
  ⟨some p2, .move, [(.tmp p8)], none⟩])
 (.ret [.tmp p2]))),
 [.tmp p2]⟩
def F71 : IFn := ⟨1,
(.seq (.reg [
  ⟨some p2, .move, [(.const (.bool false))], none⟩])
 (.seq (.reg [
  ⟨some p3, .move, [(.tmp p0)], none⟩,
  ⟨some p4, (.bin .geq), [(.tmp p3), (.const (.int .i64 (.ofNat 1)))], none⟩,
  ⟨some p5, .move, [(.tmp p4)], none⟩,
  ⟨some p6, .move, [(.tmp p0)], some (p5, true)⟩,
  ⟨some p7, (.bin .leq), [(.tmp p6), (.const (.int .i64 (.ofNat 4611686018427387904)))], some (p5, true)⟩,
  ⟨some p8, .pick, [(.tmp p5), (.tmp p7), (.const (.bool false))], none⟩,
  ⟨some p2, .move, [(.tmp p8)], none⟩])
 (.ret [.tmp p2]))),
 [.tmp p2]⟩
def F72 : IFn := ⟨2,
(.seq (.reg [
  ⟨some p4, .move, [(.const .inil)], none⟩,
  ⟨some p5, .move, [(.const .snil)], none⟩])
 (.seq (.reg [
  ⟨some p11, .move, [(.tmp p0)], none⟩,
  ⟨some p12, (.idxSlice 7), [(.tmp p11), (.const (.int .i64 (.ofNat 0)))], none⟩,
  ⟨some p13, (.load true 7), [(.tmp p12)], none⟩,
  ⟨some p6, (.alloc 91 [(.int .i64 (.ofNat 0)), (.int .i64 (.ofNat 0)), (.int .i64 (.ofNat 0)), (.int .i64 (.ofNat 0)), (.int .i64 (.ofNat 0)), (.int .i64 (.ofNat 0)), (.int .i64 (.ofNat 0))]), [], none⟩,
  ⟨none, (.store 7), [(.tmp p6), (.tmp p13)], none⟩])
 (.seq (.reg [
  ⟨some p14, .move, [(.tmp p0)], none⟩,
  ⟨some p15, (.slSlice 7 true false false), [(.tmp p14), (.const (.int .i64 (.ofNat 1)))], none⟩,
  ⟨some p0, .move, [(.tmp p15)], none⟩])
 (.seq (.reg [
  ⟨some p16, (.fieldAddr 4), [(.tmp p6)], none⟩,
  ⟨some p17, (.load false 1), [(.tmp p16)], none⟩,
  ⟨some p18, (.fieldAddr 5), [(.tmp p6)], none⟩,
  ⟨some p19, (.load false 1), [(.tmp p18)], none⟩,
  ⟨some p20, (.build [(.int .i64 (.ofNat 0)), (.int .i64 (.ofNat 0)), (.int .i64 (.ofNat 0)), (.int .i64 (.ofNat 0))] [(2, 1), (3, 1)]), [(.tmp p17), (.tmp p19)], none⟩,
  ⟨some p7, (.alloc 127 [(.int .i64 (.ofNat 0)), (.int .i64 (.ofNat 0)), (.int .i64 (.ofNat 0)), (.int .i64 (.ofNat 0))]), [], none⟩,
  ⟨none, (.store 4), [(.tmp p7), (.tmp p20)], none⟩])
 (.seq (.seq (.reg [
  ⟨some p21, (.fieldAddr 1), [(.tmp p6)], none⟩,
  ⟨some p22, (.load false 1), [(.tmp p21)], none⟩,
  ⟨some p23, (.eql (.base .int) false), [(.tmp p22), (.const (.int .i64 (.ofNat 1)))], none⟩])
 (.cond (.tmp p23)
 (.seq (.reg [
  ⟨some p24, (.load true 4), [(.tmp p7)], none⟩,
  ⟨some p25, (.fieldAddr 6), [(.tmp p6)], none⟩,
  ⟨some p26, (.load false 1), [(.tmp p25)], none⟩,
  ⟨some p27, (.build [(.int .i64 (.ofNat 0)), (.int .i64 (.ofNat 0)), (.int .i64 (.ofNat 0)), (.int .i64 (.ofNat 0)), (.int .i64 (.ofNat 0))] [(0, 4), (4, 1)]), [(.tmp p24), (.tmp p26)], none⟩,
  ⟨some p28, (.box 129 5), [(.tmp p27)], none⟩,
  ⟨some p29, (.mkIface 125), [(.tmp p28)], none⟩,
  ⟨some p30, .move, [(.tmp p0)], none⟩,
  ⟨some p4, .move, [(.tmp p29)], none⟩,
  ⟨some p5, .move, [(.tmp p30)], none⟩])
 (.ret [.tmp p4, .tmp p5]))
 .skip))
 (.seq (.reg [
  ⟨some p31, (.load true 4), [(.tmp p7)], none⟩,
  ⟨some p32, (.fieldAddr 1), [(.tmp p6)], none⟩,
  ⟨some p33, (.load false 1), [(.tmp p32)], none⟩,
  ⟨some p34, (.build [(.int .i64 (.ofNat 0)), (.int .i64 (.ofNat 0)), (.int .i64 (.ofNat 0)), (.int .i64 (.ofNat 0)), (.int .i64 (.ofNat 0)), .snil] [(0, 4), (4, 1)]), [(.tmp p31), (.tmp p33)], none⟩,
  ⟨some p35, (.box 134 6), [(.tmp p34)], none⟩,
  ⟨some p8, .move, [(.tmp p35)], none⟩])
 (.seq (.reg [
  ⟨some p9, .move, [(.const (.int .i64 (.negSucc 0)))], none⟩])
 (.seq (.block 0 [p0, p6, p7, p8, p9] (.loop [p0, p1, p6, p7, p8, p9] (.seq (.seq (.reg [
  ⟨some p36, .move, [(.tmp p0)], none⟩,
  ⟨some p37, .lenL, [(.tmp p36)], none⟩,
  ⟨some p38, (.bin .gtr), [(.tmp p37), (.const (.int .i64 (.ofNat 0)))], none⟩,
  ⟨some p39, .move, [(.tmp p38)], none⟩,
  ⟨some p40, .move, [(.tmp p0)], some (p39, true)⟩,
  ⟨some p41, (.idxSlice 7), [(.tmp p40), (.const (.int .i64 (.ofNat 0)))], some (p39, true)⟩,
  ⟨some p42, (.fieldAddr 0), [(.tmp p41)], some (p39, true)⟩,
  ⟨some p43, (.load false 1), [(.tmp p42)], some (p39, true)⟩,
  ⟨some p44, .move, [(.tmp p1)], some (p39, true)⟩,
  ⟨some p45, (.bin .add), [(.tmp p44), (.const (.int .i64 (.ofNat 1)))], some (p39, true)⟩,
  ⟨some p46, (.eql (.base .int) false), [(.tmp p43), (.tmp p45)], some (p39, true)⟩,
  ⟨some p47, .pick, [(.tmp p39), (.tmp p46), (.const (.bool false))], none⟩])
 (.cond (.tmp p47)
 .skip
 (.exit 0 [p0, p6, p7, p8, p9])))
 (.block 1 [p0, p1, p6, p7, p8, p9] (.seq (.reg [
  ⟨some p10, .move, [(.const .inil)], none⟩])
 (.seq (.seq (.drawn [
  ⟨0, ⟨some p48, .move, [(.tmp p0)], none⟩, .pure, []⟩,
  ⟨1, ⟨some p49, (.idxSlice 7), [(.tmp p48), (.const (.int .i64 (.ofNat 0)))], none⟩, .pure, [0]⟩,
  ⟨2, ⟨some p50, (.fieldAddr 1), [(.tmp p49)], none⟩, .pure, [1]⟩,
  ⟨3, ⟨some p51, (.load false 1), [(.tmp p50)], none⟩, (.read 0 0), [2]⟩,
  ⟨4, ⟨some p52, (.fieldAddr 1), [(.tmp p6)], none⟩, .pure, []⟩,
  ⟨5, ⟨some p53, (.load false 1), [(.tmp p52)], none⟩, (.read 0 0), [4]⟩,
  ⟨6, ⟨some p54, (.eql (.base .int) false), [(.tmp p51), (.tmp p53)], none⟩, (.read 0 0), [3, 5]⟩])
 (.cond (.tmp p54)
 (.seq (.reg [
  ⟨some p4, .move, [(.const .inil)], none⟩,
  ⟨some p5, .move, [(.const .snil)], none⟩])
 (.ret [.tmp p4, .tmp p5]))
 .skip))
 (.seq (.seq (.reg [
  ⟨some p56, .move, [(.tmp p0)], none⟩,
  ⟨some p57, .move, [(.tmp p1)], none⟩,
  ⟨some p58, (.bin .add), [(.tmp p57), (.const (.int .i64 (.ofNat 1)))], none⟩,
  ⟨some p59, .call, [(.const (.fn 72 [] [])), (.tmp p56), (.tmp p58)], none⟩,
  ⟨some p55, .move, [(.tmp p59)], none⟩,
  ⟨some p60, (.extract 0), [(.tmp p55)], none⟩,
  ⟨some p61, (.extract 1), [(.tmp p55)], none⟩,
  ⟨some p10, .move, [(.tmp p60)], none⟩,
  ⟨some p0, .move, [(.tmp p61)], none⟩])
 (.seq (.reg [
  ⟨some p62, .move, [(.tmp p10)], none⟩,
  ⟨some p63, (.eql (.iface true) false), [(.tmp p62), (.const .inil)], none⟩])
 (.cond (.tmp p63)
 (.seq (.reg [
  ⟨some p4, .move, [(.const .inil)], none⟩,
  ⟨some p5, .move, [(.const .snil)], none⟩])
 (.ret [.tmp p4, .tmp p5]))
 .skip)))
 (.seq (.reg [
  ⟨some p64, .move, [(.tmp p8)], none⟩,
  ⟨some p65, .move, [(.tmp p8)], none⟩,
  ⟨some p66, .nilCheck, [(.tmp p65)], none⟩,
  ⟨some p67, (.fieldAddr 5), [(.tmp p66)], none⟩,
  ⟨some p68, (.load false 1), [(.tmp p67)], none⟩,
  ⟨some p69, .move, [(.tmp p10)], none⟩,
  ⟨some p70, (.buildSlice 120 1 [.inil] 1 [(0, 1)]), [(.tmp p69)], none⟩,
  ⟨some p71, (.append 120 1), [(.tmp p68), (.tmp p70)], none⟩,
  ⟨some p72, .nilCheck, [(.tmp p64)], none⟩,
  ⟨some p73, (.fieldAddr 5), [(.tmp p72)], none⟩,
  ⟨none, (.store 1), [(.tmp p73), (.tmp p71)], none⟩])
 (.seq (.drawn [
  ⟨0, ⟨some p74, .move, [(.tmp p9)], none⟩, .pure, []⟩,
  ⟨1, ⟨some p75, .move, [(.tmp p10)], none⟩, .pure, []⟩,
  ⟨2, ⟨some p76, (.invoke 0), [(.tmp p75)], none⟩, .eff, [1]⟩,
  ⟨3, ⟨some p77, (.fieldAddr 1), [(.tmp p6)], none⟩, .pure, []⟩,
  ⟨4, ⟨some p78, (.load false 1), [(.tmp p77)], none⟩, (.read 0 1), [3]⟩,
  ⟨5, ⟨some p79, .call, [(.const (.fn 55 [] [])), (.tmp p76), (.tmp p78)], none⟩, .eff, [2, 4, 2]⟩,
  ⟨6, ⟨some p80, (.bin .add), [(.tmp p79), (.const (.int .i64 (.ofNat 1)))], none⟩, .pure, [5]⟩,
  ⟨7, ⟨some p81, (.bin .add), [(.tmp p74), (.tmp p80)], none⟩, .pure, [0, 6]⟩,
  ⟨8, ⟨some p9, .move, [(.tmp p81)], none⟩, .pure, [7, 5, 0, 1, 2, 3, 4, 5, 6, 7]⟩])
 (.seq (.drawn [
  ⟨0, ⟨some p82, .move, [(.tmp p10)], none⟩, .pure, []⟩,
  ⟨1, ⟨some p83, (.invoke 0), [(.tmp p82)], none⟩, .eff, [0]⟩,
  ⟨2, ⟨some p84, (.fieldAddr 1), [(.tmp p6)], none⟩, .pure, []⟩,
  ⟨3, ⟨some p85, (.load false 1), [(.tmp p84)], none⟩, (.read 0 1), [2]⟩,
  ⟨4, ⟨some p86, (.bin .sub), [(.const (.int .i64 (.ofNat 5))), (.tmp p85)], none⟩, .pure, [3]⟩,
  ⟨5, ⟨some p87, .call, [(.const (.fn 55 [] [])), (.tmp p83), (.tmp p86)], none⟩, .eff, [1, 4, 1]⟩,
  ⟨6, ⟨some p88, (.fieldAddr 1), [(.tmp p6)], none⟩, .pure, []⟩,
  ⟨7, ⟨some p89, (.load false 1), [(.tmp p88)], none⟩, (.read 0 2), [6]⟩,
  ⟨8, ⟨some p90, (.bin .sub), [(.const (.int .i64 (.ofNat 5))), (.tmp p89)], none⟩, .pure, [7]⟩,
  ⟨9, ⟨some p91, .call, [(.const (.fn 55 [] [])), (.tmp p7), (.tmp p90)], none⟩, .eff, [8, 5]⟩,
  ⟨10, ⟨some p92, (.eql (.base .int) true), [(.tmp p87), (.tmp p91)], none⟩, (.read 3 3), [5, 9]⟩])
 (.cond (.tmp p92)
 (.seq (.reg [
  ⟨some p4, .move, [(.const .inil)], none⟩,
  ⟨some p5, .move, [(.const .snil)], none⟩])
 (.ret [.tmp p4, .tmp p5]))
 .skip)))))))))))
 (.seq (.seq (.reg [
  ⟨some p93, .move, [(.tmp p8)], none⟩,
  ⟨some p94, .nilCheck, [(.tmp p93)], none⟩,
  ⟨some p95, (.fieldAddr 5), [(.tmp p94)], none⟩,
  ⟨some p96, (.load false 1), [(.tmp p95)], none⟩,
  ⟨some p97, .lenL, [(.tmp p96)], none⟩,
  ⟨some p98, (.bin .lss), [(.tmp p97), (.const (.int .i64 (.ofNat 2)))], none⟩,
  ⟨some p99, .move, [(.tmp p98)], none⟩,
  ⟨some p100, .move, [(.tmp p9)], some (p99, false)⟩,
  ⟨some p101, (.fieldAddr 1), [(.tmp p6)], some (p99, false)⟩,
  ⟨some p102, (.load false 1), [(.tmp p101)], some (p99, false)⟩,
  ⟨some p103, .call, [(.const (.fn 55 [] [])), (.tmp p7), (.tmp p102)], some (p99, false)⟩,
  ⟨some p104, (.eql (.base .int) true), [(.tmp p100), (.tmp p103)], some (p99, false)⟩,
  ⟨some p105, .pick, [(.tmp p99), (.const (.bool true)), (.tmp p104)], none⟩])
 (.cond (.tmp p105)
 (.seq (.reg [
  ⟨some p4, .move, [(.const .inil)], none⟩,
  ⟨some p5, .move, [(.const .snil)], none⟩])
 (.ret [.tmp p4, .tmp p5]))
 .skip))
 (.seq (.reg [
  ⟨some p106, .move, [(.tmp p8)], none⟩,
  ⟨some p107, (.mkIface 131), [(.tmp p106)], none⟩,
  ⟨some p108, .move, [(.tmp p0)], none⟩,
  ⟨some p4, .move, [(.tmp p107)], none⟩,
  ⟨some p5, .move, [(.tmp p108)], none⟩])
 (.ret [.tmp p4, .tmp p5]))))))))))),
 [.tmp p4, .tmp p5]⟩
def F73 : IFn := ⟨2,
(.seq (.reg [
  ⟨some p4, .move, [(.const (.bool false))], none⟩])
 (.seq (.seq (.reg [
  ⟨some p6, .move, [(.tmp p0)], none⟩,
  ⟨some p7, .lenL, [(.tmp p6)], none⟩,
  ⟨some p8, .move, [(.tmp p1)], none⟩,
  ⟨some p9, .lenL, [(.tmp p8)], none⟩,
  ⟨some p10, (.eql (.base .int) true), [(.tmp p7), (.tmp p9)], none⟩])
 (.cond (.tmp p10)
 (.seq (.reg [
  ⟨some p4, .move, [(.const (.bool false))], none⟩])
 (.ret [.tmp p4]))
 .skip))
 (.seq (.seq (.reg [
  ⟨some p11, .move, [(.tmp p0)], none⟩,
  ⟨some p12, .lenL, [(.tmp p11)], none⟩,
  ⟨some p13, .move, [(.const (.int .i64 (.ofNat 0)))], none⟩])
 (.block 0 [] (.loop [p0, p1, p12, p13] (.seq (.reg [
  ⟨some p14, (.bin .lss), [(.tmp p13), (.tmp p12)], none⟩])
 (.seq (.cond (.tmp p14)
 .skip
 (.exit 0 []))
 (.seq (.block 1 [p0, p1, p12, p13] (.seq (.reg [
  ⟨some p15, .move, [(.tmp p13)], none⟩,
  ⟨some p5, .move, [(.tmp p15)], none⟩])
 (.seq (.drawn [
  ⟨0, ⟨some p16, .move, [(.tmp p0)], none⟩, .pure, []⟩,
  ⟨1, ⟨some p17, .move, [(.tmp p5)], none⟩, .pure, []⟩,
  ⟨2, ⟨some p18, (.idxSlice 7), [(.tmp p16), (.tmp p17)], none⟩, .pure, [0, 1]⟩,
  ⟨3, ⟨some p19, (.load true 7), [(.tmp p18)], none⟩, (.read 0 0), [2]⟩,
  ⟨4, ⟨some p20, .move, [(.tmp p1)], none⟩, .pure, []⟩,
  ⟨5, ⟨some p21, .move, [(.tmp p5)], none⟩, .pure, []⟩,
  ⟨6, ⟨some p22, (.idxSlice 7), [(.tmp p20), (.tmp p21)], none⟩, .pure, [4, 5]⟩,
  ⟨7, ⟨some p23, (.load true 7), [(.tmp p22)], none⟩, (.read 0 0), [6]⟩,
  ⟨8, ⟨some p24, (.eql (.struct [(0, .int), (1, .int), (2, .int), (3, .int), (4, .int), (5, .int), (6, .int)]) true), [(.tmp p19), (.tmp p23)], none⟩, (.read 0 0), [3, 7]⟩])
 (.cond (.tmp p24)
 (.seq (.reg [
  ⟨some p4, .move, [(.const (.bool false))], none⟩])
 (.ret [.tmp p4]))
 .skip))))
 (.reg [
  ⟨some p25, (.bin .add), [(.tmp p13), (.const (.int .i64 (.ofNat 1)))], none⟩,
  ⟨some p13, .move, [(.tmp p25)], none⟩])))))))
 (.seq (.reg [
  ⟨some p4, .move, [(.const (.bool true))], none⟩])
 (.ret [.tmp p4]))))),
 [.tmp p4]⟩
def F74 : IFn := ⟨1,
(.seq (.reg [
  ⟨some p2, .move, [(.const .snil)], none⟩])
 (.seq (.reg [
  ⟨some p3, .move, [(.const .snil)], none⟩])
 (.seq (.seq (.reg [
  ⟨some p6, .move, [(.tmp p0)], none⟩,
  ⟨some p7, .call, [(.const (.fn 95 [] [])), (.tmp p6)], none⟩,
  ⟨some p8, .lenL, [(.tmp p7)], none⟩,
  ⟨some p9, .move, [(.const (.int .i64 (.ofNat 0)))], none⟩])
 (.block 0 [p3] (.loop [p3, p7, p8, p9] (.seq (.reg [
  ⟨some p10, (.bin .lss), [(.tmp p9), (.tmp p8)], none⟩])
 (.seq (.cond (.tmp p10)
 .skip
 (.exit 0 [p3]))
 (.seq (.block 1 [p3, p7, p8, p9] (.seq (.reg [
  ⟨some p11, (.idxSlice 1), [(.tmp p7), (.tmp p9)], none⟩,
  ⟨some p12, (.load false 1), [(.tmp p11)], none⟩,
  ⟨some p5, .move, [(.tmp p12)], none⟩])
 (.reg [
  ⟨some p13, .move, [(.tmp p3)], none⟩,
  ⟨some p14, .move, [(.tmp p5)], none⟩,
  ⟨some p15, .nilCheck, [(.tmp p14)], none⟩,
  ⟨some p16, (.fieldAddr 4), [(.tmp p15)], none⟩,
  ⟨some p17, (.load false 1), [(.tmp p16)], none⟩,
  ⟨some p18, (.buildSlice 3 1 [(.int .i64 (.ofNat 0))] 1 [(0, 1)]), [(.tmp p17)], none⟩,
  ⟨some p19, (.append 3 1), [(.tmp p13), (.tmp p18)], none⟩,
  ⟨some p3, .move, [(.tmp p19)], none⟩])))
 (.reg [
  ⟨some p20, (.bin .add), [(.tmp p9), (.const (.int .i64 (.ofNat 1)))], none⟩,
  ⟨some p9, .move, [(.tmp p20)], none⟩])))))))
 (.seq (.reg [
  ⟨some p21, .move, [(.tmp p3)], none⟩,
  ⟨some p2, .move, [(.tmp p21)], none⟩])
 (.ret [.tmp p2]))))),
 [.tmp p2]⟩
def F75 : IFn := ⟨2,
(.seq (.reg [
  ⟨some p4, .move, [(.const (.bool false))], none⟩])
 (.seq (.reg [
  ⟨some p5, .move, [(.tmp p0)], none⟩,
  ⟨some p6, .move, [(.tmp p1)], none⟩,
  ⟨some p7, .call, [(.const (.fn 96 [] [])), (.tmp p5), (.tmp p6)], none⟩,
  ⟨some p8, (.bin .geq), [(.tmp p7), (.const (.int .i64 (.ofNat 0)))], none⟩,
  ⟨some p4, .move, [(.tmp p8)], none⟩])
 (.ret [.tmp p4]))),
 [.tmp p4]⟩
def F80 : IFn := ⟨5,
(.seq (.reg [
  ⟨some p16, .move, [(.tmp p0)], none⟩,
  ⟨some p17, (.invoke 0), [(.tmp p16)], none⟩,
  ⟨some p10, .move, [(.tmp p17)], none⟩])
 (.seq (.reg [
  ⟨some p18, .move, [(.tmp p10)], none⟩,
  ⟨some p19, .move, [(.tmp p10)], none⟩,
  ⟨some p20, .move, [(.tmp p2)], none⟩,
  ⟨some p21, .move, [(.tmp p3)], none⟩,
  ⟨some p22, .nilCheck, [(.tmp p18)], none⟩,
  ⟨some p23, (.fieldAddr 0), [(.tmp p22)], none⟩,
  ⟨none, (.store 1), [(.tmp p23), (.tmp p20)], none⟩,
  ⟨some p24, .nilCheck, [(.tmp p19)], none⟩,
  ⟨some p25, (.fieldAddr 1), [(.tmp p24)], none⟩,
  ⟨none, (.store 1), [(.tmp p25), (.tmp p21)], none⟩])
 (.seq (.drawn [
  ⟨0, ⟨some p26, .move, [(.tmp p1)], none⟩, .pure, []⟩,
  ⟨1, ⟨some p27, .move, [(.tmp p2)], none⟩, .pure, []⟩,
  ⟨2, ⟨some p28, .move, [(.tmp p3)], none⟩, .pure, []⟩,
  ⟨3, ⟨some p29, .move, [(.tmp p10)], none⟩, .pure, []⟩,
  ⟨4, ⟨some p30, .nilCheck, [(.tmp p29)], none⟩, .pure, [3]⟩,
  ⟨5, ⟨some p31, (.fieldAddr 2), [(.tmp p30)], none⟩, .pure, [4]⟩,
  ⟨6, ⟨some p32, (.load false 1), [(.tmp p31)], none⟩, (.read 0 0), [5]⟩,
  ⟨7, ⟨some p33, .move, [(.tmp p10)], none⟩, .pure, []⟩,
  ⟨8, ⟨some p34, .nilCheck, [(.tmp p33)], none⟩, .pure, [7]⟩,
  ⟨9, ⟨some p35, (.fieldAddr 3), [(.tmp p34)], none⟩, .pure, [8]⟩,
  ⟨10, ⟨some p36, (.load false 1), [(.tmp p35)], none⟩, (.read 0 0), [9]⟩,
  ⟨11, ⟨some p37, (.build [(.int .i64 (.ofNat 0)), (.int .i64 (.ofNat 0)), (.int .i64 (.ofNat 0)), (.int .i64 (.ofNat 0)), (.int .i64 (.ofNat 0)), (.int .i64 (.ofNat 0)), (.int .i64 (.ofNat 0))] [(0, 1), (1, 1), (2, 1), (3, 1), (4, 1), (5, 1)]), [(.tmp p26), (.const (.int .i64 (.ofNat 1))), (.tmp p27), (.tmp p28), (.tmp p32), (.tmp p36)], none⟩, .pure, [0, 1, 2, 6, 10]⟩,
  ⟨12, ⟨some p11, (.alloc 91 [(.int .i64 (.ofNat 0)), (.int .i64 (.ofNat 0)), (.int .i64 (.ofNat 0)), (.int .i64 (.ofNat 0)), (.int .i64 (.ofNat 0)), (.int .i64 (.ofNat 0)), (.int .i64 (.ofNat 0))]), [], none⟩, (.alloc 0), []⟩,
  ⟨13, ⟨none, (.store 7), [(.tmp p11), (.tmp p37)], none⟩, .eff, [12, 11, 0, 1, 2, 3, 4, 5, 6, 7, 8, 9, 10, 11, 12]⟩])
 (.seq (.reg [
  ⟨some p39, .move, [(.tmp p0)], none⟩,
  ⟨some p40, (.assertT 131 .pnil true), [(.tmp p39)], none⟩,
  ⟨some p38, .move, [(.tmp p40)], none⟩,
  ⟨some p41, (.extract 0), [(.tmp p38)], none⟩,
  ⟨some p42, (.extract 1), [(.tmp p38)], none⟩,
  ⟨some p12, .move, [(.tmp p41)], none⟩,
  ⟨some p13, .move, [(.tmp p42)], none⟩])
 (.seq (.seq (.reg [
  ⟨some p43, .move, [(.tmp p13)], none⟩,
  ⟨some p44, .not, [(.tmp p43)], none⟩])
 (.cond (.tmp p44)
 (.seq (.reg [
  ⟨some p45, .move, [(.tmp p0)], none⟩,
  ⟨some p46, (.assertT 125 .pnil false), [(.tmp p45)], none⟩,
  ⟨some p47, .nilCheck, [(.tmp p46)], none⟩,
  ⟨some p48, (.fieldAddr 4), [(.tmp p47)], none⟩,
  ⟨some p49, (.load false 1), [(.tmp p48)], none⟩,
  ⟨some p50, (.fieldAddr 6), [(.tmp p11)], none⟩,
  ⟨none, (.store 1), [(.tmp p50), (.tmp p49)], none⟩])
 (.seq (.drawn [
  ⟨0, ⟨some p51, .move, [(.tmp p4)], none⟩, .pure, []⟩,
  ⟨1, ⟨some p52, .move, [(.tmp p4)], none⟩, .pure, []⟩,
  ⟨2, ⟨some p53, .nilCheck, [(.tmp p52)], none⟩, .pure, [1]⟩,
  ⟨3, ⟨some p54, (.load false 1), [(.tmp p53)], none⟩, (.read 0 1), [2]⟩,
  ⟨4, ⟨some p55, (.load true 7), [(.tmp p11)], none⟩, (.read 0 0), []⟩,
  ⟨5, ⟨some p56, (.buildSlice 91 7 [(.int .i64 (.ofNat 0)), (.int .i64 (.ofNat 0)), (.int .i64 (.ofNat 0)), (.int .i64 (.ofNat 0)), (.int .i64 (.ofNat 0)), (.int .i64 (.ofNat 0)), (.int .i64 (.ofNat 0))] 1 [(0, 7)]), [(.tmp p55)], none⟩, .eff, [4]⟩,
  ⟨6, ⟨some p57, (.append 91 7), [(.tmp p54), (.tmp p56)], none⟩, .eff, [3, 5]⟩,
  ⟨7, ⟨some p58, .nilCheck, [(.tmp p51)], none⟩, .pure, [0, 0, 1, 2, 3, 4, 5, 6]⟩,
  ⟨8, ⟨none, (.store 1), [(.tmp p58), (.tmp p57)], none⟩, .eff, [7, 6, 6, 0, 1, 2, 3, 4, 5, 6]⟩])
 (.ret [])))
 .skip))
 (.seq (.reg [
  ⟨some p59, .move, [(.tmp p12)], none⟩,
  ⟨some p60, .nilCheck, [(.tmp p59)], none⟩,
  ⟨some p61, (.fieldAddr 4), [(.tmp p60)], none⟩,
  ⟨some p62, (.load false 1), [(.tmp p61)], none⟩,
  ⟨some p63, (.fieldAddr 1), [(.tmp p11)], none⟩,
  ⟨none, (.store 1), [(.tmp p63), (.tmp p62)], none⟩])
 (.seq (.drawn [
  ⟨0, ⟨some p64, .move, [(.tmp p4)], none⟩, .pure, []⟩,
  ⟨1, ⟨some p65, .move, [(.tmp p4)], none⟩, .pure, []⟩,
  ⟨2, ⟨some p66, .nilCheck, [(.tmp p65)], none⟩, .pure, [1]⟩,
  ⟨3, ⟨some p67, (.load false 1), [(.tmp p66)], none⟩, (.read 0 1), [2]⟩,
  ⟨4, ⟨some p68, (.load true 7), [(.tmp p11)], none⟩, (.read 0 0), []⟩,
  ⟨5, ⟨some p69, (.buildSlice 91 7 [(.int .i64 (.ofNat 0)), (.int .i64 (.ofNat 0)), (.int .i64 (.ofNat 0)), (.int .i64 (.ofNat 0)), (.int .i64 (.ofNat 0)), (.int .i64 (.ofNat 0)), (.int .i64 (.ofNat 0))] 1 [(0, 7)]), [(.tmp p68)], none⟩, .eff, [4]⟩,
  ⟨6, ⟨some p70, (.append 91 7), [(.tmp p67), (.tmp p69)], none⟩, .eff, [3, 5]⟩,
  ⟨7, ⟨some p71, .nilCheck, [(.tmp p64)], none⟩, .pure, [0, 0, 1, 2, 3, 4, 5, 6]⟩,
  ⟨8, ⟨none, (.store 1), [(.tmp p71), (.tmp p70)], none⟩, .eff, [7, 6, 6, 0, 1, 2, 3, 4, 5, 6]⟩])
 (.seq (.reg [
  ⟨some p72, .move, [(.tmp p12)], none⟩,
  ⟨some p73, .nilCheck, [(.tmp p72)], none⟩,
  ⟨some p74, (.fieldAddr 5), [(.tmp p73)], none⟩,
  ⟨some p75, (.load false 1), [(.tmp p74)], none⟩,
  ⟨some p76, .lenL, [(.tmp p75)], none⟩,
  ⟨some p77, .move, [(.const (.int .i64 (.ofNat 0)))], none⟩])
 (.block 0 [] (.loop [p1, p2, p3, p4, p12, p75, p76, p77] (.seq (.reg [
  ⟨some p78, (.bin .lss), [(.tmp p77), (.tmp p76)], none⟩])
 (.seq (.cond (.tmp p78)
 .skip
 (.exit 0 []))
 (.seq (.block 1 [p1, p2, p3, p4, p12, p75, p76, p77] (.seq (.reg [
  ⟨some p79, (.idxSlice 1), [(.tmp p75), (.tmp p77)], none⟩,
  ⟨some p80, (.load false 1), [(.tmp p79)], none⟩,
  ⟨some p15, .move, [(.tmp p80)], none⟩])
 (.seq (.reg [
  ⟨some p81, .move, [(.tmp p15)], none⟩,
  ⟨some p82, .move, [(.tmp p1)], none⟩,
  ⟨some p83, (.bin .add), [(.tmp p82), (.const (.int .i64 (.ofNat 1)))], none⟩,
  ⟨some p84, .move, [(.tmp p2)], none⟩,
  ⟨some p85, .move, [(.tmp p3)], none⟩,
  ⟨some p86, .move, [(.tmp p4)], none⟩,
  ⟨some p87, .call, [(.const (.fn 80 [] [])), (.tmp p81), (.tmp p83), (.tmp p84), (.tmp p85), (.tmp p86)], none⟩])
 (.seq (.reg [
  ⟨some p88, .move, [(.tmp p12)], none⟩,
  ⟨some p89, .nilCheck, [(.tmp p88)], none⟩,
  ⟨some p90, (.fieldAddr 4), [(.tmp p89)], none⟩,
  ⟨some p91, (.load false 1), [(.tmp p90)], none⟩,
  ⟨some p92, (.eql (.base .int) false), [(.tmp p91), (.const (.int .i64 (.ofNat 2)))], none⟩])
 (.cond (.tmp p92)
 (.reg [
  ⟨some p93, .move, [(.tmp p2)], none⟩,
  ⟨some p94, .move, [(.tmp p15)], none⟩,
  ⟨some p95, (.invoke 0), [(.tmp p94)], none⟩,
  ⟨some p96, .nilCheck, [(.tmp p95)], none⟩,
  ⟨some p97, (.fieldAddr 2), [(.tmp p96)], none⟩,
  ⟨some p98, (.load false 1), [(.tmp p97)], none⟩,
  ⟨some p99, (.bin .add), [(.tmp p98), (.const (.int .i64 (.ofNat 1)))], none⟩,
  ⟨some p100, (.bin .add), [(.tmp p93), (.tmp p99)], none⟩,
  ⟨some p2, .move, [(.tmp p100)], none⟩])
 (.reg [
  ⟨some p101, .move, [(.tmp p3)], none⟩,
  ⟨some p102, .move, [(.tmp p15)], none⟩,
  ⟨some p103, (.invoke 0), [(.tmp p102)], none⟩,
  ⟨some p104, .nilCheck, [(.tmp p103)], none⟩,
  ⟨some p105, (.fieldAddr 3), [(.tmp p104)], none⟩,
  ⟨some p106, (.load false 1), [(.tmp p105)], none⟩,
  ⟨some p107, (.bin .add), [(.tmp p106), (.const (.int .i64 (.ofNat 1)))], none⟩,
  ⟨some p108, (.bin .add), [(.tmp p101), (.tmp p107)], none⟩,
  ⟨some p3, .move, [(.tmp p108)], none⟩]))))))
 (.reg [
  ⟨some p109, (.bin .add), [(.tmp p77), (.const (.int .i64 (.ofNat 1)))], none⟩,
  ⟨some p77, .move, [(.tmp p109)], none⟩])))))))))))))),
 []⟩
def F81 : IFn := ⟨3,
(.seq (.reg [
  ⟨some p6, .move, [(.const .pnil)], none⟩,
  ⟨some p7, .move, [(.const (.int .i64 (.ofNat 0)))], none⟩])
 (.seq (.block 0 [p0, p1, p2] (.seq (.seq (.reg [
  ⟨some p9, .move, [(.tmp p0)], none⟩,
  ⟨some p10, (.bin .lss), [(.tmp p9), (.const (.int .i64 (.ofNat 1)))], none⟩,
  ⟨some p8, .move, [(.tmp p10)], none⟩])
 (.cond (.tmp p8)
 .skip
 (.seq (.reg [
  ⟨some p11, .move, [(.tmp p0)], none⟩,
  ⟨some p12, (.bin .gtr), [(.tmp p11), (.const (.int .i64 (.ofNat 65536)))], none⟩,
  ⟨some p8, .move, [(.tmp p12)], none⟩])
 (.cond (.tmp p8)
 .skip
 (.seq (.reg [
  ⟨some p13, .move, [(.tmp p1)], none⟩,
  ⟨some p14, (.bin .lss), [(.tmp p13), (.const (.int .i64 (.ofNat 0)))], none⟩,
  ⟨some p8, .move, [(.tmp p14)], none⟩])
 (.cond (.tmp p8)
 .skip
 (.reg [
  ⟨some p15, .move, [(.tmp p2)], none⟩,
  ⟨some p16, .lenS, [(.tmp p15)], none⟩,
  ⟨some p17, .move, [(.tmp p0)], none⟩,
  ⟨some p18, (.bin .gtr), [(.tmp p16), (.tmp p17)], none⟩,
  ⟨some p8, .move, [(.tmp p18)], none⟩])))))))
 (.cond (.tmp p8)
 (.seq (.reg [
  ⟨some p6, .move, [(.const .pnil)], none⟩,
  ⟨some p7, .move, [(.const (.int .i64 (.ofNat 1)))], none⟩])
 (.ret [.tmp p6, .tmp p7]))
 (.seq (.reg [
  ⟨some p20, .move, [(.tmp p1)], none⟩,
  ⟨some p21, .move, [(.tmp p2)], none⟩,
  ⟨some p22, .lenS, [(.tmp p21)], none⟩,
  ⟨some p23, (.bin .sub), [(.const (.int .i64 (.ofNat 4611686018427387904))), (.tmp p22)], none⟩,
  ⟨some p24, (.bin .gtr), [(.tmp p20), (.tmp p23)], none⟩,
  ⟨some p19, .move, [(.tmp p24)], none⟩])
 (.cond (.tmp p19)
 (.seq (.reg [
  ⟨some p6, .move, [(.const .pnil)], none⟩,
  ⟨some p7, .move, [(.const (.int .i64 (.ofNat 2)))], none⟩])
 (.ret [.tmp p6, .tmp p7]))
 .skip)))))
 (.seq (.reg [
  ⟨some p25, .move, [(.tmp p0)], none⟩,
  ⟨some p26, .move, [(.tmp p1)], none⟩,
  ⟨some p27, .move, [(.tmp p2)], none⟩,
  ⟨some p28, (.convStrBytes 5), [(.tmp p27)], none⟩,
  ⟨some p29, (.build [(.int .i64 (.ofNat 0)), (.int .i64 (.ofNat 0)), .snil] [(0, 1), (1, 1), (2, 1)]), [(.tmp p25), (.tmp p26), (.tmp p28)], none⟩,
  ⟨some p30, (.box 145 3), [(.tmp p29)], none⟩,
  ⟨some p6, .move, [(.tmp p30)], none⟩,
  ⟨some p7, .move, [(.const (.int .i64 (.ofNat 0)))], none⟩])
 (.ret [.tmp p6, .tmp p7])))),
 [.tmp p6, .tmp p7]⟩
def F82 : IFn := ⟨3,
(.seq (.reg [
  ⟨some p8, .move, [(.tmp p1)], none⟩,
  ⟨some p9, (.bin .add), [(.tmp p8), (.const (.int .i64 (.ofNat 1)))], none⟩,
  ⟨some p6, .move, [(.tmp p9)], none⟩])
 (.block 0 [] (.loop [p0, p1, p2, p6] (.seq (.seq (.reg [
  ⟨some p10, .move, [(.tmp p6)], none⟩,
  ⟨some p11, .move, [(.tmp p2)], none⟩,
  ⟨some p12, (.bin .lss), [(.tmp p10), (.tmp p11)], none⟩])
 (.cond (.tmp p12)
 .skip
 (.exit 0 [])))
 (.seq (.block 1 [p0, p1, p2, p6] (.seq (.reg [
  ⟨some p15, .move, [(.tmp p6)], none⟩,
  ⟨some p7, .move, [(.tmp p15)], none⟩])
 (.block 2 [p0, p1, p2, p6] (.loop [p0, p1, p2, p6, p7] (.seq (.seq (.drawn [
  ⟨0, ⟨some p16, .move, [(.tmp p7)], none⟩, .pure, []⟩,
  ⟨1, ⟨some p17, .move, [(.tmp p1)], none⟩, .pure, []⟩,
  ⟨2, ⟨some p18, (.bin .gtr), [(.tmp p16), (.tmp p17)], none⟩, .pure, [0, 1]⟩,
  ⟨3, ⟨some p19, .move, [(.tmp p18)], none⟩, .pure, [2]⟩,
  ⟨4, ⟨some p20, .move, [(.tmp p0)], some (p19, true)⟩, .pure, [3]⟩,
  ⟨5, ⟨some p21, .move, [(.tmp p7)], some (p19, true)⟩, .pure, [3]⟩,
  ⟨6, ⟨some p22, (.idxSlice 1), [(.tmp p20), (.tmp p21)], some (p19, true)⟩, .pure, [4, 5, 3]⟩,
  ⟨7, ⟨some p23, (.load false 1), [(.tmp p22)], some (p19, true)⟩, (.read 0 0), [6, 3]⟩,
  ⟨8, ⟨some p24, .move, [(.tmp p0)], some (p19, true)⟩, .pure, [3]⟩,
  ⟨9, ⟨some p25, .move, [(.tmp p7)], some (p19, true)⟩, .pure, [3]⟩,
  ⟨10, ⟨some p26, (.bin .sub), [(.tmp p25), (.const (.int .i64 (.ofNat 1)))], some (p19, true)⟩, .pure, [9, 3]⟩,
  ⟨11, ⟨some p27, (.idxSlice 1), [(.tmp p24), (.tmp p26)], some (p19, true)⟩, .pure, [8, 10, 3]⟩,
  ⟨12, ⟨some p28, (.load false 1), [(.tmp p27)], some (p19, true)⟩, (.read 0 0), [11, 3]⟩,
  ⟨13, ⟨some p29, .call, [(.const (.fn 88 [] [])), (.tmp p23), (.tmp p28)], some (p19, true)⟩, .eff, [7, 12, 3, 3]⟩,
  ⟨14, ⟨some p30, .pick, [(.tmp p19), (.tmp p29), (.const (.bool false))], none⟩, .pure, [3, 13]⟩])
 (.cond (.tmp p30)
 .skip
 (.exit 2 [p0, p1, p2, p6])))
 (.seq (.block 3 [p0, p1, p2, p6, p7] (.drawn [
  ⟨0, ⟨some p33, .move, [(.tmp p0)], none⟩, .pure, []⟩,
  ⟨1, ⟨some p34, .move, [(.tmp p7)], none⟩, .pure, []⟩,
  ⟨2, ⟨some p35, .move, [(.tmp p0)], none⟩, .pure, []⟩,
  ⟨3, ⟨some p36, .move, [(.tmp p7)], none⟩, .pure, []⟩,
  ⟨4, ⟨some p37, (.bin .sub), [(.tmp p36), (.const (.int .i64 (.ofNat 1)))], none⟩, .pure, [3]⟩,
  ⟨5, ⟨some p38, .move, [(.tmp p0)], none⟩, .pure, []⟩,
  ⟨6, ⟨some p39, .move, [(.tmp p7)], none⟩, .pure, []⟩,
  ⟨7, ⟨some p40, (.bin .sub), [(.tmp p39), (.const (.int .i64 (.ofNat 1)))], none⟩, .pure, [6]⟩,
  ⟨8, ⟨some p41, (.idxSlice 1), [(.tmp p38), (.tmp p40)], none⟩, .pure, [5, 7]⟩,
  ⟨9, ⟨some p42, (.load false 1), [(.tmp p41)], none⟩, (.read 0 0), [8]⟩,
  ⟨10, ⟨some p43, .move, [(.tmp p0)], none⟩, .pure, []⟩,
  ⟨11, ⟨some p44, .move, [(.tmp p7)], none⟩, .pure, []⟩,
  ⟨12, ⟨some p45, (.idxSlice 1), [(.tmp p43), (.tmp p44)], none⟩, .pure, [10, 11]⟩,
  ⟨13, ⟨some p46, (.load false 1), [(.tmp p45)], none⟩, (.read 0 0), [12]⟩,
  ⟨14, ⟨some p47, (.idxSlice 1), [(.tmp p33), (.tmp p34)], none⟩, .pure, [0, 1, 0, 1, 5, 6, 7, 8, 9, 13]⟩,
  ⟨15, ⟨none, (.store 1), [(.tmp p47), (.tmp p42)], none⟩, .eff, [14, 9, 0, 1, 5, 6, 7, 8, 9, 13]⟩,
  ⟨16, ⟨some p48, (.idxSlice 1), [(.tmp p35), (.tmp p37)], none⟩, .pure, [2, 4, 0, 1, 2, 3, 4, 5, 6, 7, 8, 9, 10, 11, 12, 13, 14, 15]⟩,
  ⟨17, ⟨none, (.store 1), [(.tmp p48), (.tmp p46)], none⟩, .eff, [16, 13, 15, 0, 1, 2, 3, 4, 5, 6, 7, 8, 9, 10, 11, 12, 13, 14, 15]⟩]))
 (.reg [
  ⟨some p31, .move, [(.tmp p7)], none⟩,
  ⟨some p32, (.bin .sub), [(.tmp p31), (.const (.int .i64 (.ofNat 1)))], none⟩,
  ⟨some p7, .move, [(.tmp p32)], none⟩])))))))
 (.reg [
  ⟨some p13, .move, [(.tmp p6)], none⟩,
  ⟨some p14, (.bin .add), [(.tmp p13), (.const (.int .i64 (.ofNat 1)))], none⟩,
  ⟨some p6, .move, [(.tmp p14)], none⟩])))))),
 []⟩
def F83 : IFn := ⟨3,
(.seq (.reg [
  ⟨some p11, .move, [(.tmp p1)], none⟩,
  ⟨some p6, .move, [(.tmp p11)], none⟩])
 (.seq (.reg [
  ⟨some p7, .move, [(.const (.int .i64 (.ofNat 0)))], none⟩])
 (.seq (.reg [
  ⟨some p12, .move, [(.tmp p2)], none⟩,
  ⟨some p13, .move, [(.tmp p1)], none⟩,
  ⟨some p14, (.bin .sub), [(.tmp p12), (.tmp p13)], none⟩,
  ⟨some p8, .move, [(.tmp p14)], none⟩])
 (.seq (.seq (.reg [
  ⟨some p15, .move, [(.tmp p8)], none⟩,
  ⟨some p16, (.bin .sub), [(.tmp p15), (.const (.int .i64 (.ofNat 1)))], none⟩,
  ⟨some p17, (.bin .quo), [(.tmp p16), (.const (.int .i64 (.ofNat 2)))], none⟩,
  ⟨some p9, .move, [(.tmp p17)], none⟩])
 (.block 0 [p0, p6, p7, p8] (.loop [p0, p6, p7, p8, p9] (.seq (.seq (.reg [
  ⟨some p18, .move, [(.tmp p9)], none⟩,
  ⟨some p19, (.bin .geq), [(.tmp p18), (.const (.int .i64 (.ofNat 0)))], none⟩])
 (.cond (.tmp p19)
 .skip
 (.exit 0 [p0, p6, p7, p8])))
 (.seq (.block 1 [p0, p6, p7, p8, p9] (.reg [
  ⟨some p22, .move, [(.tmp p0)], none⟩,
  ⟨some p23, .move, [(.tmp p9)], none⟩,
  ⟨some p24, .move, [(.tmp p8)], none⟩,
  ⟨some p25, .move, [(.tmp p6)], none⟩,
  ⟨some p26, .call, [(.const (.fn 98 [] [])), (.tmp p22), (.tmp p23), (.tmp p24), (.tmp p25)], none⟩]))
 (.reg [
  ⟨some p20, .move, [(.tmp p9)], none⟩,
  ⟨some p21, (.bin .sub), [(.tmp p20), (.const (.int .i64 (.ofNat 1)))], none⟩,
  ⟨some p9, .move, [(.tmp p21)], none⟩]))))))
 (.seq (.reg [
  ⟨some p27, .move, [(.tmp p8)], none⟩,
  ⟨some p28, (.bin .sub), [(.tmp p27), (.const (.int .i64 (.ofNat 1)))], none⟩,
  ⟨some p10, .move, [(.tmp p28)], none⟩])
 (.block 2 [] (.loop [p0, p6, p7, p10] (.seq (.seq (.reg [
  ⟨some p29, .move, [(.tmp p10)], none⟩,
  ⟨some p30, (.bin .geq), [(.tmp p29), (.const (.int .i64 (.ofNat 0)))], none⟩])
 (.cond (.tmp p30)
 .skip
 (.exit 2 [])))
 (.seq (.block 3 [p0, p6, p7, p10] (.seq (.drawn [
  ⟨0, ⟨some p33, .move, [(.tmp p0)], none⟩, .pure, []⟩,
  ⟨1, ⟨some p34, .move, [(.tmp p6)], none⟩, .pure, []⟩,
  ⟨2, ⟨some p35, .move, [(.tmp p0)], none⟩, .pure, []⟩,
  ⟨3, ⟨some p36, .move, [(.tmp p6)], none⟩, .pure, []⟩,
  ⟨4, ⟨some p37, .move, [(.tmp p10)], none⟩, .pure, []⟩,
  ⟨5, ⟨some p38, (.bin .add), [(.tmp p36), (.tmp p37)], none⟩, .pure, [3, 4]⟩,
  ⟨6, ⟨some p39, .move, [(.tmp p0)], none⟩, .pure, []⟩,
  ⟨7, ⟨some p40, .move, [(.tmp p6)], none⟩, .pure, []⟩,
  ⟨8, ⟨some p41, .move, [(.tmp p10)], none⟩, .pure, []⟩,
  ⟨9, ⟨some p42, (.bin .add), [(.tmp p40), (.tmp p41)], none⟩, .pure, [7, 8]⟩,
  ⟨10, ⟨some p43, (.idxSlice 1), [(.tmp p39), (.tmp p42)], none⟩, .pure, [6, 9]⟩,
  ⟨11, ⟨some p44, (.load false 1), [(.tmp p43)], none⟩, (.read 0 0), [10]⟩,
  ⟨12, ⟨some p45, .move, [(.tmp p0)], none⟩, .pure, []⟩,
  ⟨13, ⟨some p46, .move, [(.tmp p6)], none⟩, .pure, []⟩,
  ⟨14, ⟨some p47, (.idxSlice 1), [(.tmp p45), (.tmp p46)], none⟩, .pure, [12, 13]⟩,
  ⟨15, ⟨some p48, (.load false 1), [(.tmp p47)], none⟩, (.read 0 0), [14]⟩,
  ⟨16, ⟨some p49, (.idxSlice 1), [(.tmp p33), (.tmp p34)], none⟩, .pure, [0, 1, 0, 1, 6, 7, 8, 9, 10, 11, 15]⟩,
  ⟨17, ⟨none, (.store 1), [(.tmp p49), (.tmp p44)], none⟩, .eff, [16, 11, 0, 1, 6, 7, 8, 9, 10, 11, 15]⟩,
  ⟨18, ⟨some p50, (.idxSlice 1), [(.tmp p35), (.tmp p38)], none⟩, .pure, [2, 5, 0, 1, 2, 3, 4, 5, 6, 7, 8, 9, 10, 11, 12, 13, 14, 15, 16, 17]⟩,
  ⟨19, ⟨none, (.store 1), [(.tmp p50), (.tmp p48)], none⟩, .eff, [18, 15, 17, 0, 1, 2, 3, 4, 5, 6, 7, 8, 9, 10, 11, 12, 13, 14, 15, 16, 17]⟩])
 (.reg [
  ⟨some p51, .move, [(.tmp p0)], none⟩,
  ⟨some p52, .move, [(.tmp p7)], none⟩,
  ⟨some p53, .move, [(.tmp p10)], none⟩,
  ⟨some p54, .move, [(.tmp p6)], none⟩,
  ⟨some p55, .call, [(.const (.fn 98 [] [])), (.tmp p51), (.tmp p52), (.tmp p53), (.tmp p54)], none⟩])))
 (.reg [
  ⟨some p31, .move, [(.tmp p10)], none⟩,
  ⟨some p32, (.bin .sub), [(.tmp p31), (.const (.int .i64 (.ofNat 1)))], none⟩,
  ⟨some p10, .move, [(.tmp p32)], none⟩])))))))))),
 []⟩
def F84 : IFn := ⟨3,
(.seq (.reg [
  ⟨some p11, .move, [(.tmp p2)], none⟩,
  ⟨some p12, .move, [(.tmp p1)], none⟩,
  ⟨some p13, (.bin .sub), [(.tmp p11), (.tmp p12)], none⟩,
  ⟨some p6, .move, [(.tmp p13)], none⟩])
 (.seq (.reg [
  ⟨some p14, .move, [(.tmp p6)], none⟩,
  ⟨some p15, (.bin .geq), [(.tmp p14), (.const (.int .i64 (.ofNat 8)))], none⟩])
 (.cond (.tmp p15)
 (.seq (.reg [
  ⟨some p16, .move, [(.tmp p6)], none⟩,
  ⟨some p17, (.convInt .u64), [(.tmp p16)], none⟩,
  ⟨some p7, (.alloc 184 [(.int .u64 (.ofNat 0))]), [], none⟩,
  ⟨none, (.store 1), [(.tmp p7), (.tmp p17)], none⟩])
 (.seq (.reg [
  ⟨some p18, .move, [(.tmp p6)], none⟩,
  ⟨some p19, .call, [(.const (.fn 99 [] [])), (.tmp p18)], none⟩,
  ⟨some p8, .move, [(.tmp p19)], none⟩])
 (.seq (.reg [
  ⟨some p20, .move, [(.tmp p1)], none⟩,
  ⟨some p21, .move, [(.tmp p6)], none⟩,
  ⟨some p22, (.bin .quo), [(.tmp p21), (.const (.int .i64 (.ofNat 4)))], none⟩,
  ⟨some p23, (.bin .mul), [(.tmp p22), (.const (.int .i64 (.ofNat 2)))], none⟩,
  ⟨some p24, (.bin .add), [(.tmp p20), (.tmp p23)], none⟩,
  ⟨some p25, (.bin .sub), [(.tmp p24), (.const (.int .i64 (.ofNat 1)))], none⟩,
  ⟨some p9, .move, [(.tmp p25)], none⟩])
 (.block 0 [] (.loop [p0, p1, p6, p7, p8, p9] (.seq (.seq (.reg [
  ⟨some p26, .move, [(.tmp p9)], none⟩,
  ⟨some p27, .move, [(.tmp p1)], none⟩,
  ⟨some p28, .move, [(.tmp p6)], none⟩,
  ⟨some p29, (.bin .quo), [(.tmp p28), (.const (.int .i64 (.ofNat 4)))], none⟩,
  ⟨some p30, (.bin .mul), [(.tmp p29), (.const (.int .i64 (.ofNat 2)))], none⟩,
  ⟨some p31, (.bin .add), [(.tmp p27), (.tmp p30)], none⟩,
  ⟨some p32, (.bin .add), [(.tmp p31), (.const (.int .i64 (.ofNat 1)))], none⟩,
  ⟨some p33, (.bin .leq), [(.tmp p26), (.tmp p32)], none⟩])
 (.cond (.tmp p33)
 .skip
 (.exit 0 [])))
 (.seq (.block 1 [p0, p1, p6, p7, p8, p9] (.seq (.reg [
  ⟨some p36, .call, [(.const (.fn 100 [] [])), (.tmp p7)], none⟩,
  ⟨some p37, .move, [(.tmp p8)], none⟩,
  ⟨some p38, (.bin .sub), [(.tmp p37), (.const (.int .u64 (.ofNat 1)))], none⟩,
  ⟨some p39, (.bin .and), [(.tmp p36), (.tmp p38)], none⟩,
  ⟨some p40, (.convInt .i64), [(.tmp p39)], none⟩,
  ⟨some p10, .move, [(.tmp p40)], none⟩])
 (.seq (.seq (.reg [
  ⟨some p41, .move, [(.tmp p10)], none⟩,
  ⟨some p42, .move, [(.tmp p6)], none⟩,
  ⟨some p43, (.bin .geq), [(.tmp p41), (.tmp p42)], none⟩])
 (.cond (.tmp p43)
 (.reg [
  ⟨some p44, .move, [(.tmp p10)], none⟩,
  ⟨some p45, .move, [(.tmp p6)], none⟩,
  ⟨some p46, (.bin .sub), [(.tmp p44), (.tmp p45)], none⟩,
  ⟨some p10, .move, [(.tmp p46)], none⟩])
 .skip))
 (.drawn [
  ⟨0, ⟨some p47, .move, [(.tmp p0)], none⟩, .pure, []⟩,
  ⟨1, ⟨some p48, .move, [(.tmp p9)], none⟩, .pure, []⟩,
  ⟨2, ⟨some p49, .move, [(.tmp p0)], none⟩, .pure, []⟩,
  ⟨3, ⟨some p50, .move, [(.tmp p1)], none⟩, .pure, []⟩,
  ⟨4, ⟨some p51, .move, [(.tmp p10)], none⟩, .pure, []⟩,
  ⟨5, ⟨some p52, (.bin .add), [(.tmp p50), (.tmp p51)], none⟩, .pure, [3, 4]⟩,
  ⟨6, ⟨some p53, .move, [(.tmp p0)], none⟩, .pure, []⟩,
  ⟨7, ⟨some p54, .move, [(.tmp p1)], none⟩, .pure, []⟩,
  ⟨8, ⟨some p55, .move, [(.tmp p10)], none⟩, .pure, []⟩,
  ⟨9, ⟨some p56, (.bin .add), [(.tmp p54), (.tmp p55)], none⟩, .pure, [7, 8]⟩,
  ⟨10, ⟨some p57, (.idxSlice 1), [(.tmp p53), (.tmp p56)], none⟩, .pure, [6, 9]⟩,
  ⟨11, ⟨some p58, (.load false 1), [(.tmp p57)], none⟩, (.read 0 0), [10]⟩,
  ⟨12, ⟨some p59, .move, [(.tmp p0)], none⟩, .pure, []⟩,
  ⟨13, ⟨some p60, .move, [(.tmp p9)], none⟩, .pure, []⟩,
  ⟨14, ⟨some p61, (.idxSlice 1), [(.tmp p59), (.tmp p60)], none⟩, .pure, [12, 13]⟩,
  ⟨15, ⟨some p62, (.load false 1), [(.tmp p61)], none⟩, (.read 0 0), [14]⟩,
  ⟨16, ⟨some p63, (.idxSlice 1), [(.tmp p47), (.tmp p48)], none⟩, .pure, [0, 1, 0, 1, 6, 7, 8, 9, 10, 11, 15]⟩,
  ⟨17, ⟨none, (.store 1), [(.tmp p63), (.tmp p58)], none⟩, .eff, [16, 11, 0, 1, 6, 7, 8, 9, 10, 11, 15]⟩,
  ⟨18, ⟨some p64, (.idxSlice 1), [(.tmp p49), (.tmp p52)], none⟩, .pure, [2, 5, 0, 1, 2, 3, 4, 5, 6, 7, 8, 9, 10, 11, 12, 13, 14, 15, 16, 17]⟩,
  ⟨19, ⟨none, (.store 1), [(.tmp p64), (.tmp p62)], none⟩, .eff, [18, 15, 17, 0, 1, 2, 3, 4, 5, 6, 7, 8, 9, 10, 11, 12, 13, 14, 15, 16, 17]⟩]))))
 (.reg [
  ⟨some p34, .move, [(.tmp p9)], none⟩,
  ⟨some p35, (.bin .add), [(.tmp p34), (.const (.int .i64 (.ofNat 1)))], none⟩,
  ⟨some p9, .move, [(.tmp p35)], none⟩]))))))))
 .skip))),
 []⟩
def F85 : IFn := ⟨3,
(.seq (.reg [
  ⟨some p6, .move, [(.const (.int .i64 (.ofNat 0)))], none⟩,
  ⟨some p7, .move, [(.const (.int .i64 (.ofNat 0)))], none⟩])
 (.seq (.reg [
  ⟨some p13, .move, [(.tmp p2)], none⟩,
  ⟨some p14, .move, [(.tmp p1)], none⟩,
  ⟨some p15, (.bin .sub), [(.tmp p13), (.tmp p14)], none⟩,
  ⟨some p8, .move, [(.tmp p15)], none⟩])
 (.seq (.reg [
  ⟨some p9, (.alloc 3 [(.int .i64 (.ofNat 0))]), [], none⟩])
 (.seq (.reg [
  ⟨some p16, .move, [(.tmp p1)], none⟩,
  ⟨some p17, .move, [(.tmp p8)], none⟩,
  ⟨some p18, (.bin .quo), [(.tmp p17), (.const (.int .i64 (.ofNat 4)))], none⟩,
  ⟨some p19, (.bin .mul), [(.tmp p18), (.const (.int .i64 (.ofNat 1)))], none⟩,
  ⟨some p20, (.bin .add), [(.tmp p16), (.tmp p19)], none⟩,
  ⟨some p10, .move, [(.tmp p20)], none⟩])
 (.seq (.reg [
  ⟨some p21, .move, [(.tmp p1)], none⟩,
  ⟨some p22, .move, [(.tmp p8)], none⟩,
  ⟨some p23, (.bin .quo), [(.tmp p22), (.const (.int .i64 (.ofNat 4)))], none⟩,
  ⟨some p24, (.bin .mul), [(.tmp p23), (.const (.int .i64 (.ofNat 2)))], none⟩,
  ⟨some p25, (.bin .add), [(.tmp p21), (.tmp p24)], none⟩,
  ⟨some p11, .move, [(.tmp p25)], none⟩])
 (.seq (.reg [
  ⟨some p26, .move, [(.tmp p1)], none⟩,
  ⟨some p27, .move, [(.tmp p8)], none⟩,
  ⟨some p28, (.bin .quo), [(.tmp p27), (.const (.int .i64 (.ofNat 4)))], none⟩,
  ⟨some p29, (.bin .mul), [(.tmp p28), (.const (.int .i64 (.ofNat 3)))], none⟩,
  ⟨some p30, (.bin .add), [(.tmp p26), (.tmp p29)], none⟩,
  ⟨some p12, .move, [(.tmp p30)], none⟩])
 (.seq (.seq (.reg [
  ⟨some p31, .move, [(.tmp p8)], none⟩,
  ⟨some p32, (.bin .geq), [(.tmp p31), (.const (.int .i64 (.ofNat 8)))], none⟩])
 (.cond (.tmp p32)
 (.seq (.seq (.reg [
  ⟨some p33, .move, [(.tmp p8)], none⟩,
  ⟨some p34, (.bin .geq), [(.tmp p33), (.const (.int .i64 (.ofNat 50)))], none⟩])
 (.cond (.tmp p34)
 (.seq (.reg [
  ⟨some p35, .move, [(.tmp p0)], none⟩,
  ⟨some p36, .move, [(.tmp p10)], none⟩,
  ⟨some p37, .call, [(.const (.fn 101 [] [])), (.tmp p35), (.tmp p36), (.tmp p9)], none⟩,
  ⟨some p10, .move, [(.tmp p37)], none⟩])
 (.seq (.reg [
  ⟨some p38, .move, [(.tmp p0)], none⟩,
  ⟨some p39, .move, [(.tmp p11)], none⟩,
  ⟨some p40, .call, [(.const (.fn 101 [] [])), (.tmp p38), (.tmp p39), (.tmp p9)], none⟩,
  ⟨some p11, .move, [(.tmp p40)], none⟩])
 (.reg [
  ⟨some p41, .move, [(.tmp p0)], none⟩,
  ⟨some p42, .move, [(.tmp p12)], none⟩,
  ⟨some p43, .call, [(.const (.fn 101 [] [])), (.tmp p41), (.tmp p42), (.tmp p9)], none⟩,
  ⟨some p12, .move, [(.tmp p43)], none⟩])))
 .skip))
 (.reg [
  ⟨some p44, .move, [(.tmp p0)], none⟩,
  ⟨some p45, .move, [(.tmp p10)], none⟩,
  ⟨some p46, .move, [(.tmp p11)], none⟩,
  ⟨some p47, .move, [(.tmp p12)], none⟩,
  ⟨some p48, .call, [(.const (.fn 102 [] [])), (.tmp p44), (.tmp p45), (.tmp p46), (.tmp p47), (.tmp p9)], none⟩,
  ⟨some p11, .move, [(.tmp p48)], none⟩]))
 .skip))
 (.seq (.reg [
  ⟨some p49, (.load false 1), [(.tmp p9)], none⟩])
 (.block 0 [p6, p7] (.seq (.reg [
  ⟨some p52, (.eql (.base .int) false), [(.tmp p49), (.const (.int .i64 (.ofNat 0)))], none⟩,
  ⟨some p51, .move, [(.tmp p52)], none⟩])
 (.cond (.tmp p51)
 (.seq (.reg [
  ⟨some p53, .move, [(.tmp p11)], none⟩,
  ⟨some p6, .move, [(.tmp p53)], none⟩,
  ⟨some p7, .move, [(.const (.int .i64 (.ofNat 1)))], none⟩])
 (.ret [.tmp p6, .tmp p7]))
 (.seq (.reg [
  ⟨some p55, (.eql (.base .int) false), [(.tmp p49), (.const (.int .i64 (.ofNat 12)))], none⟩,
  ⟨some p54, .move, [(.tmp p55)], none⟩])
 (.cond (.tmp p54)
 (.seq (.reg [
  ⟨some p56, .move, [(.tmp p11)], none⟩,
  ⟨some p6, .move, [(.tmp p56)], none⟩,
  ⟨some p7, .move, [(.const (.int .i64 (.ofNat 2)))], none⟩])
 (.ret [.tmp p6, .tmp p7]))
 (.seq (.reg [
  ⟨some p50, .move, [(.tmp p11)], none⟩,
  ⟨some p6, .move, [(.tmp p50)], none⟩,
  ⟨some p7, .move, [(.const (.int .i64 (.ofNat 0)))], none⟩])
 (.ret [.tmp p6, .tmp p7]))))))))))))))),
 [.tmp p6, .tmp p7]⟩
def F86 : IFn := ⟨3,
(.seq (.reg [
  ⟨some p8, .move, [(.tmp p1)], none⟩,
  ⟨some p6, .move, [(.tmp p8)], none⟩])
 (.seq (.reg [
  ⟨some p9, .move, [(.tmp p2)], none⟩,
  ⟨some p10, (.bin .sub), [(.tmp p9), (.const (.int .i64 (.ofNat 1)))], none⟩,
  ⟨some p7, .move, [(.tmp p10)], none⟩])
 (.block 0 [] (.loop [p0, p6, p7] (.seq (.seq (.reg [
  ⟨some p11, .move, [(.tmp p6)], none⟩,
  ⟨some p12, .move, [(.tmp p7)], none⟩,
  ⟨some p13, (.bin .lss), [(.tmp p11), (.tmp p12)], none⟩])
 (.cond (.tmp p13)
 .skip
 (.exit 0 [])))
 (.block 1 [p0, p6, p7] (.seq (.drawn [
  ⟨0, ⟨some p14, .move, [(.tmp p0)], none⟩, .pure, []⟩,
  ⟨1, ⟨some p15, .move, [(.tmp p6)], none⟩, .pure, []⟩,
  ⟨2, ⟨some p16, .move, [(.tmp p0)], none⟩, .pure, []⟩,
  ⟨3, ⟨some p17, .move, [(.tmp p7)], none⟩, .pure, []⟩,
  ⟨4, ⟨some p18, .move, [(.tmp p0)], none⟩, .pure, []⟩,
  ⟨5, ⟨some p19, .move, [(.tmp p7)], none⟩, .pure, []⟩,
  ⟨6, ⟨some p20, (.idxSlice 1), [(.tmp p18), (.tmp p19)], none⟩, .pure, [4, 5]⟩,
  ⟨7, ⟨some p21, (.load false 1), [(.tmp p20)], none⟩, (.read 0 0), [6]⟩,
  ⟨8, ⟨some p22, .move, [(.tmp p0)], none⟩, .pure, []⟩,
  ⟨9, ⟨some p23, .move, [(.tmp p6)], none⟩, .pure, []⟩,
  ⟨10, ⟨some p24, (.idxSlice 1), [(.tmp p22), (.tmp p23)], none⟩, .pure, [8, 9]⟩,
  ⟨11, ⟨some p25, (.load false 1), [(.tmp p24)], none⟩, (.read 0 0), [10]⟩,
  ⟨12, ⟨some p26, (.idxSlice 1), [(.tmp p14), (.tmp p15)], none⟩, .pure, [0, 1, 0, 1, 4, 5, 6, 7, 11]⟩,
  ⟨13, ⟨none, (.store 1), [(.tmp p26), (.tmp p21)], none⟩, .eff, [12, 7, 0, 1, 4, 5, 6, 7, 11]⟩,
  ⟨14, ⟨some p27, (.idxSlice 1), [(.tmp p16), (.tmp p17)], none⟩, .pure, [2, 3, 0, 1, 2, 3, 4, 5, 6, 7, 8, 9, 10, 11, 12, 13]⟩,
  ⟨15, ⟨none, (.store 1), [(.tmp p27), (.tmp p25)], none⟩, .eff, [14, 11, 13, 0, 1, 2, 3, 4, 5, 6, 7, 8, 9, 10, 11, 12, 13]⟩])
 (.seq (.reg [
  ⟨some p28, .move, [(.tmp p6)], none⟩,
  ⟨some p29, (.bin .add), [(.tmp p28), (.const (.int .i64 (.ofNat 1)))], none⟩,
  ⟨some p6, .move, [(.tmp p29)], none⟩])
 (.reg [
  ⟨some p30, .move, [(.tmp p7)], none⟩,
  ⟨some p31, (.bin .sub), [(.tmp p30), (.const (.int .i64 (.ofNat 1)))], none⟩,
  ⟨some p7, .move, [(.tmp p31)], none⟩]))))))))),
 []⟩
def F87 : IFn := ⟨3,
(.seq (.reg [
  ⟨some p6, .move, [(.const (.bool false))], none⟩])
 (.seq (.reg [
  ⟨some p11, .move, [(.tmp p1)], none⟩,
  ⟨some p12, (.bin .add), [(.tmp p11), (.const (.int .i64 (.ofNat 1)))], none⟩,
  ⟨some p7, .move, [(.tmp p12)], none⟩])
 (.seq (.seq (.reg [
  ⟨some p8, .move, [(.const (.int .i64 (.ofNat 0)))], none⟩])
 (.block 0 [] (.loop [p0, p1, p2, p7, p8] (.seq (.seq (.reg [
  ⟨some p13, .move, [(.tmp p8)], none⟩,
  ⟨some p14, (.bin .lss), [(.tmp p13), (.const (.int .i64 (.ofNat 5)))], none⟩])
 (.cond (.tmp p14)
 .skip
 (.exit 0 [])))
 (.seq (.block 1 [p0, p1, p2, p7, p8] (.seq (.block 2 [p0, p1, p2, p7, p8] (.loop [p0, p1, p2, p7, p8] (.seq (.seq (.drawn [
  ⟨0, ⟨some p17, .move, [(.tmp p7)], none⟩, .pure, []⟩,
  ⟨1, ⟨some p18, .move, [(.tmp p2)], none⟩, .pure, []⟩,
  ⟨2, ⟨some p19, (.bin .lss), [(.tmp p17), (.tmp p18)], none⟩, .pure, [0, 1]⟩,
  ⟨3, ⟨some p20, .move, [(.tmp p19)], none⟩, .pure, [2]⟩,
  ⟨4, ⟨some p21, .move, [(.tmp p0)], some (p20, true)⟩, .pure, [3]⟩,
  ⟨5, ⟨some p22, .move, [(.tmp p7)], some (p20, true)⟩, .pure, [3]⟩,
  ⟨6, ⟨some p23, (.idxSlice 1), [(.tmp p21), (.tmp p22)], some (p20, true)⟩, .pure, [4, 5, 3]⟩,
  ⟨7, ⟨some p24, (.load false 1), [(.tmp p23)], some (p20, true)⟩, (.read 0 0), [6, 3]⟩,
  ⟨8, ⟨some p25, .move, [(.tmp p0)], some (p20, true)⟩, .pure, [3]⟩,
  ⟨9, ⟨some p26, .move, [(.tmp p7)], some (p20, true)⟩, .pure, [3]⟩,
  ⟨10, ⟨some p27, (.bin .sub), [(.tmp p26), (.const (.int .i64 (.ofNat 1)))], some (p20, true)⟩, .pure, [9, 3]⟩,
  ⟨11, ⟨some p28, (.idxSlice 1), [(.tmp p25), (.tmp p27)], some (p20, true)⟩, .pure, [8, 10, 3]⟩,
  ⟨12, ⟨some p29, (.load false 1), [(.tmp p28)], some (p20, true)⟩, (.read 0 0), [11, 3]⟩,
  ⟨13, ⟨some p30, .call, [(.const (.fn 88 [] [])), (.tmp p24), (.tmp p29)], some (p20, true)⟩, .eff, [7, 12, 3, 3]⟩,
  ⟨14, ⟨some p31, .not, [(.tmp p30)], some (p20, true)⟩, .pure, [13, 3]⟩,
  ⟨15, ⟨some p32, .pick, [(.tmp p20), (.tmp p31), (.const (.bool false))], none⟩, .pure, [3, 14]⟩])
 (.cond (.tmp p32)
 .skip
 (.exit 2 [p0, p1, p2, p7, p8])))
 (.block 3 [p0, p1, p2, p7, p8] (.reg [
  ⟨some p33, .move, [(.tmp p7)], none⟩,
  ⟨some p34, (.bin .add), [(.tmp p33), (.const (.int .i64 (.ofNat 1)))], none⟩,
  ⟨some p7, .move, [(.tmp p34)], none⟩])))))
 (.seq (.seq (.reg [
  ⟨some p35, .move, [(.tmp p7)], none⟩,
  ⟨some p36, .move, [(.tmp p2)], none⟩,
  ⟨some p37, (.eql (.base .int) false), [(.tmp p35), (.tmp p36)], none⟩])
 (.cond (.tmp p37)
 (.seq (.reg [
  ⟨some p6, .move, [(.const (.bool true))], none⟩])
 (.ret [.tmp p6]))
 .skip))
 (.seq (.seq (.reg [
  ⟨some p38, .move, [(.tmp p2)], none⟩,
  ⟨some p39, .move, [(.tmp p1)], none⟩,
  ⟨some p40, (.bin .sub), [(.tmp p38), (.tmp p39)], none⟩,
  ⟨some p41, (.bin .lss), [(.tmp p40), (.const (.int .i64 (.ofNat 50)))], none⟩])
 (.cond (.tmp p41)
 (.seq (.reg [
  ⟨some p6, .move, [(.const (.bool false))], none⟩])
 (.ret [.tmp p6]))
 .skip))
 (.seq (.drawn [
  ⟨0, ⟨some p42, .move, [(.tmp p0)], none⟩, .pure, []⟩,
  ⟨1, ⟨some p43, .move, [(.tmp p7)], none⟩, .pure, []⟩,
  ⟨2, ⟨some p44, .move, [(.tmp p0)], none⟩, .pure, []⟩,
  ⟨3, ⟨some p45, .move, [(.tmp p7)], none⟩, .pure, []⟩,
  ⟨4, ⟨some p46, (.bin .sub), [(.tmp p45), (.const (.int .i64 (.ofNat 1)))], none⟩, .pure, [3]⟩,
  ⟨5, ⟨some p47, .move, [(.tmp p0)], none⟩, .pure, []⟩,
  ⟨6, ⟨some p48, .move, [(.tmp p7)], none⟩, .pure, []⟩,
  ⟨7, ⟨some p49, (.bin .sub), [(.tmp p48), (.const (.int .i64 (.ofNat 1)))], none⟩, .pure, [6]⟩,
  ⟨8, ⟨some p50, (.idxSlice 1), [(.tmp p47), (.tmp p49)], none⟩, .pure, [5, 7]⟩,
  ⟨9, ⟨some p51, (.load false 1), [(.tmp p50)], none⟩, (.read 0 0), [8]⟩,
  ⟨10, ⟨some p52, .move, [(.tmp p0)], none⟩, .pure, []⟩,
  ⟨11, ⟨some p53, .move, [(.tmp p7)], none⟩, .pure, []⟩,
  ⟨12, ⟨some p54, (.idxSlice 1), [(.tmp p52), (.tmp p53)], none⟩, .pure, [10, 11]⟩,
  ⟨13, ⟨some p55, (.load false 1), [(.tmp p54)], none⟩, (.read 0 0), [12]⟩,
  ⟨14, ⟨some p56, (.idxSlice 1), [(.tmp p42), (.tmp p43)], none⟩, .pure, [0, 1, 0, 1, 5, 6, 7, 8, 9, 13]⟩,
  ⟨15, ⟨none, (.store 1), [(.tmp p56), (.tmp p51)], none⟩, .eff, [14, 9, 0, 1, 5, 6, 7, 8, 9, 13]⟩,
  ⟨16, ⟨some p57, (.idxSlice 1), [(.tmp p44), (.tmp p46)], none⟩, .pure, [2, 4, 0, 1, 2, 3, 4, 5, 6, 7, 8, 9, 10, 11, 12, 13, 14, 15]⟩,
  ⟨17, ⟨none, (.store 1), [(.tmp p57), (.tmp p55)], none⟩, .eff, [16, 13, 15, 0, 1, 2, 3, 4, 5, 6, 7, 8, 9, 10, 11, 12, 13, 14, 15]⟩])
 (.seq (.seq (.reg [
  ⟨some p58, .move, [(.tmp p7)], none⟩,
  ⟨some p59, .move, [(.tmp p1)], none⟩,
  ⟨some p60, (.bin .sub), [(.tmp p58), (.tmp p59)], none⟩,
  ⟨some p61, (.bin .geq), [(.tmp p60), (.const (.int .i64 (.ofNat 2)))], none⟩])
 (.cond (.tmp p61)
 (.seq (.reg [
  ⟨some p62, .move, [(.tmp p7)], none⟩,
  ⟨some p63, (.bin .sub), [(.tmp p62), (.const (.int .i64 (.ofNat 1)))], none⟩,
  ⟨some p9, .move, [(.tmp p63)], none⟩])
 (.block 4 [p0, p1, p2, p7, p8] (.loop [p0, p1, p2, p7, p8, p9] (.seq (.seq (.reg [
  ⟨some p64, .move, [(.tmp p9)], none⟩,
  ⟨some p65, (.bin .geq), [(.tmp p64), (.const (.int .i64 (.ofNat 1)))], none⟩])
 (.cond (.tmp p65)
 .skip
 (.exit 4 [p0, p1, p2, p7, p8])))
 (.seq (.block 5 [p0, p1, p2, p7, p8, p9] (.seq (.seq (.drawn [
  ⟨0, ⟨some p68, .move, [(.tmp p0)], none⟩, .pure, []⟩,
  ⟨1, ⟨some p69, .move, [(.tmp p9)], none⟩, .pure, []⟩,
  ⟨2, ⟨some p70, (.idxSlice 1), [(.tmp p68), (.tmp p69)], none⟩, .pure, [0, 1]⟩,
  ⟨3, ⟨some p71, (.load false 1), [(.tmp p70)], none⟩, (.read 0 0), [2]⟩,
  ⟨4, ⟨some p72, .move, [(.tmp p0)], none⟩, .pure, []⟩,
  ⟨5, ⟨some p73, .move, [(.tmp p9)], none⟩, .pure, []⟩,
  ⟨6, ⟨some p74, (.bin .sub), [(.tmp p73), (.const (.int .i64 (.ofNat 1)))], none⟩, .pure, [5]⟩,
  ⟨7, ⟨some p75, (.idxSlice 1), [(.tmp p72), (.tmp p74)], none⟩, .pure, [4, 6]⟩,
  ⟨8, ⟨some p76, (.load false 1), [(.tmp p75)], none⟩, (.read 0 0), [7]⟩,
  ⟨9, ⟨some p77, .call, [(.const (.fn 88 [] [])), (.tmp p71), (.tmp p76)], none⟩, .eff, [3, 8]⟩,
  ⟨10, ⟨some p78, .not, [(.tmp p77)], none⟩, .pure, [9]⟩])
 (.cond (.tmp p78)
 (.exit 4 [p0, p1, p2, p7, p8])
 .skip))
 (.drawn [
  ⟨0, ⟨some p79, .move, [(.tmp p0)], none⟩, .pure, []⟩,
  ⟨1, ⟨some p80, .move, [(.tmp p9)], none⟩, .pure, []⟩,
  ⟨2, ⟨some p81, .move, [(.tmp p0)], none⟩, .pure, []⟩,
  ⟨3, ⟨some p82, .move, [(.tmp p9)], none⟩, .pure, []⟩,
  ⟨4, ⟨some p83, (.bin .sub), [(.tmp p82), (.const (.int .i64 (.ofNat 1)))], none⟩, .pure, [3]⟩,
  ⟨5, ⟨some p84, .move, [(.tmp p0)], none⟩, .pure, []⟩,
  ⟨6, ⟨some p85, .move, [(.tmp p9)], none⟩, .pure, []⟩,
  ⟨7, ⟨some p86, (.bin .sub), [(.tmp p85), (.const (.int .i64 (.ofNat 1)))], none⟩, .pure, [6]⟩,
  ⟨8, ⟨some p87, (.idxSlice 1), [(.tmp p84), (.tmp p86)], none⟩, .pure, [5, 7]⟩,
  ⟨9, ⟨some p88, (.load false 1), [(.tmp p87)], none⟩, (.read 0 0), [8]⟩,
  ⟨10, ⟨some p89, .move, [(.tmp p0)], none⟩, .pure, []⟩,
  ⟨11, ⟨some p90, .move, [(.tmp p9)], none⟩, .pure, []⟩,
  ⟨12, ⟨some p91, (.idxSlice 1), [(.tmp p89), (.tmp p90)], none⟩, .pure, [10, 11]⟩,
  ⟨13, ⟨some p92, (.load false 1), [(.tmp p91)], none⟩, (.read 0 0), [12]⟩,
  ⟨14, ⟨some p93, (.idxSlice 1), [(.tmp p79), (.tmp p80)], none⟩, .pure, [0, 1, 0, 1, 5, 6, 7, 8, 9, 13]⟩,
  ⟨15, ⟨none, (.store 1), [(.tmp p93), (.tmp p88)], none⟩, .eff, [14, 9, 0, 1, 5, 6, 7, 8, 9, 13]⟩,
  ⟨16, ⟨some p94, (.idxSlice 1), [(.tmp p81), (.tmp p83)], none⟩, .pure, [2, 4, 0, 1, 2, 3, 4, 5, 6, 7, 8, 9, 10, 11, 12, 13, 14, 15]⟩,
  ⟨17, ⟨none, (.store 1), [(.tmp p94), (.tmp p92)], none⟩, .eff, [16, 13, 15, 0, 1, 2, 3, 4, 5, 6, 7, 8, 9, 10, 11, 12, 13, 14, 15]⟩])))
 (.reg [
  ⟨some p66, .move, [(.tmp p9)], none⟩,
  ⟨some p67, (.bin .sub), [(.tmp p66), (.const (.int .i64 (.ofNat 1)))], none⟩,
  ⟨some p9, .move, [(.tmp p67)], none⟩]))))))
 .skip))
 (.seq (.reg [
  ⟨some p95, .move, [(.tmp p2)], none⟩,
  ⟨some p96, .move, [(.tmp p7)], none⟩,
  ⟨some p97, (.bin .sub), [(.tmp p95), (.tmp p96)], none⟩,
  ⟨some p98, (.bin .geq), [(.tmp p97), (.const (.int .i64 (.ofNat 2)))], none⟩])
 (.cond (.tmp p98)
 (.seq (.reg [
  ⟨some p99, .move, [(.tmp p7)], none⟩,
  ⟨some p100, (.bin .add), [(.tmp p99), (.const (.int .i64 (.ofNat 1)))], none⟩,
  ⟨some p10, .move, [(.tmp p100)], none⟩])
 (.block 6 [p0, p1, p2, p7, p8] (.loop [p0, p1, p2, p7, p8, p10] (.seq (.seq (.reg [
  ⟨some p101, .move, [(.tmp p10)], none⟩,
  ⟨some p102, .move, [(.tmp p2)], none⟩,
  ⟨some p103, (.bin .lss), [(.tmp p101), (.tmp p102)], none⟩])
 (.cond (.tmp p103)
 .skip
 (.exit 6 [p0, p1, p2, p7, p8])))
 (.seq (.block 7 [p0, p1, p2, p7, p8, p10] (.seq (.seq (.drawn [
  ⟨0, ⟨some p106, .move, [(.tmp p0)], none⟩, .pure, []⟩,
  ⟨1, ⟨some p107, .move, [(.tmp p10)], none⟩, .pure, []⟩,
  ⟨2, ⟨some p108, (.idxSlice 1), [(.tmp p106), (.tmp p107)], none⟩, .pure, [0, 1]⟩,
  ⟨3, ⟨some p109, (.load false 1), [(.tmp p108)], none⟩, (.read 0 0), [2]⟩,
  ⟨4, ⟨some p110, .move, [(.tmp p0)], none⟩, .pure, []⟩,
  ⟨5, ⟨some p111, .move, [(.tmp p10)], none⟩, .pure, []⟩,
  ⟨6, ⟨some p112, (.bin .sub), [(.tmp p111), (.const (.int .i64 (.ofNat 1)))], none⟩, .pure, [5]⟩,
  ⟨7, ⟨some p113, (.idxSlice 1), [(.tmp p110), (.tmp p112)], none⟩, .pure, [4, 6]⟩,
  ⟨8, ⟨some p114, (.load false 1), [(.tmp p113)], none⟩, (.read 0 0), [7]⟩,
  ⟨9, ⟨some p115, .call, [(.const (.fn 88 [] [])), (.tmp p109), (.tmp p114)], none⟩, .eff, [3, 8]⟩,
  ⟨10, ⟨some p116, .not, [(.tmp p115)], none⟩, .pure, [9]⟩])
 (.cond (.tmp p116)
 (.exit 6 [p0, p1, p2, p7, p8])
 .skip))
 (.drawn [
  ⟨0, ⟨some p117, .move, [(.tmp p0)], none⟩, .pure, []⟩,
  ⟨1, ⟨some p118, .move, [(.tmp p10)], none⟩, .pure, []⟩,
  ⟨2, ⟨some p119, .move, [(.tmp p0)], none⟩, .pure, []⟩,
  ⟨3, ⟨some p120, .move, [(.tmp p10)], none⟩, .pure, []⟩,
  ⟨4, ⟨some p121, (.bin .sub), [(.tmp p120), (.const (.int .i64 (.ofNat 1)))], none⟩, .pure, [3]⟩,
  ⟨5, ⟨some p122, .move, [(.tmp p0)], none⟩, .pure, []⟩,
  ⟨6, ⟨some p123, .move, [(.tmp p10)], none⟩, .pure, []⟩,
  ⟨7, ⟨some p124, (.bin .sub), [(.tmp p123), (.const (.int .i64 (.ofNat 1)))], none⟩, .pure, [6]⟩,
  ⟨8, ⟨some p125, (.idxSlice 1), [(.tmp p122), (.tmp p124)], none⟩, .pure, [5, 7]⟩,
  ⟨9, ⟨some p126, (.load false 1), [(.tmp p125)], none⟩, (.read 0 0), [8]⟩,
  ⟨10, ⟨some p127, .move, [(.tmp p0)], none⟩, .pure, []⟩,
  ⟨11, ⟨some p128, .move, [(.tmp p10)], none⟩, .pure, []⟩,
  ⟨12, ⟨some p129, (.idxSlice 1), [(.tmp p127), (.tmp p128)], none⟩, .pure, [10, 11]⟩,
  ⟨13, ⟨some p130, (.load false 1), [(.tmp p129)], none⟩, (.read 0 0), [12]⟩,
  ⟨14, ⟨some p131, (.idxSlice 1), [(.tmp p117), (.tmp p118)], none⟩, .pure, [0, 1, 0, 1, 5, 6, 7, 8, 9, 13]⟩,
  ⟨15, ⟨none, (.store 1), [(.tmp p131), (.tmp p126)], none⟩, .eff, [14, 9, 0, 1, 5, 6, 7, 8, 9, 13]⟩,
  ⟨16, ⟨some p132, (.idxSlice 1), [(.tmp p119), (.tmp p121)], none⟩, .pure, [2, 4, 0, 1, 2, 3, 4, 5, 6, 7, 8, 9, 10, 11, 12, 13, 14, 15]⟩,
  ⟨17, ⟨none, (.store 1), [(.tmp p132), (.tmp p130)], none⟩, .eff, [16, 13, 15, 0, 1, 2, 3, 4, 5, 6, 7, 8, 9, 10, 11, 12, 13, 14, 15]⟩])))
 (.reg [
  ⟨some p104, .move, [(.tmp p10)], none⟩,
  ⟨some p105, (.bin .add), [(.tmp p104), (.const (.int .i64 (.ofNat 1)))], none⟩,
  ⟨some p10, .move, [(.tmp p105)], none⟩]))))))
 .skip))))))))
 (.reg [
  ⟨some p15, .move, [(.tmp p8)], none⟩,
  ⟨some p16, (.bin .add), [(.tmp p15), (.const (.int .i64 (.ofNat 1)))], none⟩,
  ⟨some p8, .move, [(.tmp p16)], none⟩]))))))
 (.seq (.reg [
  ⟨some p6, .move, [(.const (.bool false))], none⟩])
 (.ret [.tmp p6]))))),
 [.tmp p6]⟩
def F88 : IFn := ⟨2,
(.seq (.reg [
  ⟨some p4, .move, [(.const (.bool false))], none⟩])
 (.seq (.reg [
  ⟨some p5, .move, [(.tmp p0)], none⟩,
  ⟨some p6, .call, [(.const (.fn 103 [] [])), (.tmp p5)], none⟩,
  ⟨some p7, .move, [(.tmp p6)], none⟩,
  ⟨some p8, .move, [(.tmp p1)], some (p7, true)⟩,
  ⟨some p9, .call, [(.const (.fn 103 [] [])), (.tmp p8)], some (p7, true)⟩,
  ⟨some p10, .not, [(.tmp p9)], some (p7, true)⟩,
  ⟨some p11, .pick, [(.tmp p7), (.tmp p10), (.const (.bool false))], none⟩,
  ⟨some p12, .move, [(.tmp p11)], none⟩,
  ⟨some p13, .move, [(.tmp p0)], some (p12, false)⟩,
  ⟨some p14, .move, [(.tmp p1)], some (p12, false)⟩,
  ⟨some p15, (.bin .lss), [(.tmp p13), (.tmp p14)], some (p12, false)⟩,
  ⟨some p16, .pick, [(.tmp p12), (.const (.bool true)), (.tmp p15)], none⟩,
  ⟨some p4, .move, [(.tmp p16)], none⟩])
 (.ret [.tmp p4]))),
 [.tmp p4]⟩
def F89 : IFn := ⟨4,
(.seq (.reg [
  ⟨some p8, .move, [(.const (.int .i64 (.ofNat 0)))], none⟩])
 (.seq (.drawn [
  ⟨0, ⟨some p11, .move, [(.tmp p0)], none⟩, .pure, []⟩,
  ⟨1, ⟨some p12, .move, [(.tmp p1)], none⟩, .pure, []⟩,
  ⟨2, ⟨some p13, .move, [(.tmp p0)], none⟩, .pure, []⟩,
  ⟨3, ⟨some p14, .move, [(.tmp p3)], none⟩, .pure, []⟩,
  ⟨4, ⟨some p15, .move, [(.tmp p0)], none⟩, .pure, []⟩,
  ⟨5, ⟨some p16, .move, [(.tmp p3)], none⟩, .pure, []⟩,
  ⟨6, ⟨some p17, (.idxSlice 1), [(.tmp p15), (.tmp p16)], none⟩, .pure, [4, 5]⟩,
  ⟨7, ⟨some p18, (.load false 1), [(.tmp p17)], none⟩, (.read 0 0), [6]⟩,
  ⟨8, ⟨some p19, .move, [(.tmp p0)], none⟩, .pure, []⟩,
  ⟨9, ⟨some p20, .move, [(.tmp p1)], none⟩, .pure, []⟩,
  ⟨10, ⟨some p21, (.idxSlice 1), [(.tmp p19), (.tmp p20)], none⟩, .pure, [8, 9]⟩,
  ⟨11, ⟨some p22, (.load false 1), [(.tmp p21)], none⟩, (.read 0 0), [10]⟩,
  ⟨12, ⟨some p23, (.idxSlice 1), [(.tmp p11), (.tmp p12)], none⟩, .pure, [0, 1, 0, 1, 4, 5, 6, 7, 11]⟩,
  ⟨13, ⟨none, (.store 1), [(.tmp p23), (.tmp p18)], none⟩, .eff, [12, 7, 0, 1, 4, 5, 6, 7, 11]⟩,
  ⟨14, ⟨some p24, (.idxSlice 1), [(.tmp p13), (.tmp p14)], none⟩, .pure, [2, 3, 0, 1, 2, 3, 4, 5, 6, 7, 8, 9, 10, 11, 12, 13]⟩,
  ⟨15, ⟨none, (.store 1), [(.tmp p24), (.tmp p22)], none⟩, .eff, [14, 11, 13, 0, 1, 2, 3, 4, 5, 6, 7, 8, 9, 10, 11, 12, 13]⟩])
 (.seq (.reg [
  ⟨some p25, .move, [(.tmp p1)], none⟩,
  ⟨some p26, (.bin .add), [(.tmp p25), (.const (.int .i64 (.ofNat 1)))], none⟩,
  ⟨some p27, .move, [(.tmp p2)], none⟩,
  ⟨some p28, (.bin .sub), [(.tmp p27), (.const (.int .i64 (.ofNat 1)))], none⟩,
  ⟨some p9, .move, [(.tmp p26)], none⟩,
  ⟨some p10, .move, [(.tmp p28)], none⟩])
 (.seq (.block 0 [p9] (.loop [p0, p1, p9, p10] (.block 1 [p0, p1, p9, p10] (.seq (.block 2 [p0, p1, p9, p10] (.loop [p0, p1, p9, p10] (.seq (.seq (.drawn [
  ⟨0, ⟨some p29, .move, [(.tmp p9)], none⟩, .pure, []⟩,
  ⟨1, ⟨some p30, .move, [(.tmp p10)], none⟩, .pure, []⟩,
  ⟨2, ⟨some p31, (.bin .leq), [(.tmp p29), (.tmp p30)], none⟩, .pure, [0, 1]⟩,
  ⟨3, ⟨some p32, .move, [(.tmp p31)], none⟩, .pure, [2]⟩,
  ⟨4, ⟨some p33, .move, [(.tmp p0)], some (p32, true)⟩, .pure, [3]⟩,
  ⟨5, ⟨some p34, .move, [(.tmp p1)], some (p32, true)⟩, .pure, [3]⟩,
  ⟨6, ⟨some p35, (.idxSlice 1), [(.tmp p33), (.tmp p34)], some (p32, true)⟩, .pure, [4, 5, 3]⟩,
  ⟨7, ⟨some p36, (.load false 1), [(.tmp p35)], some (p32, true)⟩, (.read 0 0), [6, 3]⟩,
  ⟨8, ⟨some p37, .move, [(.tmp p0)], some (p32, true)⟩, .pure, [3]⟩,
  ⟨9, ⟨some p38, .move, [(.tmp p9)], some (p32, true)⟩, .pure, [3]⟩,
  ⟨10, ⟨some p39, (.idxSlice 1), [(.tmp p37), (.tmp p38)], some (p32, true)⟩, .pure, [8, 9, 3]⟩,
  ⟨11, ⟨some p40, (.load false 1), [(.tmp p39)], some (p32, true)⟩, (.read 0 0), [10, 3]⟩,
  ⟨12, ⟨some p41, .call, [(.const (.fn 88 [] [])), (.tmp p36), (.tmp p40)], some (p32, true)⟩, .eff, [7, 11, 3, 3]⟩,
  ⟨13, ⟨some p42, .not, [(.tmp p41)], some (p32, true)⟩, .pure, [12, 3]⟩,
  ⟨14, ⟨some p43, .pick, [(.tmp p32), (.tmp p42), (.const (.bool false))], none⟩, .pure, [3, 13]⟩])
 (.cond (.tmp p43)
 .skip
 (.exit 2 [p0, p1, p9, p10])))
 (.block 3 [p0, p1, p9, p10] (.reg [
  ⟨some p44, .move, [(.tmp p9)], none⟩,
  ⟨some p45, (.bin .add), [(.tmp p44), (.const (.int .i64 (.ofNat 1)))], none⟩,
  ⟨some p9, .move, [(.tmp p45)], none⟩])))))
 (.seq (.block 4 [p0, p1, p9, p10] (.loop [p0, p1, p9, p10] (.seq (.seq (.drawn [
  ⟨0, ⟨some p46, .move, [(.tmp p9)], none⟩, .pure, []⟩,
  ⟨1, ⟨some p47, .move, [(.tmp p10)], none⟩, .pure, []⟩,
  ⟨2, ⟨some p48, (.bin .leq), [(.tmp p46), (.tmp p47)], none⟩, .pure, [0, 1]⟩,
  ⟨3, ⟨some p49, .move, [(.tmp p48)], none⟩, .pure, [2]⟩,
  ⟨4, ⟨some p50, .move, [(.tmp p0)], some (p49, true)⟩, .pure, [3]⟩,
  ⟨5, ⟨some p51, .move, [(.tmp p1)], some (p49, true)⟩, .pure, [3]⟩,
  ⟨6, ⟨some p52, (.idxSlice 1), [(.tmp p50), (.tmp p51)], some (p49, true)⟩, .pure, [4, 5, 3]⟩,
  ⟨7, ⟨some p53, (.load false 1), [(.tmp p52)], some (p49, true)⟩, (.read 0 0), [6, 3]⟩,
  ⟨8, ⟨some p54, .move, [(.tmp p0)], some (p49, true)⟩, .pure, [3]⟩,
  ⟨9, ⟨some p55, .move, [(.tmp p10)], some (p49, true)⟩, .pure, [3]⟩,
  ⟨10, ⟨some p56, (.idxSlice 1), [(.tmp p54), (.tmp p55)], some (p49, true)⟩, .pure, [8, 9, 3]⟩,
  ⟨11, ⟨some p57, (.load false 1), [(.tmp p56)], some (p49, true)⟩, (.read 0 0), [10, 3]⟩,
  ⟨12, ⟨some p58, .call, [(.const (.fn 88 [] [])), (.tmp p53), (.tmp p57)], some (p49, true)⟩, .eff, [7, 11, 3, 3]⟩,
  ⟨13, ⟨some p59, .pick, [(.tmp p49), (.tmp p58), (.const (.bool false))], none⟩, .pure, [3, 12]⟩])
 (.cond (.tmp p59)
 .skip
 (.exit 4 [p0, p1, p9, p10])))
 (.block 5 [p0, p1, p9, p10] (.reg [
  ⟨some p60, .move, [(.tmp p10)], none⟩,
  ⟨some p61, (.bin .sub), [(.tmp p60), (.const (.int .i64 (.ofNat 1)))], none⟩,
  ⟨some p10, .move, [(.tmp p61)], none⟩])))))
 (.seq (.seq (.reg [
  ⟨some p62, .move, [(.tmp p9)], none⟩,
  ⟨some p63, .move, [(.tmp p10)], none⟩,
  ⟨some p64, (.bin .gtr), [(.tmp p62), (.tmp p63)], none⟩])
 (.cond (.tmp p64)
 (.exit 0 [p9])
 .skip))
 (.seq (.drawn [
  ⟨0, ⟨some p65, .move, [(.tmp p0)], none⟩, .pure, []⟩,
  ⟨1, ⟨some p66, .move, [(.tmp p9)], none⟩, .pure, []⟩,
  ⟨2, ⟨some p67, .move, [(.tmp p0)], none⟩, .pure, []⟩,
  ⟨3, ⟨some p68, .move, [(.tmp p10)], none⟩, .pure, []⟩,
  ⟨4, ⟨some p69, .move, [(.tmp p0)], none⟩, .pure, []⟩,
  ⟨5, ⟨some p70, .move, [(.tmp p10)], none⟩, .pure, []⟩,
  ⟨6, ⟨some p71, (.idxSlice 1), [(.tmp p69), (.tmp p70)], none⟩, .pure, [4, 5]⟩,
  ⟨7, ⟨some p72, (.load false 1), [(.tmp p71)], none⟩, (.read 0 0), [6]⟩,
  ⟨8, ⟨some p73, .move, [(.tmp p0)], none⟩, .pure, []⟩,
  ⟨9, ⟨some p74, .move, [(.tmp p9)], none⟩, .pure, []⟩,
  ⟨10, ⟨some p75, (.idxSlice 1), [(.tmp p73), (.tmp p74)], none⟩, .pure, [8, 9]⟩,
  ⟨11, ⟨some p76, (.load false 1), [(.tmp p75)], none⟩, (.read 0 0), [10]⟩,
  ⟨12, ⟨some p77, (.idxSlice 1), [(.tmp p65), (.tmp p66)], none⟩, .pure, [0, 1, 0, 1, 4, 5, 6, 7, 11]⟩,
  ⟨13, ⟨none, (.store 1), [(.tmp p77), (.tmp p72)], none⟩, .eff, [12, 7, 0, 1, 4, 5, 6, 7, 11]⟩,
  ⟨14, ⟨some p78, (.idxSlice 1), [(.tmp p67), (.tmp p68)], none⟩, .pure, [2, 3, 0, 1, 2, 3, 4, 5, 6, 7, 8, 9, 10, 11, 12, 13]⟩,
  ⟨15, ⟨none, (.store 1), [(.tmp p78), (.tmp p76)], none⟩, .eff, [14, 11, 13, 0, 1, 2, 3, 4, 5, 6, 7, 8, 9, 10, 11, 12, 13]⟩])
 (.seq (.reg [
  ⟨some p79, .move, [(.tmp p9)], none⟩,
  ⟨some p80, (.bin .add), [(.tmp p79), (.const (.int .i64 (.ofNat 1)))], none⟩,
  ⟨some p9, .move, [(.tmp p80)], none⟩])
 (.reg [
  ⟨some p81, .move, [(.tmp p10)], none⟩,
  ⟨some p82, (.bin .sub), [(.tmp p81), (.const (.int .i64 (.ofNat 1)))], none⟩,
  ⟨some p10, .move, [(.tmp p82)], none⟩])))))))))
 (.seq (.reg [
  ⟨some p83, .move, [(.tmp p9)], none⟩,
  ⟨some p8, .move, [(.tmp p83)], none⟩])
 (.ret [.tmp p8])))))),
 [.tmp p8]⟩
def F90 : IFn := ⟨4,
(.seq (.reg [
  ⟨some p8, .move, [(.const (.int .i64 (.ofNat 0)))], none⟩,
  ⟨some p9, .move, [(.const (.bool false))], none⟩])
 (.seq (.drawn [
  ⟨0, ⟨some p12, .move, [(.tmp p0)], none⟩, .pure, []⟩,
  ⟨1, ⟨some p13, .move, [(.tmp p1)], none⟩, .pure, []⟩,
  ⟨2, ⟨some p14, .move, [(.tmp p0)], none⟩, .pure, []⟩,
  ⟨3, ⟨some p15, .move, [(.tmp p3)], none⟩, .pure, []⟩,
  ⟨4, ⟨some p16, .move, [(.tmp p0)], none⟩, .pure, []⟩,
  ⟨5, ⟨some p17, .move, [(.tmp p3)], none⟩, .pure, []⟩,
  ⟨6, ⟨some p18, (.idxSlice 1), [(.tmp p16), (.tmp p17)], none⟩, .pure, [4, 5]⟩,
  ⟨7, ⟨some p19, (.load false 1), [(.tmp p18)], none⟩, (.read 0 0), [6]⟩,
  ⟨8, ⟨some p20, .move, [(.tmp p0)], none⟩, .pure, []⟩,
  ⟨9, ⟨some p21, .move, [(.tmp p1)], none⟩, .pure, []⟩,
  ⟨10, ⟨some p22, (.idxSlice 1), [(.tmp p20), (.tmp p21)], none⟩, .pure, [8, 9]⟩,
  ⟨11, ⟨some p23, (.load false 1), [(.tmp p22)], none⟩, (.read 0 0), [10]⟩,
  ⟨12, ⟨some p24, (.idxSlice 1), [(.tmp p12), (.tmp p13)], none⟩, .pure, [0, 1, 0, 1, 4, 5, 6, 7, 11]⟩,
  ⟨13, ⟨none, (.store 1), [(.tmp p24), (.tmp p19)], none⟩, .eff, [12, 7, 0, 1, 4, 5, 6, 7, 11]⟩,
  ⟨14, ⟨some p25, (.idxSlice 1), [(.tmp p14), (.tmp p15)], none⟩, .pure, [2, 3, 0, 1, 2, 3, 4, 5, 6, 7, 8, 9, 10, 11, 12, 13]⟩,
  ⟨15, ⟨none, (.store 1), [(.tmp p25), (.tmp p23)], none⟩, .eff, [14, 11, 13, 0, 1, 2, 3, 4, 5, 6, 7, 8, 9, 10, 11, 12, 13]⟩])
 (.seq (.reg [
  ⟨some p26, .move, [(.tmp p1)], none⟩,
  ⟨some p27, (.bin .add), [(.tmp p26), (.const (.int .i64 (.ofNat 1)))], none⟩,
  ⟨some p28, .move, [(.tmp p2)], none⟩,
  ⟨some p29, (.bin .sub), [(.tmp p28), (.const (.int .i64 (.ofNat 1)))], none⟩,
  ⟨some p10, .move, [(.tmp p27)], none⟩,
  ⟨some p11, .move, [(.tmp p29)], none⟩])
 (.seq (.block 0 [p0, p1, p10, p11] (.loop [p0, p1, p10, p11] (.seq (.seq (.drawn [
  ⟨0, ⟨some p30, .move, [(.tmp p10)], none⟩, .pure, []⟩,
  ⟨1, ⟨some p31, .move, [(.tmp p11)], none⟩, .pure, []⟩,
  ⟨2, ⟨some p32, (.bin .leq), [(.tmp p30), (.tmp p31)], none⟩, .pure, [0, 1]⟩,
  ⟨3, ⟨some p33, .move, [(.tmp p32)], none⟩, .pure, [2]⟩,
  ⟨4, ⟨some p34, .move, [(.tmp p0)], some (p33, true)⟩, .pure, [3]⟩,
  ⟨5, ⟨some p35, .move, [(.tmp p10)], some (p33, true)⟩, .pure, [3]⟩,
  ⟨6, ⟨some p36, (.idxSlice 1), [(.tmp p34), (.tmp p35)], some (p33, true)⟩, .pure, [4, 5, 3]⟩,
  ⟨7, ⟨some p37, (.load false 1), [(.tmp p36)], some (p33, true)⟩, (.read 0 0), [6, 3]⟩,
  ⟨8, ⟨some p38, .move, [(.tmp p0)], some (p33, true)⟩, .pure, [3]⟩,
  ⟨9, ⟨some p39, .move, [(.tmp p1)], some (p33, true)⟩, .pure, [3]⟩,
  ⟨10, ⟨some p40, (.idxSlice 1), [(.tmp p38), (.tmp p39)], some (p33, true)⟩, .pure, [8, 9, 3]⟩,
  ⟨11, ⟨some p41, (.load false 1), [(.tmp p40)], some (p33, true)⟩, (.read 0 0), [10, 3]⟩,
  ⟨12, ⟨some p42, .call, [(.const (.fn 88 [] [])), (.tmp p37), (.tmp p41)], some (p33, true)⟩, .eff, [7, 11, 3, 3]⟩,
  ⟨13, ⟨some p43, .pick, [(.tmp p33), (.tmp p42), (.const (.bool false))], none⟩, .pure, [3, 12]⟩])
 (.cond (.tmp p43)
 .skip
 (.exit 0 [p0, p1, p10, p11])))
 (.block 1 [p0, p1, p10, p11] (.reg [
  ⟨some p44, .move, [(.tmp p10)], none⟩,
  ⟨some p45, (.bin .add), [(.tmp p44), (.const (.int .i64 (.ofNat 1)))], none⟩,
  ⟨some p10, .move, [(.tmp p45)], none⟩])))))
 (.seq (.block 2 [p0, p1, p10, p11] (.loop [p0, p1, p10, p11] (.seq (.seq (.drawn [
  ⟨0, ⟨some p46, .move, [(.tmp p10)], none⟩, .pure, []⟩,
  ⟨1, ⟨some p47, .move, [(.tmp p11)], none⟩, .pure, []⟩,
  ⟨2, ⟨some p48, (.bin .leq), [(.tmp p46), (.tmp p47)], none⟩, .pure, [0, 1]⟩,
  ⟨3, ⟨some p49, .move, [(.tmp p48)], none⟩, .pure, [2]⟩,
  ⟨4, ⟨some p50, .move, [(.tmp p0)], some (p49, true)⟩, .pure, [3]⟩,
  ⟨5, ⟨some p51, .move, [(.tmp p11)], some (p49, true)⟩, .pure, [3]⟩,
  ⟨6, ⟨some p52, (.idxSlice 1), [(.tmp p50), (.tmp p51)], some (p49, true)⟩, .pure, [4, 5, 3]⟩,
  ⟨7, ⟨some p53, (.load false 1), [(.tmp p52)], some (p49, true)⟩, (.read 0 0), [6, 3]⟩,
  ⟨8, ⟨some p54, .move, [(.tmp p0)], some (p49, true)⟩, .pure, [3]⟩,
  ⟨9, ⟨some p55, .move, [(.tmp p1)], some (p49, true)⟩, .pure, [3]⟩,
  ⟨10, ⟨some p56, (.idxSlice 1), [(.tmp p54), (.tmp p55)], some (p49, true)⟩, .pure, [8, 9, 3]⟩,
  ⟨11, ⟨some p57, (.load false 1), [(.tmp p56)], some (p49, true)⟩, (.read 0 0), [10, 3]⟩,
  ⟨12, ⟨some p58, .call, [(.const (.fn 88 [] [])), (.tmp p53), (.tmp p57)], some (p49, true)⟩, .eff, [7, 11, 3, 3]⟩,
  ⟨13, ⟨some p59, .not, [(.tmp p58)], some (p49, true)⟩, .pure, [12, 3]⟩,
  ⟨14, ⟨some p60, .pick, [(.tmp p49), (.tmp p59), (.const (.bool false))], none⟩, .pure, [3, 13]⟩])
 (.cond (.tmp p60)
 .skip
 (.exit 2 [p0, p1, p10, p11])))
 (.block 3 [p0, p1, p10, p11] (.reg [
  ⟨some p61, .move, [(.tmp p11)], none⟩,
  ⟨some p62, (.bin .sub), [(.tmp p61), (.const (.int .i64 (.ofNat 1)))], none⟩,
  ⟨some p11, .move, [(.tmp p62)], none⟩])))))
 (.seq (.seq (.reg [
  ⟨some p63, .move, [(.tmp p10)], none⟩,
  ⟨some p64, .move, [(.tmp p11)], none⟩,
  ⟨some p65, (.bin .gtr), [(.tmp p63), (.tmp p64)], none⟩])
 (.cond (.tmp p65)
 (.seq (.drawn [
  ⟨0, ⟨some p66, .move, [(.tmp p0)], none⟩, .pure, []⟩,
  ⟨1, ⟨some p67, .move, [(.tmp p11)], none⟩, .pure, []⟩,
  ⟨2, ⟨some p68, .move, [(.tmp p0)], none⟩, .pure, []⟩,
  ⟨3, ⟨some p69, .move, [(.tmp p1)], none⟩, .pure, []⟩,
  ⟨4, ⟨some p70, .move, [(.tmp p0)], none⟩, .pure, []⟩,
  ⟨5, ⟨some p71, .move, [(.tmp p1)], none⟩, .pure, []⟩,
  ⟨6, ⟨some p72, (.idxSlice 1), [(.tmp p70), (.tmp p71)], none⟩, .pure, [4, 5]⟩,
  ⟨7, ⟨some p73, (.load false 1), [(.tmp p72)], none⟩, (.read 0 0), [6]⟩,
  ⟨8, ⟨some p74, .move, [(.tmp p0)], none⟩, .pure, []⟩,
  ⟨9, ⟨some p75, .move, [(.tmp p11)], none⟩, .pure, []⟩,
  ⟨10, ⟨some p76, (.idxSlice 1), [(.tmp p74), (.tmp p75)], none⟩, .pure, [8, 9]⟩,
  ⟨11, ⟨some p77, (.load false 1), [(.tmp p76)], none⟩, (.read 0 0), [10]⟩,
  ⟨12, ⟨some p78, (.idxSlice 1), [(.tmp p66), (.tmp p67)], none⟩, .pure, [0, 1, 0, 1, 4, 5, 6, 7, 11]⟩,
  ⟨13, ⟨none, (.store 1), [(.tmp p78), (.tmp p73)], none⟩, .eff, [12, 7, 0, 1, 4, 5, 6, 7, 11]⟩,
  ⟨14, ⟨some p79, (.idxSlice 1), [(.tmp p68), (.tmp p69)], none⟩, .pure, [2, 3, 0, 1, 2, 3, 4, 5, 6, 7, 8, 9, 10, 11, 12, 13]⟩,
  ⟨15, ⟨none, (.store 1), [(.tmp p79), (.tmp p77)], none⟩, .eff, [14, 11, 13, 0, 1, 2, 3, 4, 5, 6, 7, 8, 9, 10, 11, 12, 13]⟩])
 (.seq (.reg [
  ⟨some p80, .move, [(.tmp p11)], none⟩,
  ⟨some p8, .move, [(.tmp p80)], none⟩,
  ⟨some p9, .move, [(.const (.bool true))], none⟩])
 (.ret [.tmp p8, .tmp p9])))
 .skip))
 (.seq (.drawn [
  ⟨0, ⟨some p81, .move, [(.tmp p0)], none⟩, .pure, []⟩,
  ⟨1, ⟨some p82, .move, [(.tmp p10)], none⟩, .pure, []⟩,
  ⟨2, ⟨some p83, .move, [(.tmp p0)], none⟩, .pure, []⟩,
  ⟨3, ⟨some p84, .move, [(.tmp p11)], none⟩, .pure, []⟩,
  ⟨4, ⟨some p85, .move, [(.tmp p0)], none⟩, .pure, []⟩,
  ⟨5, ⟨some p86, .move, [(.tmp p11)], none⟩, .pure, []⟩,
  ⟨6, ⟨some p87, (.idxSlice 1), [(.tmp p85), (.tmp p86)], none⟩, .pure, [4, 5]⟩,
  ⟨7, ⟨some p88, (.load false 1), [(.tmp p87)], none⟩, (.read 0 0), [6]⟩,
  ⟨8, ⟨some p89, .move, [(.tmp p0)], none⟩, .pure, []⟩,
  ⟨9, ⟨some p90, .move, [(.tmp p10)], none⟩, .pure, []⟩,
  ⟨10, ⟨some p91, (.idxSlice 1), [(.tmp p89), (.tmp p90)], none⟩, .pure, [8, 9]⟩,
  ⟨11, ⟨some p92, (.load false 1), [(.tmp p91)], none⟩, (.read 0 0), [10]⟩,
  ⟨12, ⟨some p93, (.idxSlice 1), [(.tmp p81), (.tmp p82)], none⟩, .pure, [0, 1, 0, 1, 4, 5, 6, 7, 11]⟩,
  ⟨13, ⟨none, (.store 1), [(.tmp p93), (.tmp p88)], none⟩, .eff, [12, 7, 0, 1, 4, 5, 6, 7, 11]⟩,
  ⟨14, ⟨some p94, (.idxSlice 1), [(.tmp p83), (.tmp p84)], none⟩, .pure, [2, 3, 0, 1, 2, 3, 4, 5, 6, 7, 8, 9, 10, 11, 12, 13]⟩,
  ⟨15, ⟨none, (.store 1), [(.tmp p94), (.tmp p92)], none⟩, .eff, [14, 11, 13, 0, 1, 2, 3, 4, 5, 6, 7, 8, 9, 10, 11, 12, 13]⟩])
 (.seq (.reg [
  ⟨some p95, .move, [(.tmp p10)], none⟩,
  ⟨some p96, (.bin .add), [(.tmp p95), (.const (.int .i64 (.ofNat 1)))], none⟩,
  ⟨some p10, .move, [(.tmp p96)], none⟩])
 (.seq (.reg [
  ⟨some p97, .move, [(.tmp p11)], none⟩,
  ⟨some p98, (.bin .sub), [(.tmp p97), (.const (.int .i64 (.ofNat 1)))], none⟩,
  ⟨some p11, .move, [(.tmp p98)], none⟩])
 (.seq (.block 4 [p0, p1, p11] (.loop [p0, p1, p10, p11] (.block 5 [p0, p1, p10, p11] (.seq (.block 6 [p0, p1, p10, p11] (.loop [p0, p1, p10, p11] (.seq (.seq (.drawn [
  ⟨0, ⟨some p99, .move, [(.tmp p10)], none⟩, .pure, []⟩,
  ⟨1, ⟨some p100, .move, [(.tmp p11)], none⟩, .pure, []⟩,
  ⟨2, ⟨some p101, (.bin .leq), [(.tmp p99), (.tmp p100)], none⟩, .pure, [0, 1]⟩,
  ⟨3, ⟨some p102, .move, [(.tmp p101)], none⟩, .pure, [2]⟩,
  ⟨4, ⟨some p103, .move, [(.tmp p0)], some (p102, true)⟩, .pure, [3]⟩,
  ⟨5, ⟨some p104, .move, [(.tmp p10)], some (p102, true)⟩, .pure, [3]⟩,
  ⟨6, ⟨some p105, (.idxSlice 1), [(.tmp p103), (.tmp p104)], some (p102, true)⟩, .pure, [4, 5, 3]⟩,
  ⟨7, ⟨some p106, (.load false 1), [(.tmp p105)], some (p102, true)⟩, (.read 0 0), [6, 3]⟩,
  ⟨8, ⟨some p107, .move, [(.tmp p0)], some (p102, true)⟩, .pure, [3]⟩,
  ⟨9, ⟨some p108, .move, [(.tmp p1)], some (p102, true)⟩, .pure, [3]⟩,
  ⟨10, ⟨some p109, (.idxSlice 1), [(.tmp p107), (.tmp p108)], some (p102, true)⟩, .pure, [8, 9, 3]⟩,
  ⟨11, ⟨some p110, (.load false 1), [(.tmp p109)], some (p102, true)⟩, (.read 0 0), [10, 3]⟩,
  ⟨12, ⟨some p111, .call, [(.const (.fn 88 [] [])), (.tmp p106), (.tmp p110)], some (p102, true)⟩, .eff, [7, 11, 3, 3]⟩,
  ⟨13, ⟨some p112, .pick, [(.tmp p102), (.tmp p111), (.const (.bool false))], none⟩, .pure, [3, 12]⟩])
 (.cond (.tmp p112)
 .skip
 (.exit 6 [p0, p1, p10, p11])))
 (.block 7 [p0, p1, p10, p11] (.reg [
  ⟨some p113, .move, [(.tmp p10)], none⟩,
  ⟨some p114, (.bin .add), [(.tmp p113), (.const (.int .i64 (.ofNat 1)))], none⟩,
  ⟨some p10, .move, [(.tmp p114)], none⟩])))))
 (.seq (.block 8 [p0, p1, p10, p11] (.loop [p0, p1, p10, p11] (.seq (.seq (.drawn [
  ⟨0, ⟨some p115, .move, [(.tmp p10)], none⟩, .pure, []⟩,
  ⟨1, ⟨some p116, .move, [(.tmp p11)], none⟩, .pure, []⟩,
  ⟨2, ⟨some p117, (.bin .leq), [(.tmp p115), (.tmp p116)], none⟩, .pure, [0, 1]⟩,
  ⟨3, ⟨some p118, .move, [(.tmp p117)], none⟩, .pure, [2]⟩,
  ⟨4, ⟨some p119, .move, [(.tmp p0)], some (p118, true)⟩, .pure, [3]⟩,
  ⟨5, ⟨some p120, .move, [(.tmp p11)], some (p118, true)⟩, .pure, [3]⟩,
  ⟨6, ⟨some p121, (.idxSlice 1), [(.tmp p119), (.tmp p120)], some (p118, true)⟩, .pure, [4, 5, 3]⟩,
  ⟨7, ⟨some p122, (.load false 1), [(.tmp p121)], some (p118, true)⟩, (.read 0 0), [6, 3]⟩,
  ⟨8, ⟨some p123, .move, [(.tmp p0)], some (p118, true)⟩, .pure, [3]⟩,
  ⟨9, ⟨some p124, .move, [(.tmp p1)], some (p118, true)⟩, .pure, [3]⟩,
  ⟨10, ⟨some p125, (.idxSlice 1), [(.tmp p123), (.tmp p124)], some (p118, true)⟩, .pure, [8, 9, 3]⟩,
  ⟨11, ⟨some p126, (.load false 1), [(.tmp p125)], some (p118, true)⟩, (.read 0 0), [10, 3]⟩,
  ⟨12, ⟨some p127, .call, [(.const (.fn 88 [] [])), (.tmp p122), (.tmp p126)], some (p118, true)⟩, .eff, [7, 11, 3, 3]⟩,
  ⟨13, ⟨some p128, .not, [(.tmp p127)], some (p118, true)⟩, .pure, [12, 3]⟩,
  ⟨14, ⟨some p129, .pick, [(.tmp p118), (.tmp p128), (.const (.bool false))], none⟩, .pure, [3, 13]⟩])
 (.cond (.tmp p129)
 .skip
 (.exit 8 [p0, p1, p10, p11])))
 (.block 9 [p0, p1, p10, p11] (.reg [
  ⟨some p130, .move, [(.tmp p11)], none⟩,
  ⟨some p131, (.bin .sub), [(.tmp p130), (.const (.int .i64 (.ofNat 1)))], none⟩,
  ⟨some p11, .move, [(.tmp p131)], none⟩])))))
 (.seq (.seq (.reg [
  ⟨some p132, .move, [(.tmp p10)], none⟩,
  ⟨some p133, .move, [(.tmp p11)], none⟩,
  ⟨some p134, (.bin .gtr), [(.tmp p132), (.tmp p133)], none⟩])
 (.cond (.tmp p134)
 (.exit 4 [p0, p1, p11])
 .skip))
 (.seq (.drawn [
  ⟨0, ⟨some p135, .move, [(.tmp p0)], none⟩, .pure, []⟩,
  ⟨1, ⟨some p136, .move, [(.tmp p10)], none⟩, .pure, []⟩,
  ⟨2, ⟨some p137, .move, [(.tmp p0)], none⟩, .pure, []⟩,
  ⟨3, ⟨some p138, .move, [(.tmp p11)], none⟩, .pure, []⟩,
  ⟨4, ⟨some p139, .move, [(.tmp p0)], none⟩, .pure, []⟩,
  ⟨5, ⟨some p140, .move, [(.tmp p11)], none⟩, .pure, []⟩,
  ⟨6, ⟨some p141, (.idxSlice 1), [(.tmp p139), (.tmp p140)], none⟩, .pure, [4, 5]⟩,
  ⟨7, ⟨some p142, (.load false 1), [(.tmp p141)], none⟩, (.read 0 0), [6]⟩,
  ⟨8, ⟨some p143, .move, [(.tmp p0)], none⟩, .pure, []⟩,
  ⟨9, ⟨some p144, .move, [(.tmp p10)], none⟩, .pure, []⟩,
  ⟨10, ⟨some p145, (.idxSlice 1), [(.tmp p143), (.tmp p144)], none⟩, .pure, [8, 9]⟩,
  ⟨11, ⟨some p146, (.load false 1), [(.tmp p145)], none⟩, (.read 0 0), [10]⟩,
  ⟨12, ⟨some p147, (.idxSlice 1), [(.tmp p135), (.tmp p136)], none⟩, .pure, [0, 1, 0, 1, 4, 5, 6, 7, 11]⟩,
  ⟨13, ⟨none, (.store 1), [(.tmp p147), (.tmp p142)], none⟩, .eff, [12, 7, 0, 1, 4, 5, 6, 7, 11]⟩,
  ⟨14, ⟨some p148, (.idxSlice 1), [(.tmp p137), (.tmp p138)], none⟩, .pure, [2, 3, 0, 1, 2, 3, 4, 5, 6, 7, 8, 9, 10, 11, 12, 13]⟩,
  ⟨15, ⟨none, (.store 1), [(.tmp p148), (.tmp p146)], none⟩, .eff, [14, 11, 13, 0, 1, 2, 3, 4, 5, 6, 7, 8, 9, 10, 11, 12, 13]⟩])
 (.seq (.reg [
  ⟨some p149, .move, [(.tmp p10)], none⟩,
  ⟨some p150, (.bin .add), [(.tmp p149), (.const (.int .i64 (.ofNat 1)))], none⟩,
  ⟨some p10, .move, [(.tmp p150)], none⟩])
 (.reg [
  ⟨some p151, .move, [(.tmp p11)], none⟩,
  ⟨some p152, (.bin .sub), [(.tmp p151), (.const (.int .i64 (.ofNat 1)))], none⟩,
  ⟨some p11, .move, [(.tmp p152)], none⟩])))))))))
 (.seq (.drawn [
  ⟨0, ⟨some p153, .move, [(.tmp p0)], none⟩, .pure, []⟩,
  ⟨1, ⟨some p154, .move, [(.tmp p11)], none⟩, .pure, []⟩,
  ⟨2, ⟨some p155, .move, [(.tmp p0)], none⟩, .pure, []⟩,
  ⟨3, ⟨some p156, .move, [(.tmp p1)], none⟩, .pure, []⟩,
  ⟨4, ⟨some p157, .move, [(.tmp p0)], none⟩, .pure, []⟩,
  ⟨5, ⟨some p158, .move, [(.tmp p1)], none⟩, .pure, []⟩,
  ⟨6, ⟨some p159, (.idxSlice 1), [(.tmp p157), (.tmp p158)], none⟩, .pure, [4, 5]⟩,
  ⟨7, ⟨some p160, (.load false 1), [(.tmp p159)], none⟩, (.read 0 0), [6]⟩,
  ⟨8, ⟨some p161, .move, [(.tmp p0)], none⟩, .pure, []⟩,
  ⟨9, ⟨some p162, .move, [(.tmp p11)], none⟩, .pure, []⟩,
  ⟨10, ⟨some p163, (.idxSlice 1), [(.tmp p161), (.tmp p162)], none⟩, .pure, [8, 9]⟩,
  ⟨11, ⟨some p164, (.load false 1), [(.tmp p163)], none⟩, (.read 0 0), [10]⟩,
  ⟨12, ⟨some p165, (.idxSlice 1), [(.tmp p153), (.tmp p154)], none⟩, .pure, [0, 1, 0, 1, 4, 5, 6, 7, 11]⟩,
  ⟨13, ⟨none, (.store 1), [(.tmp p165), (.tmp p160)], none⟩, .eff, [12, 7, 0, 1, 4, 5, 6, 7, 11]⟩,
  ⟨14, ⟨some p166, (.idxSlice 1), [(.tmp p155), (.tmp p156)], none⟩, .pure, [2, 3, 0, 1, 2, 3, 4, 5, 6, 7, 8, 9, 10, 11, 12, 13]⟩,
  ⟨15, ⟨none, (.store 1), [(.tmp p166), (.tmp p164)], none⟩, .eff, [14, 11, 13, 0, 1, 2, 3, 4, 5, 6, 7, 8, 9, 10, 11, 12, 13]⟩])
 (.seq (.reg [
  ⟨some p167, .move, [(.tmp p11)], none⟩,
  ⟨some p8, .move, [(.tmp p167)], none⟩,
  ⟨some p9, .move, [(.const (.bool false))], none⟩])
 (.ret [.tmp p8, .tmp p9]))))))))))))),
 [.tmp p8, .tmp p9]⟩
def F91 : IFn := ⟨1,
(.seq (.reg [
  ⟨some p2, .move, [(.const (.int .i64 (.ofNat 0)))], none⟩])
 (.seq (.seq (.reg [
  ⟨some p3, .move, [(.tmp p0)], none⟩,
  ⟨some p4, (.bin .geq), [(.tmp p3), (.const (.int .u32 (.ofNat 65536)))], none⟩])
 (.cond (.tmp p4)
 (.seq (.reg [
  ⟨some p5, .move, [(.tmp p0)], none⟩,
  ⟨some p6, (.bin .shr), [(.tmp p5), (.const (.int .u64 (.ofNat 16)))], none⟩,
  ⟨some p0, .move, [(.tmp p6)], none⟩])
 (.reg [
  ⟨some p2, .move, [(.const (.int .i64 (.ofNat 16)))], none⟩]))
 .skip))
 (.seq (.seq (.reg [
  ⟨some p7, .move, [(.tmp p0)], none⟩,
  ⟨some p8, (.bin .geq), [(.tmp p7), (.const (.int .u32 (.ofNat 256)))], none⟩])
 (.cond (.tmp p8)
 (.seq (.reg [
  ⟨some p9, .move, [(.tmp p0)], none⟩,
  ⟨some p10, (.bin .shr), [(.tmp p9), (.const (.int .u64 (.ofNat 8)))], none⟩,
  ⟨some p0, .move, [(.tmp p10)], none⟩])
 (.reg [
  ⟨some p11, .move, [(.tmp p2)], none⟩,
  ⟨some p12, (.bin .add), [(.tmp p11), (.const (.int .i64 (.ofNat 8)))], none⟩,
  ⟨some p2, .move, [(.tmp p12)], none⟩]))
 .skip))
 (.seq (.reg [
  ⟨some p13, .move, [(.tmp p2)], none⟩,
  ⟨some p14, .move, [(.tmp p0)], none⟩,
  ⟨some p15, (.convInt .u8), [(.tmp p14)], none⟩,
  ⟨some p16, .idxStr, [(.const (.str [0, 1, 2, 2, 3, 3, 3, 3, 4, 4, 4, 4, 4, 4, 4, 4, 5, 5, 5, 5, 5, 5, 5, 5, 5, 5, 5, 5, 5, 5, 5, 5, 6, 6, 6, 6, 6, 6, 6, 6, 6, 6, 6, 6, 6, 6, 6, 6, 6, 6, 6, 6, 6, 6, 6, 6, 6, 6, 6, 6, 6, 6, 6, 6, 7, 7, 7, 7, 7, 7, 7, 7, 7, 7, 7, 7, 7, 7, 7, 7, 7, 7, 7, 7, 7, 7, 7, 7, 7, 7, 7, 7, 7, 7, 7, 7, 7, 7, 7, 7, 7, 7, 7, 7, 7, 7, 7, 7, 7, 7, 7, 7, 7, 7, 7, 7, 7, 7, 7, 7, 7, 7, 7, 7, 7, 7, 7, 7, 8, 8, 8, 8, 8, 8, 8, 8, 8, 8, 8, 8, 8, 8, 8, 8, 8, 8, 8, 8, 8, 8, 8, 8, 8, 8, 8, 8, 8, 8, 8, 8, 8, 8, 8, 8, 8, 8, 8, 8, 8, 8, 8, 8, 8, 8, 8, 8, 8, 8, 8, 8, 8, 8, 8, 8, 8, 8, 8, 8, 8, 8, 8, 8, 8, 8, 8, 8, 8, 8, 8, 8, 8, 8, 8, 8, 8, 8, 8, 8, 8, 8, 8, 8, 8, 8, 8, 8, 8, 8, 8, 8, 8, 8, 8, 8, 8, 8, 8, 8, 8, 8, 8, 8, 8, 8, 8, 8, 8, 8, 8, 8, 8, 8, 8, 8, 8, 8, 8, 8, 8, 8, 8, 8, 8, 8, 8, 8])), (.tmp p15)], none⟩,
  ⟨some p17, (.convInt .i64), [(.tmp p16)], none⟩,
  ⟨some p18, (.bin .add), [(.tmp p13), (.tmp p17)], none⟩,
  ⟨some p2, .move, [(.tmp p18)], none⟩])
 (.ret [.tmp p2]))))),
 [.tmp p2]⟩
def F92 : IFn := ⟨1,
(.seq (.reg [
  ⟨some p2, .move, [(.const (.int .i64 (.ofNat 0)))], none⟩])
 (.seq (.seq (.reg [
  ⟨some p3, .move, [(.tmp p0)], none⟩,
  ⟨some p4, (.bin .geq), [(.tmp p3), (.const (.int .u64 (.ofNat 4294967296)))], none⟩])
 (.cond (.tmp p4)
 (.seq (.reg [
  ⟨some p5, .move, [(.tmp p0)], none⟩,
  ⟨some p6, (.bin .shr), [(.tmp p5), (.const (.int .u64 (.ofNat 32)))], none⟩,
  ⟨some p0, .move, [(.tmp p6)], none⟩])
 (.reg [
  ⟨some p2, .move, [(.const (.int .i64 (.ofNat 32)))], none⟩]))
 .skip))
 (.seq (.seq (.reg [
  ⟨some p7, .move, [(.tmp p0)], none⟩,
  ⟨some p8, (.bin .geq), [(.tmp p7), (.const (.int .u64 (.ofNat 65536)))], none⟩])
 (.cond (.tmp p8)
 (.seq (.reg [
  ⟨some p9, .move, [(.tmp p0)], none⟩,
  ⟨some p10, (.bin .shr), [(.tmp p9), (.const (.int .u64 (.ofNat 16)))], none⟩,
  ⟨some p0, .move, [(.tmp p10)], none⟩])
 (.reg [
  ⟨some p11, .move, [(.tmp p2)], none⟩,
  ⟨some p12, (.bin .add), [(.tmp p11), (.const (.int .i64 (.ofNat 16)))], none⟩,
  ⟨some p2, .move, [(.tmp p12)], none⟩]))
 .skip))
 (.seq (.seq (.reg [
  ⟨some p13, .move, [(.tmp p0)], none⟩,
  ⟨some p14, (.bin .geq), [(.tmp p13), (.const (.int .u64 (.ofNat 256)))], none⟩])
 (.cond (.tmp p14)
 (.seq (.reg [
  ⟨some p15, .move, [(.tmp p0)], none⟩,
  ⟨some p16, (.bin .shr), [(.tmp p15), (.const (.int .u64 (.ofNat 8)))], none⟩,
  ⟨some p0, .move, [(.tmp p16)], none⟩])
 (.reg [
  ⟨some p17, .move, [(.tmp p2)], none⟩,
  ⟨some p18, (.bin .add), [(.tmp p17), (.const (.int .i64 (.ofNat 8)))], none⟩,
  ⟨some p2, .move, [(.tmp p18)], none⟩]))
 .skip))
 (.seq (.reg [
  ⟨some p19, .move, [(.tmp p2)], none⟩,
  ⟨some p20, .move, [(.tmp p0)], none⟩,
  ⟨some p21, (.convInt .u8), [(.tmp p20)], none⟩,
  ⟨some p22, .idxStr, [(.const (.str [0, 1, 2, 2, 3, 3, 3, 3, 4, 4, 4, 4, 4, 4, 4, 4, 5, 5, 5, 5, 5, 5, 5, 5, 5, 5, 5, 5, 5, 5, 5, 5, 6, 6, 6, 6, 6, 6, 6, 6, 6, 6, 6, 6, 6, 6, 6, 6, 6, 6, 6, 6, 6, 6, 6, 6, 6, 6, 6, 6, 6, 6, 6, 6, 7, 7, 7, 7, 7, 7, 7, 7, 7, 7, 7, 7, 7, 7, 7, 7, 7, 7, 7, 7, 7, 7, 7, 7, 7, 7, 7, 7, 7, 7, 7, 7, 7, 7, 7, 7, 7, 7, 7, 7, 7, 7, 7, 7, 7, 7, 7, 7, 7, 7, 7, 7, 7, 7, 7, 7, 7, 7, 7, 7, 7, 7, 7, 7, 8, 8, 8, 8, 8, 8, 8, 8, 8, 8, 8, 8, 8, 8, 8, 8, 8, 8, 8, 8, 8, 8, 8, 8, 8, 8, 8, 8, 8, 8, 8, 8, 8, 8, 8, 8, 8, 8, 8, 8, 8, 8, 8, 8, 8, 8, 8, 8, 8, 8, 8, 8, 8, 8, 8, 8, 8, 8, 8, 8, 8, 8, 8, 8, 8, 8, 8, 8, 8, 8, 8, 8, 8, 8, 8, 8, 8, 8, 8, 8, 8, 8, 8, 8, 8, 8, 8, 8, 8, 8, 8, 8, 8, 8, 8, 8, 8, 8, 8, 8, 8, 8, 8, 8, 8, 8, 8, 8, 8, 8, 8, 8, 8, 8, 8, 8, 8, 8, 8, 8, 8, 8, 8, 8, 8, 8, 8, 8])), (.tmp p21)], none⟩,
  ⟨some p23, (.convInt .i64), [(.tmp p22)], none⟩,
  ⟨some p24, (.bin .add), [(.tmp p19), (.tmp p23)], none⟩,
  ⟨some p2, .move, [(.tmp p24)], none⟩])
 (.ret [.tmp p2])))))),
 [.tmp p2]⟩
def F93 : IFn := ⟨2,
(.seq (.reg [
  ⟨some p4, .move, [(.const (.int .i64 (.ofNat 0)))], none⟩])
 (.seq (.reg [
  ⟨some p5, .move, [(.tmp p0)], none⟩,
  ⟨some p6, .move, [(.tmp p1)], none⟩,
  ⟨some p7, .call, [(.const (.fn 104 [] [])), (.tmp p5), (.tmp p6)], none⟩,
  ⟨some p4, .move, [(.tmp p7)], none⟩])
 (.ret [.tmp p4]))),
 [.tmp p4]⟩
def F95 : IFn := ⟨1,
(.seq (.reg [
  ⟨some p2, .move, [(.const .snil)], none⟩])
 (.seq (.seq (.reg [
  ⟨some p8, .move, [(.tmp p0)], none⟩])
 (.block 0 [] (.seq (.reg [
  ⟨some p9, (.assertT 125 .pnil true), [(.tmp p8)], none⟩,
  ⟨some p10, (.extract 1), [(.tmp p9)], none⟩,
  ⟨some p11, (.extract 0), [(.tmp p9)], none⟩])
 (.cond (.tmp p10)
 (.seq (.reg [
  ⟨some p3, .move, [(.tmp p11)], none⟩])
 (.seq (.reg [
  ⟨some p12, .move, [(.tmp p3)], none⟩,
  ⟨some p13, (.buildSlice 125 1 [.pnil] 1 [(0, 1)]), [(.tmp p12)], none⟩,
  ⟨some p2, .move, [(.tmp p13)], none⟩])
 (.ret [.tmp p2])))
 (.seq (.reg [
  ⟨some p14, (.assertT 131 .pnil true), [(.tmp p8)], none⟩,
  ⟨some p15, (.extract 1), [(.tmp p14)], none⟩,
  ⟨some p16, (.extract 0), [(.tmp p14)], none⟩])
 (.cond (.tmp p15)
 (.seq (.reg [
  ⟨some p4, .move, [(.tmp p16)], none⟩])
 (.seq (.reg [
  ⟨some p5, .move, [(.const .snil)], none⟩])
 (.seq (.seq (.reg [
  ⟨some p17, .move, [(.tmp p4)], none⟩,
  ⟨some p18, .nilCheck, [(.tmp p17)], none⟩,
  ⟨some p19, (.fieldAddr 5), [(.tmp p18)], none⟩,
  ⟨some p20, (.load false 1), [(.tmp p19)], none⟩,
  ⟨some p21, .lenL, [(.tmp p20)], none⟩,
  ⟨some p22, .move, [(.const (.int .i64 (.ofNat 0)))], none⟩])
 (.block 1 [p5] (.loop [p5, p20, p21, p22] (.seq (.reg [
  ⟨some p23, (.bin .lss), [(.tmp p22), (.tmp p21)], none⟩])
 (.seq (.cond (.tmp p23)
 .skip
 (.exit 1 [p5]))
 (.seq (.block 2 [p5, p20, p21, p22] (.seq (.reg [
  ⟨some p24, (.idxSlice 1), [(.tmp p20), (.tmp p22)], none⟩,
  ⟨some p25, (.load false 1), [(.tmp p24)], none⟩,
  ⟨some p7, .move, [(.tmp p25)], none⟩])
 (.reg [
  ⟨some p26, .move, [(.tmp p5)], none⟩,
  ⟨some p27, .move, [(.tmp p7)], none⟩,
  ⟨some p28, .call, [(.const (.fn 95 [] [])), (.tmp p27)], none⟩,
  ⟨some p29, (.append 125 1), [(.tmp p26), (.tmp p28)], none⟩,
  ⟨some p5, .move, [(.tmp p29)], none⟩])))
 (.reg [
  ⟨some p30, (.bin .add), [(.tmp p22), (.const (.int .i64 (.ofNat 1)))], none⟩,
  ⟨some p22, .move, [(.tmp p30)], none⟩])))))))
 (.seq (.reg [
  ⟨some p31, .move, [(.tmp p5)], none⟩,
  ⟨some p2, .move, [(.tmp p31)], none⟩])
 (.ret [.tmp p2])))))
 .skip))))))
 (.seq (.reg [
  ⟨some p2, .move, [(.const .snil)], none⟩])
 (.ret [.tmp p2])))),
 [.tmp p2]⟩
def F96 : IFn := ⟨2,
(.seq (.reg [
  ⟨some p4, .move, [(.const (.int .i64 (.ofNat 0)))], none⟩])
 (.seq (.seq (.reg [
  ⟨some p6, .move, [(.tmp p0)], none⟩,
  ⟨some p7, .lenL, [(.tmp p6)], none⟩,
  ⟨some p8, .move, [(.const (.int .i64 (.ofNat 0)))], none⟩])
 (.block 0 [] (.loop [p0, p1, p7, p8] (.seq (.reg [
  ⟨some p9, (.bin .lss), [(.tmp p8), (.tmp p7)], none⟩])
 (.seq (.cond (.tmp p9)
 .skip
 (.exit 0 []))
 (.seq (.block 1 [p0, p1, p7, p8] (.seq (.reg [
  ⟨some p10, .move, [(.tmp p8)], none⟩,
  ⟨some p5, .move, [(.tmp p10)], none⟩])
 (.seq (.reg [
  ⟨some p11, .move, [(.tmp p1)], none⟩,
  ⟨some p12, .move, [(.tmp p0)], none⟩,
  ⟨some p13, .move, [(.tmp p5)], none⟩,
  ⟨some p14, (.idxSlice 1), [(.tmp p12), (.tmp p13)], none⟩,
  ⟨some p15, (.load false 1), [(.tmp p14)], none⟩,
  ⟨some p16, (.eql (.base .int) false), [(.tmp p11), (.tmp p15)], none⟩])
 (.cond (.tmp p16)
 (.seq (.reg [
  ⟨some p17, .move, [(.tmp p5)], none⟩,
  ⟨some p4, .move, [(.tmp p17)], none⟩])
 (.ret [.tmp p4]))
 .skip))))
 (.reg [
  ⟨some p18, (.bin .add), [(.tmp p8), (.const (.int .i64 (.ofNat 1)))], none⟩,
  ⟨some p8, .move, [(.tmp p18)], none⟩])))))))
 (.seq (.reg [
  ⟨some p4, .move, [(.const (.int .i64 (.negSucc 0)))], none⟩])
 (.ret [.tmp p4])))),
 [.tmp p4]⟩
def F98 : IFn := ⟨4,
(.seq (.reg [
  ⟨some p10, .move, [(.tmp p1)], none⟩,
  ⟨some p8, .move, [(.tmp p10)], none⟩])
 (.block 0 [] (.loop [p0, p2, p3, p8] (.block 1 [p0, p2, p3, p8] (.seq (.reg [
  ⟨some p11, .move, [(.tmp p8)], none⟩,
  ⟨some p12, (.bin .mul), [(.const (.int .i64 (.ofNat 2))), (.tmp p11)], none⟩,
  ⟨some p13, (.bin .add), [(.tmp p12), (.const (.int .i64 (.ofNat 1)))], none⟩,
  ⟨some p9, .move, [(.tmp p13)], none⟩])
 (.seq (.seq (.reg [
  ⟨some p14, .move, [(.tmp p9)], none⟩,
  ⟨some p15, .move, [(.tmp p2)], none⟩,
  ⟨some p16, (.bin .geq), [(.tmp p14), (.tmp p15)], none⟩])
 (.cond (.tmp p16)
 (.exit 0 [])
 .skip))
 (.seq (.seq (.drawn [
  ⟨0, ⟨some p17, .move, [(.tmp p9)], none⟩, .pure, []⟩,
  ⟨1, ⟨some p18, (.bin .add), [(.tmp p17), (.const (.int .i64 (.ofNat 1)))], none⟩, .pure, [0]⟩,
  ⟨2, ⟨some p19, .move, [(.tmp p2)], none⟩, .pure, []⟩,
  ⟨3, ⟨some p20, (.bin .lss), [(.tmp p18), (.tmp p19)], none⟩, .pure, [1, 2]⟩,
  ⟨4, ⟨some p21, .move, [(.tmp p20)], none⟩, .pure, [3]⟩,
  ⟨5, ⟨some p22, .move, [(.tmp p0)], some (p21, true)⟩, .pure, [4]⟩,
  ⟨6, ⟨some p23, .move, [(.tmp p3)], some (p21, true)⟩, .pure, [4]⟩,
  ⟨7, ⟨some p24, .move, [(.tmp p9)], some (p21, true)⟩, .pure, [4]⟩,
  ⟨8, ⟨some p25, (.bin .add), [(.tmp p23), (.tmp p24)], some (p21, true)⟩, .pure, [6, 7, 4]⟩,
  ⟨9, ⟨some p26, (.idxSlice 1), [(.tmp p22), (.tmp p25)], some (p21, true)⟩, .pure, [5, 8, 4]⟩,
  ⟨10, ⟨some p27, (.load false 1), [(.tmp p26)], some (p21, true)⟩, (.read 0 0), [9, 4]⟩,
  ⟨11, ⟨some p28, .move, [(.tmp p0)], some (p21, true)⟩, .pure, [4]⟩,
  ⟨12, ⟨some p29, .move, [(.tmp p3)], some (p21, true)⟩, .pure, [4]⟩,
  ⟨13, ⟨some p30, .move, [(.tmp p9)], some (p21, true)⟩, .pure, [4]⟩,
  ⟨14, ⟨some p31, (.bin .add), [(.tmp p29), (.tmp p30)], some (p21, true)⟩, .pure, [12, 13, 4]⟩,
  ⟨15, ⟨some p32, (.bin .add), [(.tmp p31), (.const (.int .i64 (.ofNat 1)))], some (p21, true)⟩, .pure, [14, 4]⟩,
  ⟨16, ⟨some p33, (.idxSlice 1), [(.tmp p28), (.tmp p32)], some (p21, true)⟩, .pure, [11, 15, 4]⟩,
  ⟨17, ⟨some p34, (.load false 1), [(.tmp p33)], some (p21, true)⟩, (.read 0 0), [16, 4]⟩,
  ⟨18, ⟨some p35, .call, [(.const (.fn 88 [] [])), (.tmp p27), (.tmp p34)], some (p21, true)⟩, .eff, [10, 17, 4, 4]⟩,
  ⟨19, ⟨some p36, .pick, [(.tmp p21), (.tmp p35), (.const (.bool false))], none⟩, .pure, [4, 18]⟩])
 (.cond (.tmp p36)
 (.reg [
  ⟨some p37, .move, [(.tmp p9)], none⟩,
  ⟨some p38, (.bin .add), [(.tmp p37), (.const (.int .i64 (.ofNat 1)))], none⟩,
  ⟨some p9, .move, [(.tmp p38)], none⟩])
 .skip))
 (.seq (.seq (.drawn [
  ⟨0, ⟨some p39, .move, [(.tmp p0)], none⟩, .pure, []⟩,
  ⟨1, ⟨some p40, .move, [(.tmp p3)], none⟩, .pure, []⟩,
  ⟨2, ⟨some p41, .move, [(.tmp p8)], none⟩, .pure, []⟩,
  ⟨3, ⟨some p42, (.bin .add), [(.tmp p40), (.tmp p41)], none⟩, .pure, [1, 2]⟩,
  ⟨4, ⟨some p43, (.idxSlice 1), [(.tmp p39), (.tmp p42)], none⟩, .pure, [0, 3]⟩,
  ⟨5, ⟨some p44, (.load false 1), [(.tmp p43)], none⟩, (.read 0 0), [4]⟩,
  ⟨6, ⟨some p45, .move, [(.tmp p0)], none⟩, .pure, []⟩,
  ⟨7, ⟨some p46, .move, [(.tmp p3)], none⟩, .pure, []⟩,
  ⟨8, ⟨some p47, .move, [(.tmp p9)], none⟩, .pure, []⟩,
  ⟨9, ⟨some p48, (.bin .add), [(.tmp p46), (.tmp p47)], none⟩, .pure, [7, 8]⟩,
  ⟨10, ⟨some p49, (.idxSlice 1), [(.tmp p45), (.tmp p48)], none⟩, .pure, [6, 9]⟩,
  ⟨11, ⟨some p50, (.load false 1), [(.tmp p49)], none⟩, (.read 0 0), [10]⟩,
  ⟨12, ⟨some p51, .call, [(.const (.fn 88 [] [])), (.tmp p44), (.tmp p50)], none⟩, .eff, [5, 11]⟩,
  ⟨13, ⟨some p52, .not, [(.tmp p51)], none⟩, .pure, [12]⟩])
 (.cond (.tmp p52)
 (.ret [])
 .skip))
 (.seq (.drawn [
  ⟨0, ⟨some p53, .move, [(.tmp p0)], none⟩, .pure, []⟩,
  ⟨1, ⟨some p54, .move, [(.tmp p3)], none⟩, .pure, []⟩,
  ⟨2, ⟨some p55, .move, [(.tmp p8)], none⟩, .pure, []⟩,
  ⟨3, ⟨some p56, (.bin .add), [(.tmp p54), (.tmp p55)], none⟩, .pure, [1, 2]⟩,
  ⟨4, ⟨some p57, .move, [(.tmp p0)], none⟩, .pure, []⟩,
  ⟨5, ⟨some p58, .move, [(.tmp p3)], none⟩, .pure, []⟩,
  ⟨6, ⟨some p59, .move, [(.tmp p9)], none⟩, .pure, []⟩,
  ⟨7, ⟨some p60, (.bin .add), [(.tmp p58), (.tmp p59)], none⟩, .pure, [5, 6]⟩,
  ⟨8, ⟨some p61, .move, [(.tmp p0)], none⟩, .pure, []⟩,
  ⟨9, ⟨some p62, .move, [(.tmp p3)], none⟩, .pure, []⟩,
  ⟨10, ⟨some p63, .move, [(.tmp p9)], none⟩, .pure, []⟩,
  ⟨11, ⟨some p64, (.bin .add), [(.tmp p62), (.tmp p63)], none⟩, .pure, [9, 10]⟩,
  ⟨12, ⟨some p65, (.idxSlice 1), [(.tmp p61), (.tmp p64)], none⟩, .pure, [8, 11]⟩,
  ⟨13, ⟨some p66, (.load false 1), [(.tmp p65)], none⟩, (.read 0 0), [12]⟩,
  ⟨14, ⟨some p67, .move, [(.tmp p0)], none⟩, .pure, []⟩,
  ⟨15, ⟨some p68, .move, [(.tmp p3)], none⟩, .pure, []⟩,
  ⟨16, ⟨some p69, .move, [(.tmp p8)], none⟩, .pure, []⟩,
  ⟨17, ⟨some p70, (.bin .add), [(.tmp p68), (.tmp p69)], none⟩, .pure, [15, 16]⟩,
  ⟨18, ⟨some p71, (.idxSlice 1), [(.tmp p67), (.tmp p70)], none⟩, .pure, [14, 17]⟩,
  ⟨19, ⟨some p72, (.load false 1), [(.tmp p71)], none⟩, (.read 0 0), [18]⟩,
  ⟨20, ⟨some p73, (.idxSlice 1), [(.tmp p53), (.tmp p56)], none⟩, .pure, [0, 3, 0, 1, 2, 3, 8, 9, 10, 11, 12, 13, 19]⟩,
  ⟨21, ⟨none, (.store 1), [(.tmp p73), (.tmp p66)], none⟩, .eff, [20, 13, 0, 1, 2, 3, 8, 9, 10, 11, 12, 13, 19]⟩,
  ⟨22, ⟨some p74, (.idxSlice 1), [(.tmp p57), (.tmp p60)], none⟩, .pure, [4, 7, 0, 1, 2, 3, 4, 5, 6, 7, 8, 9, 10, 11, 12, 13, 14, 15, 16, 17, 18, 19, 20, 21]⟩,
  ⟨23, ⟨none, (.store 1), [(.tmp p74), (.tmp p72)], none⟩, .eff, [22, 19, 21, 0, 1, 2, 3, 4, 5, 6, 7, 8, 9, 10, 11, 12, 13, 14, 15, 16, 17, 18, 19, 20, 21]⟩])
 (.reg [
  ⟨some p75, .move, [(.tmp p9)], none⟩,
  ⟨some p8, .move, [(.tmp p75)], none⟩])))))))))),
 []⟩
def F99 : IFn := ⟨1,
(.seq (.reg [
  ⟨some p2, .move, [(.const (.int .u64 (.ofNat 0)))], none⟩])
 (.seq (.reg [
  ⟨some p3, .move, [(.tmp p0)], none⟩,
  ⟨some p4, (.convInt .u64), [(.tmp p3)], none⟩,
  ⟨some p5, .call, [(.const (.fn 67 [] [])), (.tmp p4)], none⟩,
  ⟨some p6, (.bin .shl), [(.const (.int .u64 (.ofNat 1))), (.tmp p5)], none⟩,
  ⟨some p2, .move, [(.tmp p6)], none⟩])
 (.ret [.tmp p2]))),
 [.tmp p2]⟩
def F100 : IFn := ⟨1,
(.seq (.reg [
  ⟨some p2, .move, [(.const (.int .u64 (.ofNat 0)))], none⟩])
 (.seq (.drawn [
  ⟨0, ⟨some p3, .move, [(.tmp p0)], none⟩, .pure, []⟩,
  ⟨1, ⟨some p4, .nilCheck, [(.tmp p3)], none⟩, .pure, [0]⟩,
  ⟨2, ⟨some p5, (.load false 1), [(.tmp p4)], none⟩, (.read 0 0), [1]⟩,
  ⟨3, ⟨some p6, .move, [(.tmp p0)], none⟩, .pure, []⟩,
  ⟨4, ⟨some p7, .nilCheck, [(.tmp p6)], none⟩, .pure, [3]⟩,
  ⟨5, ⟨some p8, (.load false 1), [(.tmp p7)], none⟩, (.read 0 0), [4]⟩,
  ⟨6, ⟨some p9, (.bin .shl), [(.tmp p8), (.const (.int .u64 (.ofNat 13)))], none⟩, .pure, [5]⟩,
  ⟨7, ⟨some p10, (.bin .xor), [(.tmp p5), (.tmp p9)], none⟩, .pure, [2, 6]⟩,
  ⟨8, ⟨some p11, .nilCheck, [(.tmp p3)], none⟩, .pure, [0, 0, 1, 2, 3, 4, 5, 6, 7]⟩,
  ⟨9, ⟨none, (.store 1), [(.tmp p11), (.tmp p10)], none⟩, .eff, [8, 7, 0, 1, 2, 3, 4, 5, 6, 7]⟩])
 (.seq (.drawn [
  ⟨0, ⟨some p12, .move, [(.tmp p0)], none⟩, .pure, []⟩,
  ⟨1, ⟨some p13, .nilCheck, [(.tmp p12)], none⟩, .pure, [0]⟩,
  ⟨2, ⟨some p14, (.load false 1), [(.tmp p13)], none⟩, (.read 0 0), [1]⟩,
  ⟨3, ⟨some p15, .move, [(.tmp p0)], none⟩, .pure, []⟩,
  ⟨4, ⟨some p16, .nilCheck, [(.tmp p15)], none⟩, .pure, [3]⟩,
  ⟨5, ⟨some p17, (.load false 1), [(.tmp p16)], none⟩, (.read 0 0), [4]⟩,
  ⟨6, ⟨some p18, (.bin .shr), [(.tmp p17), (.const (.int .u64 (.ofNat 7)))], none⟩, .pure, [5]⟩,
  ⟨7, ⟨some p19, (.bin .xor), [(.tmp p14), (.tmp p18)], none⟩, .pure, [2, 6]⟩,
  ⟨8, ⟨some p20, .nilCheck, [(.tmp p12)], none⟩, .pure, [0, 0, 1, 2, 3, 4, 5, 6, 7]⟩,
  ⟨9, ⟨none, (.store 1), [(.tmp p20), (.tmp p19)], none⟩, .eff, [8, 7, 0, 1, 2, 3, 4, 5, 6, 7]⟩])
 (.seq (.drawn [
  ⟨0, ⟨some p21, .move, [(.tmp p0)], none⟩, .pure, []⟩,
  ⟨1, ⟨some p22, .nilCheck, [(.tmp p21)], none⟩, .pure, [0]⟩,
  ⟨2, ⟨some p23, (.load false 1), [(.tmp p22)], none⟩, (.read 0 0), [1]⟩,
  ⟨3, ⟨some p24, .move, [(.tmp p0)], none⟩, .pure, []⟩,
  ⟨4, ⟨some p25, .nilCheck, [(.tmp p24)], none⟩, .pure, [3]⟩,
  ⟨5, ⟨some p26, (.load false 1), [(.tmp p25)], none⟩, (.read 0 0), [4]⟩,
  ⟨6, ⟨some p27, (.bin .shl), [(.tmp p26), (.const (.int .u64 (.ofNat 17)))], none⟩, .pure, [5]⟩,
  ⟨7, ⟨some p28, (.bin .xor), [(.tmp p23), (.tmp p27)], none⟩, .pure, [2, 6]⟩,
  ⟨8, ⟨some p29, .nilCheck, [(.tmp p21)], none⟩, .pure, [0, 0, 1, 2, 3, 4, 5, 6, 7]⟩,
  ⟨9, ⟨none, (.store 1), [(.tmp p29), (.tmp p28)], none⟩, .eff, [8, 7, 0, 1, 2, 3, 4, 5, 6, 7]⟩])
 (.seq (.reg [
  ⟨some p30, .move, [(.tmp p0)], none⟩,
  ⟨some p31, .nilCheck, [(.tmp p30)], none⟩,
  ⟨some p32, (.load false 1), [(.tmp p31)], none⟩,
  ⟨some p2, .move, [(.tmp p32)], none⟩])
 (.ret [.tmp p2])))))),
 [.tmp p2]⟩
def F101 : IFn := ⟨3,
(.seq (.reg [
  ⟨some p6, .move, [(.const (.int .i64 (.ofNat 0)))], none⟩])
 (.seq (.reg [
  ⟨some p7, .move, [(.tmp p0)], none⟩,
  ⟨some p8, .move, [(.tmp p1)], none⟩,
  ⟨some p9, (.bin .sub), [(.tmp p8), (.const (.int .i64 (.ofNat 1)))], none⟩,
  ⟨some p10, .move, [(.tmp p1)], none⟩,
  ⟨some p11, .move, [(.tmp p1)], none⟩,
  ⟨some p12, (.bin .add), [(.tmp p11), (.const (.int .i64 (.ofNat 1)))], none⟩,
  ⟨some p13, .move, [(.tmp p2)], none⟩,
  ⟨some p14, .call, [(.const (.fn 102 [] [])), (.tmp p7), (.tmp p9), (.tmp p10), (.tmp p12), (.tmp p13)], none⟩,
  ⟨some p6, .move, [(.tmp p14)], none⟩])
 (.ret [.tmp p6]))),
 [.tmp p6]⟩
def F102 : IFn := ⟨5,
(.seq (.reg [
  ⟨some p10, .move, [(.const (.int .i64 (.ofNat 0)))], none⟩])
 (.seq (.reg [
  ⟨some p12, .move, [(.tmp p0)], none⟩,
  ⟨some p13, .move, [(.tmp p1)], none⟩,
  ⟨some p14, .move, [(.tmp p2)], none⟩,
  ⟨some p15, .move, [(.tmp p4)], none⟩,
  ⟨some p16, .call, [(.const (.fn 110 [] [])), (.tmp p12), (.tmp p13), (.tmp p14), (.tmp p15)], none⟩,
  ⟨some p11, .move, [(.tmp p16)], none⟩,
  ⟨some p17, (.extract 0), [(.tmp p11)], none⟩,
  ⟨some p18, (.extract 1), [(.tmp p11)], none⟩,
  ⟨some p1, .move, [(.tmp p17)], none⟩,
  ⟨some p2, .move, [(.tmp p18)], none⟩])
 (.seq (.reg [
  ⟨some p20, .move, [(.tmp p0)], none⟩,
  ⟨some p21, .move, [(.tmp p2)], none⟩,
  ⟨some p22, .move, [(.tmp p3)], none⟩,
  ⟨some p23, .move, [(.tmp p4)], none⟩,
  ⟨some p24, .call, [(.const (.fn 110 [] [])), (.tmp p20), (.tmp p21), (.tmp p22), (.tmp p23)], none⟩,
  ⟨some p19, .move, [(.tmp p24)], none⟩,
  ⟨some p25, (.extract 0), [(.tmp p19)], none⟩,
  ⟨some p26, (.extract 1), [(.tmp p19)], none⟩,
  ⟨some p2, .move, [(.tmp p25)], none⟩,
  ⟨some p3, .move, [(.tmp p26)], none⟩])
 (.seq (.reg [
  ⟨some p28, .move, [(.tmp p0)], none⟩,
  ⟨some p29, .move, [(.tmp p1)], none⟩,
  ⟨some p30, .move, [(.tmp p2)], none⟩,
  ⟨some p31, .move, [(.tmp p4)], none⟩,
  ⟨some p32, .call, [(.const (.fn 110 [] [])), (.tmp p28), (.tmp p29), (.tmp p30), (.tmp p31)], none⟩,
  ⟨some p27, .move, [(.tmp p32)], none⟩,
  ⟨some p33, (.extract 0), [(.tmp p27)], none⟩,
  ⟨some p34, (.extract 1), [(.tmp p27)], none⟩,
  ⟨some p1, .move, [(.tmp p33)], none⟩,
  ⟨some p2, .move, [(.tmp p34)], none⟩])
 (.seq (.reg [
  ⟨some p35, .move, [(.tmp p2)], none⟩,
  ⟨some p10, .move, [(.tmp p35)], none⟩])
 (.ret [.tmp p10])))))),
 [.tmp p10]⟩
def F103 : IFn := ⟨1,
(.seq (.reg [
  ⟨some p2, .move, [(.const (.bool false))], none⟩])
 (.seq (.reg [
  ⟨some p3, .move, [(.tmp p0)], none⟩,
  ⟨some p4, .move, [(.tmp p0)], none⟩,
  ⟨some p5, (.eql (.base .int) true), [(.tmp p3), (.tmp p4)], none⟩,
  ⟨some p2, .move, [(.tmp p5)], none⟩])
 (.ret [.tmp p2]))),
 [.tmp p2]⟩
def F110 : IFn := ⟨4,
(.seq (.reg [
  ⟨some p8, .move, [(.const (.int .i64 (.ofNat 0)))], none⟩,
  ⟨some p9, .move, [(.const (.int .i64 (.ofNat 0)))], none⟩])
 (.seq (.seq (.drawn [
  ⟨0, ⟨some p10, .move, [(.tmp p0)], none⟩, .pure, []⟩,
  ⟨1, ⟨some p11, .move, [(.tmp p2)], none⟩, .pure, []⟩,
  ⟨2, ⟨some p12, (.idxSlice 1), [(.tmp p10), (.tmp p11)], none⟩, .pure, [0, 1]⟩,
  ⟨3, ⟨some p13, (.load false 1), [(.tmp p12)], none⟩, (.read 0 0), [2]⟩,
  ⟨4, ⟨some p14, .move, [(.tmp p0)], none⟩, .pure, []⟩,
  ⟨5, ⟨some p15, .move, [(.tmp p1)], none⟩, .pure, []⟩,
  ⟨6, ⟨some p16, (.idxSlice 1), [(.tmp p14), (.tmp p15)], none⟩, .pure, [4, 5]⟩,
  ⟨7, ⟨some p17, (.load false 1), [(.tmp p16)], none⟩, (.read 0 0), [6]⟩,
  ⟨8, ⟨some p18, .call, [(.const (.fn 88 [] [])), (.tmp p13), (.tmp p17)], none⟩, .eff, [3, 7]⟩])
 (.cond (.tmp p18)
 (.seq (.reg [
  ⟨some p19, .move, [(.tmp p3)], none⟩,
  ⟨some p20, .nilCheck, [(.tmp p19)], none⟩,
  ⟨some p21, (.load false 1), [(.tmp p20)], none⟩,
  ⟨some p22, (.bin .add), [(.tmp p21), (.const (.int .i64 (.ofNat 1)))], none⟩,
  ⟨some p23, .nilCheck, [(.tmp p19)], none⟩,
  ⟨none, (.store 1), [(.tmp p23), (.tmp p22)], none⟩])
 (.seq (.reg [
  ⟨some p24, .move, [(.tmp p2)], none⟩,
  ⟨some p25, .move, [(.tmp p1)], none⟩,
  ⟨some p8, .move, [(.tmp p24)], none⟩,
  ⟨some p9, .move, [(.tmp p25)], none⟩])
 (.ret [.tmp p8, .tmp p9])))
 .skip))
 (.seq (.reg [
  ⟨some p26, .move, [(.tmp p1)], none⟩,
  ⟨some p27, .move, [(.tmp p2)], none⟩,
  ⟨some p8, .move, [(.tmp p26)], none⟩,
  ⟨some p9, .move, [(.tmp p27)], none⟩])
 (.ret [.tmp p8, .tmp p9])))),
 [.tmp p8, .tmp p9]⟩
def F142 : IFn := ⟨1,
(.seq (.reg [
  ⟨some p2, .move, [(.const .pnil)], none⟩])
 (.seq (.reg [
  ⟨some p3, .move, [(.tmp p0)], none⟩,
  ⟨some p2, .move, [(.tmp p3)], none⟩])
 (.ret [.tmp p2]))),
 [.tmp p2]⟩
def fnsL : List (Nat × IFn) := [(3, F3), (4, F4), (5, F5), (6, F6), (7, F7), (8, F8), (9, F9), (10, F10), (11, F11), (12, F12), (14, F14), (16, F16), (17, F17), (18, F18), (19, F19), (20, F20), (21, F21), (22, F22), (23, F23), (24, F24), (25, F25), (26, F26), (27, F27), (28, F28), (29, F29), (30, F30), (31, F31), (32, F32), (33, F33), (34, F34), (35, F35), (36, F36), (37, F37), (38, F38), (39, F39), (40, F40), (41, F41), (42, F42), (43, F43), (44, F44), (45, F45), (46, F46), (47, F47), (48, F48), (49, F49), (50, F50), (51, F51), (52, F52), (53, F53), (54, F54), (55, F55), (56, F56), (57, F57), (58, F58), (60, F60), (61, F61), (62, F62), (63, F63), (64, F64), (65, F65), (66, F66), (67, F67), (68, F68), (69, F69), (70, F70), (71, F71), (72, F72), (73, F73), (74, F74), (75, F75), (80, F80), (81, F81), (82, F82), (83, F83), (84, F84), (85, F85), (86, F86), (87, F87), (88, F88), (89, F89), (90, F90), (91, F91), (92, F92), (93, F93), (95, F95), (96, F96), (98, F98), (99, F99), (100, F100), (101, F101), (102, F102), (103, F103), (110, F110), (142, F142)]
def primsL : List (Nat × (List V → M → R)) := [(13, pIds 3), (15, pIds 3), (104, pIndexByte)]
def fns : T IFn := (.node (.node (.node (.node (.node (.node (.node .nil (some F63) .nil) (some F31) (.node .nil (some F95) .nil)) none (.node .nil (some F47) .nil)) (some F7) (.node (.node (.node .nil (some F71) .nil) (some F39) (.node .nil (some F103) .nil)) (some F23) (.node (.node .nil (some F87) .nil) (some F55) .nil))) (some F3) (.node (.node (.node (.node .nil (some F67) .nil) (some F35) (.node .nil (some F99) .nil)) (some F19) (.node (.node .nil (some F83) .nil) (some F51) .nil)) (some F11) (.node (.node (.node .nil (some F75) .nil) (some F43) .nil) (some F27) (.node (.node .nil (some F91) .nil) none .nil)))) none (.node (.node (.node (.node (.node .nil (some F65) .nil) (some F33) .nil) (some F17) (.node (.node .nil (some F81) .nil) (some F49) .nil)) (some F9) (.node (.node (.node .nil (some F73) .nil) (some F41) .nil) (some F25) (.node (.node .nil (some F89) .nil) (some F57) .nil))) (some F5) (.node (.node (.node (.node .nil (some F69) .nil) (some F37) (.node .nil (some F101) .nil)) (some F21) (.node (.node .nil (some F85) .nil) (some F53) .nil)) none (.node (.node .nil (some F45) .nil) (some F29) (.node (.node .nil (some F93) .nil) (some F61) .nil))))) none (.node (.node (.node (.node (.node (.node .nil (some F64) .nil) (some F32) (.node .nil (some F96) .nil)) (some F16) (.node (.node .nil (some F80) .nil) (some F48) .nil)) (some F8) (.node (.node (.node .nil (some F72) .nil) (some F40) .nil) (some F24) (.node (.node .nil (some F88) .nil) (some F56) .nil))) (some F4) (.node (.node (.node (.node .nil (some F68) .nil) (some F36) (.node .nil (some F100) .nil)) (some F20) (.node (.node .nil (some F84) .nil) (some F52) .nil)) (some F12) (.node (.node .nil (some F44) .nil) (some F28) (.node (.node .nil (some F92) .nil) (some F60) .nil)))) none (.node (.node (.node (.node (.node .nil (some F66) .nil) (some F34) (.node .nil (some F98) .nil)) (some F18) (.node (.node .nil (some F82) .nil) (some F50) .nil)) (some F10) (.node (.node (.node .nil (some F74) .nil) (some F42) .nil) (some F26) (.node (.node .nil (some F90) .nil) (some F58) .nil))) (some F6) (.node (.node (.node (.node .nil (some F70) .nil) (some F38) (.node .nil (some F102) .nil)) (some F22) (.node (.node .nil (some F86) .nil) (some F54) .nil)) (some F14) (.node (.node (.node (.node .nil (some F142) .nil) none .nil) (some F46) (.node .nil (some F110) .nil)) (some F30) (.node .nil (some F62) .nil))))))
def prims : T (List V → M → R) := (.node (.node (.node (.node (.node .nil (some (pIds 3)) .nil) none .nil) none .nil) none (.node .nil none (.node .nil (some (pIds 3)) .nil))) none (.node (.node (.node .nil none (.node (.node .nil none (.node .nil (some (pIndexByte)) .nil)) none .nil)) none .nil) none .nil))
def meth : Nat → Nat → Option (Nat × Nat)
  | 125, 0 => some (142, 0)
  | 131, 0 => some (142, 0)
  | 156, 0 => some (142, 0)
  | _, _ => none
def W : Prg := ⟨fns, fun f => prims.get (key f), meth, fun _ => false⟩
def names : List String := ["mullion/layout.where"]
end Go.Proofs.YtkceoangoobbkaaGreatDoor.Ir

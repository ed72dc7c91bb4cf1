/- A part of the proof of the claim: the abstract layer, the contracts of the functions, the law (no condition of its own). -/
import Derived.Test.YtojfdejpoideaaaGreatV2
set_option linter.unusedVariables false
namespace Go.Proofs.YtojfdejpoideaaaGreat
open Go.AL
def v160 : ACode :=
(.seq
 (.reg [oo 5 (.new 297 (.t 1)),
 oo 8 (.new 28 (.c (.agg [(.int .i64 0), (.str ⟨#[]⟩), (.int .i64 0), (.int .i64 0), .nils, .nils, .nils, .nils, .nils])))])
 (.seq
 (.seq
 (.reg [oo 15 (.faddr 0 (.t 5)),
 oo 16 (.load none (.t 15))])
 (.block 0
 (.seq
 (.reg [oo 18 (.bin .int .eql (.t 16) (.c (.int .i64 1))),
 mv 17 18])
 (.cond (.t 17)
 (.seq
 (.reg [mv 19 0,
 oo 20 (.faddr 1 (.t 5)),
 oo 21 (.load none (.t 20)),
 mv 22 2,
 oo 23 (.call 225 [(.t 19), (.t 21), (.t 22)]),
 ⟨none, .store 9 (.t 8) (.t 23), none⟩])
 .ret)
 (.seq
 (.reg [oo 25 (.bin .int .eql (.t 16) (.c (.int .i64 2))),
 mv 24 25])
 (.cond (.t 24)
 (.seq
 (.reg [mv 26 0,
 oo 27 (.faddr 1 (.t 5)),
 oo 28 (.load none (.t 27)),
 oo 29 (.call 226 [(.t 26), (.t 28)]),
 ⟨none, .store 9 (.t 8) (.t 29), none⟩])
 .ret)
 (.seq
 (.reg [oo 31 (.bin .int .eql (.t 16) (.c (.int .i64 3))),
 mv 30 31])
 (.cond (.t 30)
 (.seq
 (.reg [oo 32 (.faddr 2 (.t 5)),
 oo 33 (.load none (.t 32)),
 oo 34 (.build [(.int .i64 0), (.str ⟨#[]⟩), (.int .i64 0), (.int .i64 0), .nils, .nils, .nils, .nils, .nils] [(0, 1, (.c (.int .i64 3))), (2, 1, (.t 33))]),
 ⟨none, .store 9 (.t 8) (.t 34), none⟩])
 .ret)
 (.seq
 (.reg [oo 36 (.bin .int .eql (.t 16) (.c (.int .i64 4))),
 mv 35 36])
 (.cond (.t 35)
 (.seq
 (.seq
 (.reg [oo 37 (.load (some 9) (.t 5)),
 mv 38 2,
 oo 39 (.call 227 [(.t 37), (.t 38)]),
 mv 9 39])
 (.seq
 (.reg [mv 40 9,
 oo 41 (.bin .int .gtr (.t 40) (.c (.int .i64 0)))])
 (.cond (.t 41)
 (.seq
 (.draw [10, 11] [([⟨(some 42), .move (.t 0), none⟩], []),
 ([⟨(some 43), .faddr 4 (.t 5), none⟩], []),
 ([⟨(some 44), .load none (.t 43), none⟩], []),
 ([⟨(some 45), .iaddr 9 (.t 44) (.c (.int .i64 0)), none⟩], []),
 ([⟨(some 46), .faddr 4 (.t 45), none⟩], []),
 ([⟨(some 47), .load none (.t 46), none⟩], []),
 ([⟨(some 48), .iaddr 9 (.t 47) (.c (.int .i64 1)), none⟩], []),
 ([⟨(some 49), .load (some 9) (.t 48), none⟩], []),
 ([⟨(some 50), .move (.t 2), none⟩], []),
 ([⟨(some 51), .move (.t 3), none⟩], []),
 ([⟨(some 53), .move (.t 0), none⟩], []),
 ([⟨(some 54), .faddr 4 (.t 5), none⟩], []),
 ([⟨(some 55), .load none (.t 54), none⟩], []),
 ([⟨(some 56), .iaddr 9 (.t 55) (.c (.int .i64 1)), none⟩], []),
 ([⟨(some 57), .load (some 9) (.t 56), none⟩], []),
 ([⟨(some 58), .move (.t 2), none⟩], []),
 ([⟨(some 59), .move (.t 3), none⟩], []),
 ([⟨(some 52), .call 160 [(.t 42), (.t 49), (.t 50), (.t 51)], none⟩], [⟨(some 54), .faddr 4 (.t 5), none⟩, ⟨(some 55), .load none (.t 54), none⟩, ⟨(some 56), .iaddr 9 (.t 55) (.c (.int .i64 1)), none⟩, ⟨(some 57), .load (some 9) (.t 56), none⟩]),
 ([⟨(some 60), .call 160 [(.t 53), (.t 57), (.t 58), (.t 59)], none⟩], []),
 ([⟨(some 10), .new 28 (.c (.agg [(.int .i64 0), (.str ⟨#[]⟩), (.int .i64 0), (.int .i64 0), .nils, .nils, .nils, .nils, .nils])), none⟩, ⟨none, .store 9 (.t 10) (.t 52), none⟩], []),
 ([⟨(some 11), .new 28 (.c (.agg [(.int .i64 0), (.str ⟨#[]⟩), (.int .i64 0), (.int .i64 0), .nils, .nils, .nils, .nils, .nils])), none⟩, ⟨none, .store 9 (.t 11) (.t 60), none⟩], [])])
 (.seq
 (.reg [mv 61 9,
 oo 62 (.load (some 9) (.t 10)),
 oo 63 (.load (some 9) (.t 11)),
 oo 64 (.lit true 28 9 [(.t 62), (.t 63)]),
 oo 65 (.build [(.int .i64 0), (.str ⟨#[]⟩), (.int .i64 0), (.int .i64 0), .nils, .nils, .nils, .nils, .nils] [(0, 1, (.c (.int .i64 9))), (2, 1, (.t 61)), (5, 1, (.t 64))]),
 ⟨none, .store 9 (.t 8) (.t 65), none⟩])
 .ret))
 .skip)))
 (.seq
 (.draw [] [([⟨(some 66), .move (.t 0), none⟩], []),
 ([⟨(some 67), .faddr 4 (.t 5), none⟩], []),
 ([⟨(some 68), .load none (.t 67), none⟩], []),
 ([⟨(some 69), .iaddr 9 (.t 68) (.c (.int .i64 0)), none⟩], []),
 ([⟨(some 70), .load (some 9) (.t 69), none⟩], []),
 ([⟨(some 71), .move (.t 2), none⟩], []),
 ([⟨(some 72), .move (.t 3), none⟩], []),
 ([⟨(some 74), .move (.t 0), none⟩], []),
 ([⟨(some 75), .faddr 4 (.t 5), none⟩], []),
 ([⟨(some 76), .load none (.t 75), none⟩], []),
 ([⟨(some 77), .iaddr 9 (.t 76) (.c (.int .i64 1)), none⟩], []),
 ([⟨(some 78), .load (some 9) (.t 77), none⟩], []),
 ([⟨(some 79), .move (.t 2), none⟩], []),
 ([⟨(some 80), .move (.t 3), none⟩], []),
 ([⟨(some 73), .call 160 [(.t 66), (.t 70), (.t 71), (.t 72)], none⟩], [⟨(some 75), .faddr 4 (.t 5), none⟩, ⟨(some 76), .load none (.t 75), none⟩, ⟨(some 77), .iaddr 9 (.t 76) (.c (.int .i64 1)), none⟩, ⟨(some 78), .load (some 9) (.t 77), none⟩]),
 ([⟨(some 81), .call 160 [(.t 74), (.t 78), (.t 79), (.t 80)], none⟩], []),
 ([⟨(some 82), .lit true 28 9 [(.t 73), (.t 81)], none⟩], []),
 ([⟨(some 83), .build [(.int .i64 0), (.str ⟨#[]⟩), (.int .i64 0), (.int .i64 0), .nils, .nils, .nils, .nils, .nils] [(0, 1, (.c (.int .i64 5))), (5, 1, (.t 82))], none⟩], []),
 ([⟨none, .store 9 (.t 8) (.t 83), none⟩], [])])
 .ret))
 (.seq
 (.reg [oo 85 (.bin .int .eql (.t 16) (.c (.int .i64 5))),
 mv 84 85])
 (.cond (.t 84)
 (.seq
 (.reg [mv 86 3,
 oo 87 (.faddr 3 (.t 5)),
 oo 88 (.load none (.t 87)),
 oo 89 (.len .slice (.t 88)),
 oo 90 (.call 110 [(.t 86), (.t 89)]),
 mv 12 90])
 (.seq
 (.seq
 (.reg [oo 91 (.faddr 3 (.t 5)),
 oo 92 (.load none (.t 91)),
 oo 93 (.len .slice (.t 92)),
 oo 94 (.move (.c (.int .i64 0)))])
 (.block 1
 (.loop
 (.seq
 (.reg [oo 95 (.bin .int .lss (.t 94) (.t 93))])
 (.seq
 (.cond (.t 95)
 .skip
 (.exit 1))
 (.seq
 (.block 2
 (.seq
 (.reg [mv 96 94,
 oo 97 (.iaddr 1 (.t 92) (.t 94)),
 oo 98 (.load none (.t 97)),
 mv 13 96,
 mv 14 98])
 (.seq
 (.reg [mv 99 14,
 oo 100 (.bin .str .neq (.t 99) (.c (.str ⟨#[95]⟩)))])
 (.cond (.t 100)
 (.reg [mv 101 2,
 mv 102 14,
 mv 103 12,
 mv 104 13,
 oo 105 (.iaddr 1 (.t 103) (.t 104)),
 oo 106 (.load none (.t 105)),
 oo 107 (.call 228 [(.t 101), (.t 102), (.t 106)]),
 mv 2 107])
 .skip))))
 (.reg [oo 108 (.bin .int .add (.t 94) (.c (.int .i64 1))),
 mv 94 108])))))))
 (.seq
 (.reg [mv 109 12,
 mv 110 0,
 oo 111 (.faddr 4 (.t 5)),
 oo 112 (.load none (.t 111)),
 oo 113 (.iaddr 9 (.t 112) (.c (.int .i64 0))),
 oo 114 (.load (some 9) (.t 113)),
 mv 115 2,
 mv 116 3,
 mv 117 12,
 oo 118 (.len .slice (.t 117)),
 oo 119 (.bin .int .add (.t 116) (.t 118)),
 oo 120 (.call 160 [(.t 110), (.t 114), (.t 115), (.t 119)]),
 oo 121 (.lit true 28 9 [(.t 120)]),
 oo 122 (.build [(.int .i64 0), (.str ⟨#[]⟩), (.int .i64 0), (.int .i64 0), .nils, .nils, .nils, .nils, .nils] [(0, 1, (.c (.int .i64 6))), (4, 1, (.t 109)), (5, 1, (.t 121))]),
 ⟨none, .store 9 (.t 8) (.t 122), none⟩])
 .ret)))
 (.seq
 (.reg [oo 124 (.bin .int .eql (.t 16) (.c (.int .i64 6))),
 mv 123 124])
 (.cond (.t 123)
 (.seq
 (.reg [mv 125 0,
 oo 126 (.load (some 9) (.t 5)),
 mv 127 2,
 mv 128 3,
 oo 129 (.call 229 [(.t 125), (.t 126), (.t 127), (.t 128)]),
 ⟨none, .store 9 (.t 8) (.t 129), none⟩])
 .ret)
 (.seq
 (.reg [oo 131 (.bin .int .eql (.t 16) (.c (.int .i64 8))),
 mv 130 131])
 (.cond (.t 130)
 (.seq
 (.draw [] [([⟨(some 132), .move (.t 0), none⟩], []),
 ([⟨(some 133), .move (.t 0), none⟩], []),
 ([⟨(some 134), .faddr 4 (.t 5), none⟩], []),
 ([⟨(some 135), .load none (.t 134), none⟩], []),
 ([⟨(some 136), .iaddr 9 (.t 135) (.c (.int .i64 0)), none⟩], []),
 ([⟨(some 137), .load (some 9) (.t 136), none⟩], []),
 ([⟨(some 138), .move (.t 2), none⟩], []),
 ([⟨(some 139), .move (.t 3), none⟩], []),
 ([⟨(some 141), .move (.t 0), none⟩], []),
 ([⟨(some 142), .faddr 4 (.t 5), none⟩], []),
 ([⟨(some 143), .load none (.t 142), none⟩], []),
 ([⟨(some 144), .iaddr 9 (.t 143) (.c (.int .i64 1)), none⟩], []),
 ([⟨(some 145), .load (some 9) (.t 144), none⟩], []),
 ([⟨(some 146), .move (.t 2), none⟩], []),
 ([⟨(some 147), .move (.t 3), none⟩], []),
 ([⟨(some 149), .move (.t 0), none⟩], []),
 ([⟨(some 150), .faddr 4 (.t 5), none⟩], []),
 ([⟨(some 151), .load none (.t 150), none⟩], []),
 ([⟨(some 152), .iaddr 9 (.t 151) (.c (.int .i64 2)), none⟩], []),
 ([⟨(some 153), .load (some 9) (.t 152), none⟩], []),
 ([⟨(some 154), .move (.t 2), none⟩], []),
 ([⟨(some 155), .move (.t 3), none⟩], []),
 ([⟨(some 140), .call 160 [(.t 133), (.t 137), (.t 138), (.t 139)], none⟩], [⟨(some 142), .faddr 4 (.t 5), none⟩, ⟨(some 143), .load none (.t 142), none⟩, ⟨(some 144), .iaddr 9 (.t 143) (.c (.int .i64 1)), none⟩, ⟨(some 145), .load (some 9) (.t 144), none⟩, ⟨(some 150), .faddr 4 (.t 5), none⟩, ⟨(some 151), .load none (.t 150), none⟩, ⟨(some 152), .iaddr 9 (.t 151) (.c (.int .i64 2)), none⟩, ⟨(some 153), .load (some 9) (.t 152), none⟩]),
 ([⟨(some 148), .call 160 [(.t 141), (.t 145), (.t 146), (.t 147)], none⟩], [⟨(some 150), .faddr 4 (.t 5), none⟩, ⟨(some 151), .load none (.t 150), none⟩, ⟨(some 152), .iaddr 9 (.t 151) (.c (.int .i64 2)), none⟩, ⟨(some 153), .load (some 9) (.t 152), none⟩]),
 ([⟨(some 156), .call 160 [(.t 149), (.t 153), (.t 154), (.t 155)], none⟩], []),
 ([⟨(some 157), .call 161 [(.t 132), (.t 140), (.t 148), (.t 156)], none⟩], []),
 ([⟨none, .store 9 (.t 8) (.t 157), none⟩], [])])
 .ret)
 .skip))))))))))))))))
 (.seq
 (.reg [mv 158 0,
 oo 159 (.load (some 9) (.t 5)),
 mv 160 2,
 mv 161 3,
 oo 162 (.call 230 [(.t 158), (.t 159), (.t 160), (.t 161)]),
 ⟨none, .store 9 (.t 8) (.t 162), none⟩])
 .ret)))
theorem ent160 : EntOK Tryz.prog 160 ⟨163, v160, [.cell 8 (some 9)]⟩ := fun args σ K ha h =>
 enter (own := List.range 163) Tryz.func160 (by kernel_rfl) (by kernel_rfl) (by kernel_rfl) ha h
def v162 : ACode :=
(.seq
 (.reg [oo 2 (.move (.c (.str ⟨#[]⟩)))])
 (.seq
 (.reg [mv 3 0,
 oo 4 (.call 173 [(.t 3)]),
 oo 5 (.bin .str .add (.c (.str ⟨#[35]⟩)) (.t 4)),
 mv 2 5])
 .ret))
theorem ent162 : EntOK Tryz.prog 162 ⟨6, v162, [.slot 2]⟩ := fun args σ K ha h =>
 enter (own := List.range 6) Tryz.func162 (by kernel_rfl) (by kernel_rfl) (by kernel_rfl) ha h
def v170 : ACode :=
(.seq
 (.reg [oo 4 (.move (.c (.int .i64 0)))])
 (.seq
 (.reg [mv 6 1,
 oo 7 (.len .str (.t 6)),
 mv 5 7])
 (.seq
 (.block 0
 (.seq
 (.reg [mv 9 5,
 oo 10 (.bin .int .eql (.t 9) (.c (.int .i64 0))),
 mv 8 10])
 (.cond (.t 8)
 (.seq
 (.reg [mv 11 0,
 oo 12 (.len .str (.t 11)),
 mv 4 12])
 .ret)
 (.seq
 (.reg [mv 14 5,
 oo 15 (.bin .int .eql (.t 14) (.c (.int .i64 1))),
 mv 13 15])
 (.cond (.t 13)
 (.seq
 (.reg [mv 16 0,
 mv 17 1,
 oo 18 (.index (.t 17) (.c (.int .i64 0))),
 oo 19 (.call 236 [(.t 16), (.t 18)]),
 mv 4 19])
 .ret)
 (.seq
 (.reg [mv 21 5,
 mv 22 0,
 oo 23 (.len .str (.t 22)),
 oo 24 (.bin .int .eql (.t 21) (.t 23)),
 mv 20 24])
 (.cond (.t 20)
 (.seq
 (.seq
 (.reg [mv 25 1,
 mv 26 0,
 oo 27 (.bin .str .eql (.t 25) (.t 26))])
 (.cond (.t 27)
 (.seq
 (.reg [oo 4 (.move (.c (.int .i64 0)))])
 .ret)
 .skip))
 (.seq
 (.reg [oo 4 (.move (.c (.int .i64 (-1))))])
 .ret))
 (.seq
 (.reg [mv 29 5,
 mv 30 0,
 oo 31 (.len .str (.t 30)),
 oo 32 (.bin .int .gtr (.t 29) (.t 31)),
 mv 28 32])
 (.cond (.t 28)
 (.seq
 (.reg [oo 4 (.move (.c (.int .i64 (-1))))])
 .ret)
 .skip)))))))))
 (.seq
 (.reg [mv 33 0,
 mv 34 1,
 oo 35 (.call 237 [(.t 33), (.t 34)]),
 mv 4 35])
 .ret))))
theorem ent170 : EntOK Tryz.prog 170 ⟨36, v170, [.slot 4]⟩ := fun args σ K ha h =>
 enter (own := List.range 36) Tryz.func170 (by kernel_rfl) (by kernel_rfl) (by kernel_rfl) ha h
def v171 : ACode :=
(.seq
 (.reg [oo 2 (.move (.c (.int .i64 0))),
 oo 3 (.move (.c (.int .i64 0)))])
 (.scope
 (.seq
 (.reg [mv 10 0,
 mv 4 10])
 (.seq
 (.reg [mv 11 0,
 oo 12 (.len .str (.t 11)),
 oo 13 (.bin .int .gtr (.t 12) (.c (.int .i64 0))),
 mv 14 13,
 og 15 14 true (.move (.t 0)),
 og 16 14 true (.index (.t 15) (.c (.int .i64 0))),
 og 17 14 true (.bin .int .eql (.t 16) (.c (.int .u8 45))),
 oo 18 (.pick (.t 14) (.t 17) (.c (.bool false))),
 mv 5 18])
 (.seq
 (.seq
 (.reg [mv 19 5])
 (.cond (.t 19)
 (.reg [mv 20 0,
 oo 21 (.cut .str 1 (.t 20) (some (.c (.int .i64 1))) none),
 mv 4 21])
 .skip))
 (.seq
 (.seq
 (.reg [mv 22 4,
 oo 23 (.bin .str .eql (.t 22) (.c (.str ⟨#[]⟩))),
 mv 24 23,
 og 25 24 false (.move (.t 4)),
 og 26 24 false (.len .str (.t 25)),
 og 27 24 false (.bin .int .gtr (.t 26) (.c (.int .i64 19))),
 oo 28 (.pick (.t 24) (.c (.bool true)) (.t 27)),
 mv 29 28,
 og 30 29 false (.move (.t 4)),
 og 31 29 false (.index (.t 30) (.c (.int .i64 0))),
 og 32 29 false (.bin .int .eql (.t 31) (.c (.int .u8 48))),
 og 33 29 false (.move (.t 32)),
 og 34 33 true (.move (.t 0)),
 og 35 33 true (.len .str (.t 34)),
 og 36 33 true (.bin .int .gtr (.t 35) (.c (.int .i64 1))),
 og 37 29 false (.pick (.t 33) (.t 36) (.c (.bool false))),
 oo 38 (.pick (.t 29) (.c (.bool true)) (.t 37))])
 (.cond (.t 38)
 (.seq
 (.reg [oo 2 (.move (.c (.int .i64 0))),
 oo 3 (.move (.c (.int .i64 11)))])
 .ret)
 .skip))
 (.seq
 (.reg [oo 6 (.move (.c (.int .u64 0)))])
 (.seq
 (.reg [oo 7 (.move (.c (.bool true)))])
 (.seq
 .skip
 (.seq
 (.seq
 (.reg [oo 8 (.move (.c (.int .i64 0)))])
 (.block 0
 (.loop
 (.seq
 (.seq
 (.reg [mv 39 8,
 mv 40 4,
 oo 41 (.len .str (.t 40)),
 oo 42 (.bin .int .lss (.t 39) (.t 41))])
 (.cond (.t 42)
 .skip
 (.exit 0)))
 (.seq
 (.block 1
 (.seq
 (.reg [mv 45 4,
 mv 46 8,
 oo 47 (.index (.t 45) (.t 46)),
 mv 9 47])
 (.seq
 (.seq
 (.reg [mv 48 9,
 oo 49 (.bin .int .lss (.t 48) (.c (.int .u8 48))),
 mv 50 49,
 og 51 50 false (.move (.t 9)),
 og 52 50 false (.bin .int .gtr (.t 51) (.c (.int .u8 57))),
 oo 53 (.pick (.t 50) (.c (.bool true)) (.t 52))])
 (.cond (.t 53)
 (.seq
 (.reg [oo 7 (.move (.c (.bool false)))])
 (.exit 0))
 .skip))
 (.reg [mv 54 6,
 oo 55 (.bin .int .mul (.t 54) (.c (.int .u64 10))),
 mv 56 9,
 oo 57 (.bin .int .sub (.t 56) (.c (.int .u8 48))),
 oo 58 (.conv .u64 (.t 57)),
 oo 59 (.bin .int .add (.t 55) (.t 58)),
 mv 6 59]))))
 (.reg [mv 43 8,
 oo 44 (.bin .int .add (.t 43) (.c (.int .i64 1))),
 mv 8 44]))))))
 (.seq
 (.seq
 (.reg [mv 60 7,
 oo 61 (.not (.t 60)),
 mv 62 61,
 og 63 62 false (.move (.t 6)),
 og 64 62 false (.bin .int .gtr (.t 63) (.c (.int .u64 9223372036854775808))),
 oo 65 (.pick (.t 62) (.c (.bool true)) (.t 64)),
 mv 66 65,
 og 67 66 false (.move (.t 6)),
 og 68 66 false (.bin .int .eql (.t 67) (.c (.int .u64 9223372036854775808))),
 og 69 66 false (.move (.t 68)),
 og 70 69 true (.move (.t 5)),
 og 71 69 true (.not (.t 70)),
 og 72 66 false (.pick (.t 69) (.t 71) (.c (.bool false))),
 oo 73 (.pick (.t 66) (.c (.bool true)) (.t 72))])
 (.cond (.t 73)
 (.seq
 (.reg [oo 2 (.move (.c (.int .i64 0))),
 oo 3 (.move (.c (.int .i64 11)))])
 .ret)
 .skip))
 (.seq
 (.seq
 (.reg [mv 74 5])
 (.cond (.t 74)
 (.reg [mv 75 6,
 oo 76 (.neg (.t 75)),
 mv 6 76])
 .skip))
 (.seq
 (.reg [mv 77 6,
 oo 78 (.conv .i64 (.t 77)),
 mv 2 78,
 oo 3 (.move (.c (.int .i64 0)))])
 .ret)))))))))))))
theorem ent171 : EntOK Tryz.prog 171 ⟨79, v171, [.slot 2, .slot 3]⟩ := fun args σ K ha h =>
 enter (own := List.range 79) Tryz.func171 (by kernel_rfl) (by kernel_rfl) (by kernel_rfl) ha h
def v173 : ACode :=
(.seq
 (.reg [oo 2 (.move (.c (.str ⟨#[]⟩)))])
 (.seq
 (.reg [mv 7 0,
 oo 8 (.conv .u64 (.t 7)),
 mv 3 8])
 (.seq
 (.seq
 (.reg [mv 9 0,
 oo 10 (.bin .int .lss (.t 9) (.c (.int .i64 0)))])
 (.cond (.t 10)
 (.reg [mv 11 3,
 oo 12 (.neg (.t 11)),
 mv 3 12])
 .skip))
 (.seq
 (.reg [oo 4 (.move (.c .nils))])
 (.seq
 (.block 0
 (.loop
 (.seq
 (.seq
 (.reg [mv 13 3,
 oo 14 (.bin .int .gtr (.t 13) (.c (.int .u64 0))),
 mv 15 14,
 og 16 15 false (.move (.t 4)),
 og 17 15 false (.len .slice (.t 16)),
 og 18 15 false (.bin .int .eql (.t 17) (.c (.int .i64 0))),
 oo 19 (.pick (.t 15) (.c (.bool true)) (.t 18))])
 (.cond (.t 19)
 .skip
 (.exit 0)))
 (.block 1
 (.seq
 (.reg [mv 20 4,
 mv 21 3,
 oo 22 (.bin .int .rem (.t 21) (.c (.int .u64 10))),
 oo 23 (.bin .int .add (.c (.int .u64 48)) (.t 22)),
 oo 24 (.conv .u8 (.t 23)),
 oo 25 (.lit true 5 1 [(.t 24)]),
 oo 26 (.append 5 1 1 (.t 20) (.t 25)),
 mv 4 26])
 (.reg [mv 27 3,
 oo 28 (.bin .int .quo (.t 27) (.c (.int .u64 10))),
 mv 3 28]))))))
 (.seq
 (.seq
 (.reg [mv 29 0,
 oo 30 (.bin .int .lss (.t 29) (.c (.int .i64 0)))])
 (.cond (.t 30)
 (.reg [mv 31 4,
 oo 32 (.lit true 5 1 [(.c (.int .u8 45))]),
 oo 33 (.append 5 1 1 (.t 31) (.t 32)),
 mv 4 33])
 .skip))
 (.seq
 (.seq
 (.reg [mv 34 4,
 oo 35 (.len .slice (.t 34)),
 oo 36 (.bin .int .sub (.t 35) (.c (.int .i64 1))),
 oo 5 (.move (.c (.int .i64 0))),
 mv 6 36])
 (.block 2
 (.loop
 (.seq
 (.seq
 (.reg [mv 37 5,
 mv 38 6,
 oo 39 (.bin .int .lss (.t 37) (.t 38))])
 (.cond (.t 39)
 .skip
 (.exit 2)))
 (.seq
 (.block 3
 (.reg [mv 44 4,
 mv 45 5,
 mv 46 4,
 mv 47 6,
 mv 48 4,
 mv 49 6,
 oo 50 (.iaddr 1 (.t 48) (.t 49)),
 oo 51 (.load none (.t 50)),
 mv 52 4,
 mv 53 5,
 oo 54 (.iaddr 1 (.t 52) (.t 53)),
 oo 55 (.load none (.t 54)),
 oo 56 (.iaddr 1 (.t 44) (.t 45)),
 ⟨none, .store 1 (.t 56) (.t 51), none⟩,
 oo 57 (.iaddr 1 (.t 46) (.t 47)),
 ⟨none, .store 1 (.t 57) (.t 55), none⟩]))
 (.reg [mv 40 5,
 oo 41 (.bin .int .add (.t 40) (.c (.int .i64 1))),
 mv 42 6,
 oo 43 (.bin .int .sub (.t 42) (.c (.int .i64 1))),
 mv 5 41,
 mv 6 43]))))))
 (.seq
 (.reg [mv 58 4,
 oo 59 (.bstr (.t 58)),
 mv 2 59])
 .ret))))))))
theorem ent173 : EntOK Tryz.prog 173 ⟨60, v173, [.slot 2]⟩ := fun args σ K ha h =>
 enter (own := List.range 60) Tryz.func173 (by kernel_rfl) (by kernel_rfl) (by kernel_rfl) ha h
def v174 : ACode :=
(.seq
 (.reg [oo 6 (.new 28 (.t 1))])
 (.seq
 (.seq
 (.reg [oo 11 (.faddr 0 (.t 6)),
 oo 12 (.load none (.t 11))])
 (.block 0
 (.seq
 (.reg [oo 23 (.bin .int .eql (.t 12) (.c (.int .i64 9))),
 mv 22 23])
 (.cond (.t 22)
 (.seq
 (.reg [mv 24 0,
 oo 25 (.faddr 5 (.t 6)),
 oo 26 (.load none (.t 25)),
 oo 27 (.iaddr 9 (.t 26) (.c (.int .i64 0))),
 oo 28 (.load (some 9) (.t 27)),
 mv 29 2,
 mv 30 3,
 oo 31 (.call 174 [(.t 24), (.t 28), (.t 29), (.t 30), (.c (.bool false))])])
 (.seq
 (.reg [mv 32 0,
 oo 33 (.faddr 5 (.t 6)),
 oo 34 (.load none (.t 33)),
 oo 35 (.iaddr 9 (.t 34) (.c (.int .i64 1))),
 oo 36 (.load (some 9) (.t 35)),
 mv 37 2,
 mv 38 3,
 oo 39 (.bin .int .add (.t 38) (.c (.int .i64 1))),
 oo 40 (.call 174 [(.t 32), (.t 36), (.t 37), (.t 39), (.c (.bool false))])])
 (.reg [mv 41 0,
 oo 42 (.faddr 2 (.t 6)),
 oo 43 (.load none (.t 42)),
 oo 44 (.call 79 [(.t 41), (.c (.int .i64 16)), (.t 43)])])))
 (.seq
 (.reg [oo 46 (.bin .int .eql (.t 12) (.c (.int .i64 7))),
 mv 45 46])
 (.cond (.t 45)
 (.seq
 (.reg [oo 47 (.faddr 7 (.t 6)),
 oo 48 (.load none (.t 47)),
 oo 49 (.len .slice (.t 48)),
 mv 10 49])
 (.seq
 (.reg [mv 50 0,
 oo 51 (.faddr 7 (.t 6)),
 oo 52 (.load none (.t 51)),
 mv 53 2,
 mv 54 3,
 oo 55 (.call 81 [(.t 50), (.t 52), (.t 53), (.t 54)]),
 mv 2 55])
 (.seq
 (.reg [mv 56 0,
 oo 57 (.faddr 5 (.t 6)),
 oo 58 (.load none (.t 57)),
 oo 59 (.iaddr 9 (.t 58) (.c (.int .i64 0))),
 oo 60 (.load (some 9) (.t 59)),
 mv 61 2,
 mv 62 3,
 mv 63 10,
 oo 64 (.bin .int .add (.t 62) (.t 63)),
 mv 65 4,
 oo 66 (.call 174 [(.t 56), (.t 60), (.t 61), (.t 64), (.t 65)])])
 (.seq
 (.seq
 (.reg [mv 67 4,
 oo 68 (.not (.t 67))])
 (.cond (.t 68)
 (.reg [mv 69 0,
 mv 70 10,
 oo 71 (.call 37 [(.t 69), (.c (.int .i64 7)), (.t 70)])])
 .skip))
 .ret))))
 (.seq
 (.reg [oo 73 (.bin .int .eql (.t 12) (.c (.int .i64 8))),
 mv 72 73])
 (.cond (.t 72)
 (.seq
 (.reg [mv 74 0,
 oo 75 (.load (some 9) (.t 6)),
 mv 76 2,
 mv 77 3,
 mv 78 4,
 oo 79 (.call 239 [(.t 74), (.t 75), (.t 76), (.t 77), (.t 78)])])
 .ret)
 (.seq
 (.reg [oo 81 (.bin .int .eql (.t 12) (.c (.int .i64 11))),
 mv 80 81])
 (.cond (.t 80)
 (.seq
 (.reg [mv 82 0,
 oo 83 (.load (some 9) (.t 6)),
 mv 84 2,
 mv 85 3,
 mv 86 4,
 oo 87 (.call 240 [(.t 82), (.t 83), (.t 84), (.t 85), (.t 86)])])
 .ret)
 (.seq
 (.reg [oo 89 (.bin .int .eql (.t 12) (.c (.int .i64 10))),
 mv 88 89])
 (.cond (.t 88)
 (.seq
 (.reg [mv 90 0,
 oo 91 (.call 37 [(.t 90), (.c (.int .i64 17)), (.c (.int .i64 0))])])
 .ret)
 (.seq
 (.reg [oo 93 (.bin .int .eql (.t 12) (.c (.int .i64 3))),
 mv 92 93])
 (.cond (.t 92)
 (.reg [mv 94 0,
 oo 95 (.faddr 2 (.t 6)),
 oo 96 (.load none (.t 95)),
 oo 97 (.call 79 [(.t 94), (.c (.int .i64 3)), (.t 96)])])
 (.seq
 (.reg [mv 13 0,
 oo 14 (.load (some 9) (.t 6)),
 mv 15 2,
 mv 16 3,
 oo 17 (.call 36 [(.t 13), (.t 14), (.t 15), (.t 16)])])
 (.seq
 (.reg [mv 18 4,
 oo 19 (.not (.t 18))])
 (.cond (.t 19)
 (.reg [mv 20 0,
 oo 21 (.call 37 [(.t 20), (.c (.int .i64 9)), (.c (.int .i64 0))])])
 .skip)))))))))))))))))
 (.seq
 (.reg [mv 98 4])
 (.cond (.t 98)
 (.reg [mv 99 0,
 mv 100 3,
 oo 101 (.call 175 [(.t 99), (.t 100)])])
 .skip))))
theorem ent174 : EntOK Tryz.prog 174 ⟨102, v174, []⟩ := fun args σ K ha h =>
 enter (own := List.range 102) Tryz.func174 (by kernel_rfl) (by kernel_rfl) (by kernel_rfl) ha h
def v175 : ACode :=
(.seq
 (.reg [mv 4 0,
 mv 5 1,
 oo 6 (.call 37 [(.t 4), (.c (.int .i64 5)), (.t 5)])])
 (.seq
 (.reg [mv 7 0,
 mv 8 1,
 oo 9 (.call 37 [(.t 7), (.c (.int .i64 6)), (.t 8)])])
 (.reg [mv 10 0,
 oo 11 (.call 37 [(.t 10), (.c (.int .i64 10)), (.c (.int .i64 0))])])))
theorem ent175 : EntOK Tryz.prog 175 ⟨12, v175, []⟩ := fun args σ K ha h =>
 enter (own := List.range 12) Tryz.func175 (by kernel_rfl) (by kernel_rfl) (by kernel_rfl) ha h
def v176 : ACode :=
(.seq
 (.reg [oo 4 (.move (.c (.bool false)))])
 (.seq
 (.reg [mv 5 0,
 mv 6 1,
 oo 7 (.call 241 [(.t 5), (.t 6)]),
 mv 4 7])
 .ret))
theorem ent176 : EntOK Tryz.prog 176 ⟨8, v176, [.slot 4]⟩ := fun args σ K ha h =>
 enter (own := List.range 8) Tryz.func176 (by kernel_rfl) (by kernel_rfl) (by kernel_rfl) ha h
def v182 : ACode :=
(.seq
 (.reg [oo 2 (.move (.c (.int .i64 0)))])
 (.seq
 (.block 0
 (.seq
 (.reg [mv 4 0,
 oo 5 (.bin .int .geq (.t 4) (.c (.int .u8 97))),
 mv 6 5,
 og 7 6 true (.move (.t 0)),
 og 8 6 true (.bin .int .leq (.t 7) (.c (.int .u8 122))),
 oo 9 (.pick (.t 6) (.t 8) (.c (.bool false))),
 mv 10 9,
 og 11 10 false (.move (.t 0)),
 og 12 10 false (.bin .int .eql (.t 11) (.c (.int .u8 95))),
 oo 13 (.pick (.t 10) (.c (.bool true)) (.t 12)),
 mv 3 13])
 (.cond (.t 3)
 (.seq
 (.reg [oo 2 (.move (.c (.int .i64 1)))])
 .ret)
 (.seq
 (.reg [mv 15 0,
 oo 16 (.bin .int .geq (.t 15) (.c (.int .u8 65))),
 mv 17 16,
 og 18 17 true (.move (.t 0)),
 og 19 17 true (.bin .int .leq (.t 18) (.c (.int .u8 90))),
 oo 20 (.pick (.t 17) (.t 19) (.c (.bool false))),
 mv 14 20])
 (.cond (.t 14)
 (.seq
 (.reg [oo 2 (.move (.c (.int .i64 2)))])
 .ret)
 (.seq
 (.reg [mv 22 0,
 oo 23 (.bin .int .geq (.t 22) (.c (.int .u8 48))),
 mv 24 23,
 og 25 24 true (.move (.t 0)),
 og 26 24 true (.bin .int .leq (.t 25) (.c (.int .u8 57))),
 oo 27 (.pick (.t 24) (.t 26) (.c (.bool false))),
 mv 21 27])
 (.cond (.t 21)
 (.seq
 (.reg [oo 2 (.move (.c (.int .i64 3)))])
 .ret)
 .skip)))))))
 (.seq
 (.seq
 (.reg [mv 28 0])
 (.block 1
 (.seq
 (.seq
 (.reg [oo 30 (.bin .int .eql (.t 28) (.c (.int .u8 40))),
 mv 29 30])
 (.cond (.t 29)
 .skip
 (.seq
 (.reg [oo 31 (.bin .int .eql (.t 28) (.c (.int .u8 41))),
 mv 29 31])
 (.cond (.t 29)
 .skip
 (.seq
 (.reg [oo 32 (.bin .int .eql (.t 28) (.c (.int .u8 123))),
 mv 29 32])
 (.cond (.t 29)
 .skip
 (.seq
 (.reg [oo 33 (.bin .int .eql (.t 28) (.c (.int .u8 125))),
 mv 29 33])
 (.cond (.t 29)
 .skip
 (.seq
 (.reg [oo 34 (.bin .int .eql (.t 28) (.c (.int .u8 59))),
 mv 29 34])
 (.cond (.t 29)
 .skip
 (.reg [oo 35 (.bin .int .eql (.t 28) (.c (.int .u8 92))),
 mv 29 35])))))))))))
 (.cond (.t 29)
 (.seq
 (.reg [oo 2 (.move (.c (.int .i64 4)))])
 .ret)
 (.seq
 (.seq
 (.reg [oo 37 (.bin .int .eql (.t 28) (.c (.int .u8 33))),
 mv 36 37])
 (.cond (.t 36)
 .skip
 (.seq
 (.reg [oo 38 (.bin .int .eql (.t 28) (.c (.int .u8 35))),
 mv 36 38])
 (.cond (.t 36)
 .skip
 (.seq
 (.reg [oo 39 (.bin .int .eql (.t 28) (.c (.int .u8 36))),
 mv 36 39])
 (.cond (.t 36)
 .skip
 (.seq
 (.reg [oo 40 (.bin .int .eql (.t 28) (.c (.int .u8 37))),
 mv 36 40])
 (.cond (.t 36)
 .skip
 (.seq
 (.reg [oo 41 (.bin .int .eql (.t 28) (.c (.int .u8 38))),
 mv 36 41])
 (.cond (.t 36)
 .skip
 (.seq
 (.reg [oo 42 (.bin .int .eql (.t 28) (.c (.int .u8 42))),
 mv 36 42])
 (.cond (.t 36)
 .skip
 (.seq
 (.reg [oo 43 (.bin .int .eql (.t 28) (.c (.int .u8 43))),
 mv 36 43])
 (.cond (.t 36)
 .skip
 (.seq
 (.reg [oo 44 (.bin .int .eql (.t 28) (.c (.int .u8 46))),
 mv 36 44])
 (.cond (.t 36)
 .skip
 (.seq
 (.reg [oo 45 (.bin .int .eql (.t 28) (.c (.int .u8 47))),
 mv 36 45])
 (.cond (.t 36)
 .skip
 (.seq
 (.reg [oo 46 (.bin .int .eql (.t 28) (.c (.int .u8 58))),
 mv 36 46])
 (.cond (.t 36)
 .skip
 (.seq
 (.reg [oo 47 (.bin .int .eql (.t 28) (.c (.int .u8 60))),
 mv 36 47])
 (.cond (.t 36)
 .skip
 (.seq
 (.reg [oo 48 (.bin .int .eql (.t 28) (.c (.int .u8 61))),
 mv 36 48])
 (.cond (.t 36)
 .skip
 (.seq
 (.reg [oo 49 (.bin .int .eql (.t 28) (.c (.int .u8 62))),
 mv 36 49])
 (.cond (.t 36)
 .skip
 (.seq
 (.reg [oo 50 (.bin .int .eql (.t 28) (.c (.int .u8 63))),
 mv 36 50])
 (.cond (.t 36)
 .skip
 (.seq
 (.reg [oo 51 (.bin .int .eql (.t 28) (.c (.int .u8 64))),
 mv 36 51])
 (.cond (.t 36)
 .skip
 (.seq
 (.reg [oo 52 (.bin .int .eql (.t 28) (.c (.int .u8 94))),
 mv 36 52])
 (.cond (.t 36)
 .skip
 (.seq
 (.reg [oo 53 (.bin .int .eql (.t 28) (.c (.int .u8 124))),
 mv 36 53])
 (.cond (.t 36)
 .skip
 (.seq
 (.reg [oo 54 (.bin .int .eql (.t 28) (.c (.int .u8 126))),
 mv 36 54])
 (.cond (.t 36)
 .skip
 (.reg [oo 55 (.bin .int .eql (.t 28) (.c (.int .u8 45))),
 mv 36 55])))))))))))))))))))))))))))))))))))))
 (.cond (.t 36)
 (.seq
 (.reg [oo 2 (.move (.c (.int .i64 5)))])
 .ret)
 .skip))))))
 (.seq
 (.reg [oo 2 (.move (.c (.int .i64 0)))])
 .ret))))
theorem ent182 : EntOK Tryz.prog 182 ⟨56, v182, [.slot 2]⟩ := fun args σ K ha h =>
 enter (own := List.range 56) Tryz.func182 (by kernel_rfl) (by kernel_rfl) (by kernel_rfl) ha h
def v183 : ACode :=
(.seq
 (.reg [oo 4 (.move (.c (.bool false)))])
 (.seq
 (.reg [mv 6 1,
 oo 7 (.call 182 [(.t 6)]),
 mv 5 7])
 (.seq
 (.seq
 (.reg [mv 8 0])
 (.block 0
 (.seq
 (.seq
 (.reg [oo 10 (.bin .int .eql (.t 8) (.c (.int .i64 1))),
 mv 9 10])
 (.cond (.t 9)
 .skip
 (.reg [oo 11 (.bin .int .eql (.t 8) (.c (.int .i64 2))),
 mv 9 11])))
 (.cond (.t 9)
 (.seq
 (.reg [mv 12 5,
 oo 13 (.bin .int .eql (.t 12) (.c (.int .i64 1))),
 mv 14 13,
 og 15 14 false (.move (.t 5)),
 og 16 14 false (.bin .int .eql (.t 15) (.c (.int .i64 2))),
 oo 17 (.pick (.t 14) (.c (.bool true)) (.t 16)),
 mv 18 17,
 og 19 18 false (.move (.t 5)),
 og 20 18 false (.bin .int .eql (.t 19) (.c (.int .i64 3))),
 oo 21 (.pick (.t 18) (.c (.bool true)) (.t 20)),
 mv 22 21,
 og 23 22 false (.move (.t 1)),
 og 24 22 false (.bin .int .eql (.t 23) (.c (.int .u8 39))),
 oo 25 (.pick (.t 22) (.c (.bool true)) (.t 24)),
 mv 4 25])
 .ret)
 (.seq
 (.seq
 (.reg [oo 27 (.bin .int .eql (.t 8) (.c (.int .i64 3))),
 mv 26 27])
 (.cond (.t 26)
 .skip
 (.reg [oo 28 (.bin .int .eql (.t 8) (.c (.int .i64 5))),
 mv 26 28])))
 (.cond (.t 26)
 (.seq
 (.reg [mv 29 5,
 mv 30 0,
 oo 31 (.bin .int .eql (.t 29) (.t 30)),
 mv 4 31])
 .ret)
 .skip))))))
 (.seq
 (.reg [oo 4 (.move (.c (.bool false)))])
 .ret))))
theorem ent183 : EntOK Tryz.prog 183 ⟨32, v183, [.slot 4]⟩ := fun args σ K ha h =>
 enter (own := List.range 32) Tryz.func183 (by kernel_rfl) (by kernel_rfl) (by kernel_rfl) ha h
def v184 : ACode :=
(.seq
 (.reg [oo 4 (.move (.c (.int .i64 0)))])
 (.seq
 (.seq
 (.reg [mv 5 0])
 (.block 0
 (.seq
 (.reg [oo 7 (.bin .int .eql (.t 5) (.c (.int .i64 2))),
 mv 6 7])
 (.cond (.t 6)
 (.seq
 (.reg [oo 4 (.move (.c (.int .i64 2)))])
 .ret)
 (.seq
 (.reg [oo 9 (.bin .int .eql (.t 5) (.c (.int .i64 3))),
 mv 8 9])
 (.cond (.t 8)
 (.seq
 (.reg [oo 4 (.move (.c (.int .i64 4)))])
 .ret)
 (.seq
 (.reg [oo 11 (.bin .int .eql (.t 5) (.c (.int .i64 5))),
 mv 10 11])
 (.cond (.t 10)
 (.seq
 (.seq
 (.reg [mv 12 1,
 oo 13 (.bin .str .eql (.t 12) (.c (.str ⟨#[61]⟩))),
 mv 14 13,
 og 15 14 false (.move (.t 1)),
 og 16 14 false (.bin .str .eql (.t 15) (.c (.str ⟨#[124]⟩))),
 oo 17 (.pick (.t 14) (.c (.bool true)) (.t 16)),
 mv 18 17,
 og 19 18 false (.move (.t 1)),
 og 20 18 false (.bin .str .eql (.t 19) (.c (.str ⟨#[45, 62]⟩))),
 oo 21 (.pick (.t 18) (.c (.bool true)) (.t 20))])
 (.cond (.t 21)
 (.seq
 (.reg [oo 4 (.move (.c (.int .i64 5)))])
 .ret)
 .skip))
 (.seq
 (.reg [oo 4 (.move (.c (.int .i64 3)))])
 .ret))
 (.seq
 (.reg [oo 23 (.bin .int .eql (.t 5) (.c (.int .i64 1))),
 mv 22 23])
 (.cond (.t 22)
 (.seq
 (.seq
 (.reg [mv 24 1,
 oo 25 (.bin .str .eql (.t 24) (.c (.str ⟨#[95]⟩)))])
 (.cond (.t 25)
 (.seq
 (.reg [oo 4 (.move (.c (.int .i64 5)))])
 .ret)
 .skip))
 (.seq
 (.seq
 (.reg [mv 26 1,
 oo 27 (.call 245 [(.t 26)])])
 (.cond (.t 27)
 (.seq
 (.reg [oo 4 (.move (.c (.int .i64 6)))])
 .ret)
 .skip))
 (.seq
 (.reg [oo 4 (.move (.c (.int .i64 1)))])
 .ret)))
 .skip))))))))))
 (.seq
 (.reg [oo 4 (.move (.c (.int .i64 5)))])
 .ret)))
theorem ent184 : EntOK Tryz.prog 184 ⟨28, v184, [.slot 4]⟩ := fun args σ K ha h =>
 enter (own := List.range 28) Tryz.func184 (by kernel_rfl) (by kernel_rfl) (by kernel_rfl) ha h
def v185 : ACode :=
(.seq
 (.reg [oo 2 (.move (.c (.int .i64 0))),
 oo 3 (.move (.c (.int .i64 0)))])
 (.seq
 (.seq
 (.reg [mv 4 0,
 oo 5 (.bin .str .eql (.t 4) (.c (.str ⟨#[57, 50, 50, 51, 51, 55, 50, 48, 51, 54, 56, 53, 52, 55, 55, 53, 56, 48, 56]⟩)))])
 (.cond (.t 5)
 (.seq
 (.reg [mv 6 0,
 oo 7 (.bin .str .add (.c (.str ⟨#[45]⟩)) (.t 6)),
 oo 8 (.call 171 [(.t 7)]),
 oo 9 (.extract (.t 8) 0),
 oo 10 (.extract (.t 8) 1),
 mv 2 9,
 mv 3 10])
 .ret)
 .skip))
 (.seq
 (.reg [mv 11 0,
 oo 12 (.call 171 [(.t 11)]),
 oo 13 (.extract (.t 12) 0),
 oo 14 (.extract (.t 12) 1),
 mv 2 13,
 mv 3 14])
 .ret)))
theorem ent185 : EntOK Tryz.prog 185 ⟨15, v185, [.slot 2, .slot 3]⟩ := fun args σ K ha h =>
 enter (own := List.range 15) Tryz.func185 (by kernel_rfl) (by kernel_rfl) (by kernel_rfl) ha h
def v186 : ACode :=
(.seq
 (.reg [oo 2 (.move (.c (.int .i64 0)))])
 (.seq
 (.reg [mv 4 0,
 oo 5 (.call 189 [(.t 4)]),
 mv 3 5])
 (.seq
 (.seq
 (.reg [mv 6 3,
 oo 7 (.bin .int .lss (.t 6) (.c (.int .i64 0))),
 mv 8 7,
 og 9 8 false (.move (.t 0)),
 og 10 8 false (.nilck (.t 9)),
 og 11 8 false (.faddr 1 (.t 10)),
 og 12 8 false (.load none (.t 11)),
 og 13 8 false (.move (.t 3)),
 og 14 8 false (.iaddr 2 (.t 12) (.t 13)),
 og 15 8 false (.faddr 0 (.t 14)),
 og 16 8 false (.load none (.t 15)),
 og 17 8 false (.bin .int .eql (.t 16) (.c (.int .i64 1))),
 oo 18 (.pick (.t 8) (.c (.bool true)) (.t 17))])
 (.cond (.t 18)
 (.seq
 (.reg [oo 2 (.move (.c (.int .i64 0)))])
 .ret)
 .skip))
 (.seq
 (.reg [mv 19 0,
 oo 20 (.nilck (.t 19)),
 oo 21 (.faddr 1 (.t 20)),
 oo 22 (.load none (.t 21)),
 mv 23 3,
 oo 24 (.iaddr 2 (.t 22) (.t 23)),
 oo 25 (.faddr 1 (.t 24)),
 oo 26 (.load none (.t 25)),
 mv 2 26])
 .ret))))
theorem ent186 : EntOK Tryz.prog 186 ⟨27, v186, [.slot 2]⟩ := fun args σ K ha h =>
 enter (own := List.range 27) Tryz.func186 (by kernel_rfl) (by kernel_rfl) (by kernel_rfl) ha h
def v187 : ACode :=
(.reg [mv 6 0,
 mv 7 0,
 oo 8 (.nilck (.t 7)),
 oo 9 (.faddr 1 (.t 8)),
 oo 10 (.load none (.t 9)),
 mv 11 1,
 mv 12 2,
 oo 13 (.build [(.int .i64 0), (.int .i64 0)] [(0, 1, (.t 11)), (1, 1, (.t 12))]),
 oo 14 (.lit true 287 2 [(.t 13)]),
 oo 15 (.append 287 2 16 (.t 10) (.t 14)),
 oo 16 (.nilck (.t 6)),
 oo 17 (.faddr 1 (.t 16)),
 ⟨none, .store 1 (.t 17) (.t 15), none⟩])
theorem ent187 : EntOK Tryz.prog 187 ⟨18, v187, []⟩ := fun args σ K ha h =>
 enter (own := List.range 18) Tryz.func187 (by kernel_rfl) (by kernel_rfl) (by kernel_rfl) ha h
def v189 : ACode :=
(.seq
 (.reg [oo 2 (.move (.c (.int .i64 0)))])
 (.seq
 (.seq
 (.reg [mv 5 0,
 oo 6 (.nilck (.t 5)),
 oo 7 (.faddr 1 (.t 6)),
 oo 8 (.load none (.t 7)),
 oo 9 (.len .slice (.t 8)),
 oo 10 (.bin .int .sub (.t 9) (.c (.int .i64 1))),
 mv 3 10])
 (.block 0
 (.loop
 (.seq
 (.seq
 (.reg [mv 11 3,
 oo 12 (.bin .int .geq (.t 11) (.c (.int .i64 0)))])
 (.cond (.t 12)
 .skip
 (.exit 0)))
 (.seq
 (.block 1
 (.seq
 (.reg [mv 15 0,
 oo 16 (.nilck (.t 15)),
 oo 17 (.faddr 1 (.t 16)),
 oo 18 (.load none (.t 17)),
 mv 19 3,
 oo 20 (.iaddr 2 (.t 18) (.t 19)),
 oo 21 (.faddr 0 (.t 20)),
 oo 22 (.load none (.t 21)),
 mv 4 22])
 (.seq
 (.reg [mv 23 4,
 oo 24 (.bin .int .eql (.t 23) (.c (.int .i64 0))),
 mv 25 24,
 og 26 25 false (.move (.t 4)),
 og 27 25 false (.bin .int .eql (.t 26) (.c (.int .i64 1))),
 oo 28 (.pick (.t 25) (.c (.bool true)) (.t 27))])
 (.cond (.t 28)
 (.seq
 (.reg [mv 29 3,
 mv 2 29])
 .ret)
 .skip))))
 (.reg [mv 13 3,
 oo 14 (.bin .int .sub (.t 13) (.c (.int .i64 1))),
 mv 3 14]))))))
 (.seq
 (.reg [oo 2 (.move (.c (.int .i64 (-1))))])
 .ret)))
theorem ent189 : EntOK Tryz.prog 189 ⟨30, v189, [.slot 2]⟩ := fun args σ K ha h =>
 enter (own := List.range 30) Tryz.func189 (by kernel_rfl) (by kernel_rfl) (by kernel_rfl) ha h
def v194 : ACode :=
(.seq
 (.reg [oo 2 (.move (.c (.int .i64 0))),
 oo 3 (.new 80 (.c (.agg [(.int .i64 0), (.int .i64 0)])))])
 (.seq
 (.seq
 (.reg [mv 5 0,
 oo 6 (.call 142 [(.t 5)]),
 oo 7 (.field 2 none (.t 6)),
 oo 8 (.bin .int .lss (.t 7) (.c (.int .i64 0)))])
 (.cond (.t 8)
 (.reg [mv 9 0,
 oo 10 (.call 98 [(.t 9), (.c (.int .i64 11))])])
 .skip))
 (.seq
 (.reg [mv 11 0,
 oo 12 (.call 97 [(.t 11)]),
 oo 4 (.new 132 (.c (.agg [(.int .i64 0), (.str ⟨#[]⟩), (.int .i64 0), (.int .i64 0), (.int .i64 0), (.bool false)]))),
 ⟨none, .store 6 (.t 4) (.t 12), none⟩])
 (.seq
 (.reg [oo 13 (.faddr 2 (.t 4)),
 oo 14 (.load none (.t 13)),
 oo 15 (.faddr 3 (.t 4)),
 oo 16 (.load (some 2) (.t 15)),
 mv 2 14,
 ⟨none, .store 2 (.t 3) (.t 16), none⟩])
 .ret))))
theorem ent194 : EntOK Tryz.prog 194 ⟨17, v194, [.slot 2, .cell 3 (some 2)]⟩ := fun args σ K ha h =>
 enter (own := List.range 17) Tryz.func194 (by kernel_rfl) (by kernel_rfl) (by kernel_rfl) ha h
def v199 : ACode :=
(.seq
 (.reg [oo 2 (.new 297 (.c (.agg [(.int .i64 0), (.str ⟨#[]⟩), (.int .i64 0), .nils, .nils, .nils, .nils, (.int .i64 0), (.int .i64 0)])))])
 (.seq
 (.reg [mv 6 0,
 oo 7 (.call 247 [(.t 6)]),
 oo 3 (.new 297 (.c (.agg [(.int .i64 0), (.str ⟨#[]⟩), (.int .i64 0), .nils, .nils, .nils, .nils, (.int .i64 0), (.int .i64 0)]))),
 ⟨none, .store 9 (.t 3) (.t 7), none⟩])
 (.seq
 (.seq
 (.reg [mv 8 0,
 oo 9 (.call 144 [(.t 8), (.c (.int .i64 3))]),
 oo 10 (.not (.t 9))])
 (.cond (.t 10)
 (.seq
 (.reg [oo 11 (.load (some 9) (.t 3)),
 ⟨none, .store 9 (.t 2) (.t 11), none⟩])
 .ret)
 .skip))
 (.seq
 (.reg [oo 12 (.load (some 9) (.t 3)),
 oo 13 (.lit true 297 9 [(.t 12)]),
 oo 14 (.build [(.int .i64 0), (.str ⟨#[]⟩), (.int .i64 0), .nils, .nils, .nils, .nils, (.int .i64 0), (.int .i64 0)] [(0, 1, (.c (.int .i64 (-1)))), (4, 1, (.t 13))]),
 oo 4 (.new 297 (.c (.agg [(.int .i64 0), (.str ⟨#[]⟩), (.int .i64 0), .nils, .nils, .nils, .nils, (.int .i64 0), (.int .i64 0)]))),
 ⟨none, .store 9 (.t 4) (.t 14), none⟩])
 (.seq
 (.block 0
 (.loop
 (.seq
 (.seq
 (.reg [mv 15 0,
 oo 16 (.call 144 [(.t 15), (.c (.int .i64 3))])])
 (.cond (.t 16)
 .skip
 (.exit 0)))
 (.block 1
 (.seq
 (.reg [mv 17 0,
 oo 18 (.call 97 [(.t 17)]),
 oo 5 (.new 132 (.c (.agg [(.int .i64 0), (.str ⟨#[]⟩), (.int .i64 0), (.int .i64 0), (.int .i64 0), (.bool false)]))),
 ⟨none, .store 6 (.t 5) (.t 18), none⟩])
 (.seq
 (.reg [oo 19 (.faddr 6 (.t 4)),
 oo 20 (.load none (.t 19)),
 oo 21 (.faddr 1 (.t 5)),
 oo 22 (.load none (.t 21)),
 oo 23 (.faddr 3 (.t 5)),
 oo 24 (.load (some 2) (.t 23)),
 oo 25 (.build [(.str ⟨#[]⟩), .nils, (.int .i64 0), (.int .i64 0)] [(0, 1, (.t 22)), (2, 2, (.t 24))]),
 oo 26 (.lit true 151 4 [(.t 25)]),
 oo 27 (.append 151 4 56 (.t 20) (.t 26)),
 oo 28 (.faddr 6 (.t 4)),
 ⟨none, .store 1 (.t 28) (.t 27), none⟩])
 (.draw [] [([⟨(some 29), .faddr 4 (.t 4), none⟩], []),
 ([⟨(some 30), .load none (.t 29), none⟩], []),
 ([⟨(some 31), .move (.t 0), none⟩], []),
 ([⟨(some 32), .call 247 [(.t 31)], none⟩], [⟨(some 29), .faddr 4 (.t 4), none⟩, ⟨(some 30), .load none (.t 29), none⟩]),
 ([⟨(some 33), .lit true 297 9 [(.t 32)], none⟩], [⟨(some 29), .faddr 4 (.t 4), none⟩, ⟨(some 30), .load none (.t 29), none⟩]),
 ([⟨(some 34), .append 297 9 144 (.t 30) (.t 33), none⟩], []),
 ([⟨(some 35), .faddr 4 (.t 4), none⟩], []),
 ([⟨none, .store 1 (.t 35) (.t 34), none⟩], [])])))))))
 (.seq
 (.reg [oo 36 (.load (some 9) (.t 4)),
 ⟨none, .store 9 (.t 2) (.t 36), none⟩])
 .ret))))))
theorem ent199 : EntOK Tryz.prog 199 ⟨37, v199, [.cell 2 (some 9)]⟩ := fun args σ K ha h =>
 enter (own := List.range 37) Tryz.func199 (by kernel_rfl) (by kernel_rfl) (by kernel_rfl) ha h
def v200 : ACode :=
(.seq
 (.reg [oo 3 (.new 297 (.t 1)),
 oo 4 (.new 297 (.c (.agg [(.int .i64 0), (.str ⟨#[]⟩), (.int .i64 0), .nils, .nils, .nils, .nils, (.int .i64 0), (.int .i64 0)])))])
 (.seq
 (.reg [mv 10 0,
 oo 11 (.load (some 9) (.t 3)),
 oo 12 (.call 248 [(.t 10), (.t 11)]),
 oo 5 (.new 404 (.c .nils)),
 ⟨none, .store 1 (.t 5) (.t 12), none⟩])
 (.seq
 (.seq
 (.reg [mv 13 0,
 oo 14 (.nilck (.t 13)),
 oo 15 (.faddr 1 (.t 14)),
 oo 16 (.load none (.t 15))])
 (.cond (.t 16)
 (.seq
 (.reg [oo 17 (.load (some 9) (.t 3)),
 ⟨none, .store 9 (.t 4) (.t 17), none⟩])
 .ret)
 .skip))
 (.seq
 (.reg [oo 6 (.new 294 (.c .nils))])
 (.seq
 (.seq
 (.reg [oo 18 (.faddr 4 (.t 3)),
 oo 19 (.load none (.t 18)),
 oo 20 (.len .slice (.t 19)),
 oo 21 (.move (.c (.int .i64 0)))])
 (.block 0
 (.loop
 (.seq
 (.reg [oo 22 (.bin .int .lss (.t 21) (.t 20))])
 (.seq
 (.cond (.t 22)
 .skip
 (.exit 0))
 (.seq
 (.block 1
 (.seq
 (.reg [oo 23 (.iaddr 9 (.t 19) (.t 21)),
 oo 24 (.load (some 9) (.t 23)),
 oo 8 (.new 297 (.c (.agg [(.int .i64 0), (.str ⟨#[]⟩), (.int .i64 0), .nils, .nils, .nils, .nils, (.int .i64 0), (.int .i64 0)]))),
 ⟨none, .store 9 (.t 8) (.t 24), none⟩])
 (.perm [([⟨(some 25), .load none (.t 6), none⟩], []),
 ([⟨(some 26), .move (.t 0), none⟩], []),
 ([⟨(some 27), .load (some 9) (.t 8), none⟩], []),
 ([⟨(some 29), .len .slice (.t 25), none⟩], []),
 ([⟨(some 30), .lit false 297 9 [(.c (.agg [(.int .i64 0), (.str ⟨#[]⟩), (.int .i64 0), .nils, .nils, .nils, .nils, (.int .i64 0), (.int .i64 0)]))], none⟩], []),
 ([⟨(some 28), .call 149 [(.t 26), (.t 27)], none⟩], [⟨(some 25), .load none (.t 6), none⟩]),
 ([⟨(some 31), .append 297 9 144 (.t 25) (.t 30), none⟩], []),
 ([⟨(some 32), .iaddr 9 (.t 31) (.t 29), none⟩], [])] [(8, [⟨none, .store 9 (.t 32) (.t 28), none⟩], []),
 (9, [⟨none, .store 1 (.t 6) (.t 31), none⟩], [⟨(some 32), .iaddr 9 (.t 31) (.t 29), none⟩])] [])))
 (.reg [oo 33 (.bin .int .add (.t 21) (.c (.int .i64 1))),
 mv 21 33])))))))
 (.seq
 (.reg [oo 9 (.new 406 (.c .nilf))])
 (.seq
 (.reg [oo 34 (.mkfn (.func 249) [] [(.t 5), (.t 3), (.t 9), (.t 6)]),
 ⟨none, .store 1 (.t 9) (.t 34), none⟩])
 (.seq
 (.reg [oo 35 (.load none (.t 9)),
 oo 36 (.load none (.t 6)),
 oo 37 (.len .slice (.t 36)),
 oo 38 (.bin .int .sub (.t 37) (.c (.int .i64 1))),
 oo 39 (.callv (.t 35) [(.c (.int .i64 0)), (.t 38)]),
 ⟨none, .store 9 (.t 4) (.t 39), none⟩])
 .ret))))))))
theorem ent200 : EntOK Tryz.prog 200 ⟨40, v200, [.cell 4 (some 9)]⟩ := fun args σ K ha h =>
 enter (own := []) Tryz.func200 (by kernel_rfl) (by kernel_rfl) (by kernel_rfl) ha h
def v201 : ACode :=
(.seq
 (.reg [oo 4 (.move (.c (.bool false)))])
 (.seq
 (.seq
 (.reg [mv 7 0,
 oo 8 (.len .slice (.t 7)),
 oo 9 (.move (.c (.int .i64 0)))])
 (.block 0
 (.loop
 (.seq
 (.reg [oo 10 (.bin .int .lss (.t 9) (.t 8))])
 (.seq
 (.cond (.t 10)
 .skip
 (.exit 0))
 (.seq
 (.block 1
 (.seq
 (.reg [oo 11 (.iaddr 5 (.t 7) (.t 9)),
 oo 12 (.load (some 5) (.t 11)),
 oo 6 (.new 158 (.c (.agg [(.str ⟨#[]⟩), .nils, .nils, (.int .i64 0), (.int .i64 0)]))),
 ⟨none, .store 5 (.t 6) (.t 12), none⟩])
 (.seq
 (.reg [mv 13 1,
 oo 14 (.load (some 5) (.t 6)),
 oo 15 (.callv (.t 13) [(.t 14)]),
 oo 16 (.not (.t 15))])
 (.cond (.t 16)
 (.seq
 (.reg [oo 4 (.move (.c (.bool false)))])
 .ret)
 .skip))))
 (.reg [oo 17 (.bin .int .add (.t 9) (.c (.int .i64 1))),
 mv 9 17])))))))
 (.seq
 (.reg [oo 4 (.move (.c (.bool true)))])
 .ret)))
theorem ent201 : EntOK Tryz.prog 201 ⟨18, v201, [.slot 4]⟩ := fun args σ K ha h =>
 enter (own := List.range 18) Tryz.func201 (by kernel_rfl) (by kernel_rfl) (by kernel_rfl) ha h
def v203 : ACode :=
(.seq
 (.reg [oo 4 (.move (.c (.bool false)))])
 (.seq
 (.seq
 (.reg [mv 7 0,
 oo 8 (.len .slice (.t 7)),
 oo 9 (.move (.c (.int .i64 0)))])
 (.block 0
 (.loop
 (.seq
 (.reg [oo 10 (.bin .int .lss (.t 9) (.t 8))])
 (.seq
 (.cond (.t 10)
 .skip
 (.exit 0))
 (.seq
 (.block 1
 (.seq
 (.reg [oo 11 (.iaddr 5 (.t 7) (.t 9)),
 oo 12 (.load (some 5) (.t 11)),
 oo 6 (.new 219 (.c (.agg [(.str ⟨#[]⟩), (.int .i64 0), (.int .i64 0), (.int .i64 0), (.int .i64 0)]))),
 ⟨none, .store 5 (.t 6) (.t 12), none⟩])
 (.seq
 (.reg [mv 13 1,
 oo 14 (.load (some 5) (.t 6)),
 oo 15 (.callv (.t 13) [(.t 14)]),
 oo 16 (.not (.t 15))])
 (.cond (.t 16)
 (.seq
 (.reg [oo 4 (.move (.c (.bool false)))])
 .ret)
 .skip))))
 (.reg [oo 17 (.bin .int .add (.t 9) (.c (.int .i64 1))),
 mv 9 17])))))))
 (.seq
 (.reg [oo 4 (.move (.c (.bool true)))])
 .ret)))
theorem ent203 : EntOK Tryz.prog 203 ⟨18, v203, [.slot 4]⟩ := fun args σ K ha h =>
 enter (own := List.range 18) Tryz.func203 (by kernel_rfl) (by kernel_rfl) (by kernel_rfl) ha h
def v205 : ACode :=
(.seq
 (.reg [oo 2 (.move (.c (.bool false)))])
 (.seq
 (.seq
 (.reg [mv 7 0,
 oo 8 (.len .slice (.t 7)),
 oo 9 (.move (.c (.int .i64 0)))])
 (.block 0
 (.loop
 (.seq
 (.reg [oo 10 (.bin .int .lss (.t 9) (.t 8))])
 (.seq
 (.cond (.t 10)
 .skip
 (.exit 0))
 (.seq
 (.block 1
 (.seq
 (.reg [mv 11 9,
 oo 12 (.iaddr 4 (.t 7) (.t 9)),
 oo 13 (.load (some 4) (.t 12)),
 oo 4 (.new 151 (.c (.agg [(.str ⟨#[]⟩), .nils, (.int .i64 0), (.int .i64 0)]))),
 mv 3 11,
 ⟨none, .store 4 (.t 4) (.t 13), none⟩])
 (.seq
 (.seq
 (.reg [mv 14 3,
 oo 15 (.bin .int .gtr (.t 14) (.c (.int .i64 0))),
 mv 16 15,
 og 17 16 true (.move (.t 0)),
 og 18 16 true (.move (.t 3)),
 og 19 16 true (.bin .int .sub (.t 18) (.c (.int .i64 1))),
 og 20 16 true (.iaddr 4 (.t 17) (.t 19)),
 og 21 16 true (.faddr 0 (.t 20)),
 og 22 16 true (.load none (.t 21)),
 og 23 16 true (.faddr 0 (.t 4)),
 og 24 16 true (.load none (.t 23)),
 og 25 16 true (.bin .str .eql (.t 22) (.t 24)),
 oo 26 (.pick (.t 16) (.t 25) (.c (.bool false))),
 mv 27 26,
 og 28 27 false (.faddr 0 (.t 4)),
 og 29 27 false (.load none (.t 28)),
 og 30 27 false (.call 257 [(.t 29)]),
 og 31 27 false (.not (.t 30)),
 oo 32 (.pick (.t 27) (.c (.bool true)) (.t 31)),
 mv 33 32,
 og 34 33 false (.faddr 1 (.t 4)),
 og 35 33 false (.load none (.t 34)),
 og 36 33 false (.len .slice (.t 35)),
 og 37 33 false (.bin .int .eql (.t 36) (.c (.int .i64 0))),
 oo 38 (.pick (.t 33) (.c (.bool true)) (.t 37))])
 (.cond (.t 38)
 (.seq
 (.reg [oo 2 (.move (.c (.bool false)))])
 .ret)
 .skip))
 (.seq
 (.reg [oo 39 (.faddr 1 (.t 4)),
 oo 40 (.load none (.t 39)),
 oo 41 (.len .slice (.t 40)),
 oo 42 (.move (.c (.int .i64 0)))])
 (.block 2
 (.loop
 (.seq
 (.reg [oo 43 (.bin .int .lss (.t 42) (.t 41))])
 (.seq
 (.cond (.t 43)
 .skip
 (.exit 2))
 (.seq
 (.block 3
 (.seq
 (.reg [oo 44 (.iaddr 2 (.t 40) (.t 42)),
 oo 45 (.load (some 2) (.t 44)),
 oo 6 (.new 224 (.c (.agg [.nils, .nils]))),
 ⟨none, .store 2 (.t 6) (.t 45), none⟩])
 (.seq
 (.reg [oo 46 (.faddr 0 (.t 6)),
 oo 47 (.load none (.t 46)),
 oo 48 (.call 258 [(.t 47), (.c (.fn (.func 259) [] []))]),
 oo 49 (.not (.t 48)),
 mv 50 49,
 og 51 50 false (.faddr 1 (.t 6)),
 og 52 50 false (.load none (.t 51)),
 og 53 50 false (.call 260 [(.t 52)]),
 og 54 50 false (.not (.t 53)),
 oo 55 (.pick (.t 50) (.c (.bool true)) (.t 54))])
 (.cond (.t 55)
 (.seq
 (.reg [oo 2 (.move (.c (.bool false)))])
 .ret)
 .skip))))
 (.reg [oo 56 (.bin .int .add (.t 42) (.c (.int .i64 1))),
 mv 42 56]))))))))))
 (.reg [oo 57 (.bin .int .add (.t 9) (.c (.int .i64 1))),
 mv 9 57])))))))
 (.seq
 (.reg [oo 2 (.move (.c (.bool true)))])
 .ret)))
theorem ent205 : EntOK Tryz.prog 205 ⟨58, v205, [.slot 2]⟩ := fun args σ K ha h =>
 enter (own := List.range 58) Tryz.func205 (by kernel_rfl) (by kernel_rfl) (by kernel_rfl) ha h
def v206 : ACode :=
(.seq
 (.reg [mv 7 0,
 oo 8 (.nilck (.t 7)),
 oo 9 (.faddr 1 (.t 8)),
 oo 10 (.load none (.t 9)),
 oo 11 (.len .slice (.t 10)),
 mv 6 11])
 (.seq
 (.reg [mv 12 0,
 mv 13 0,
 oo 14 (.nilck (.t 13)),
 oo 15 (.faddr 1 (.t 14)),
 oo 16 (.load none (.t 15)),
 mv 17 1,
 oo 18 (.append 9 1 16 (.t 16) (.t 17)),
 oo 19 (.nilck (.t 12)),
 oo 20 (.faddr 1 (.t 19)),
 ⟨none, .store 1 (.t 20) (.t 18), none⟩])
 (.seq
 (.reg [mv 21 2,
 oo 22 (.callv (.t 21) [])])
 (.reg [mv 23 0,
 mv 24 0,
 oo 25 (.nilck (.t 24)),
 oo 26 (.faddr 1 (.t 25)),
 oo 27 (.load none (.t 26)),
 mv 28 6,
 oo 29 (.cut .slice 1 (.t 27) none (some (.t 28))),
 oo 30 (.nilck (.t 23)),
 oo 31 (.faddr 1 (.t 30)),
 ⟨none, .store 1 (.t 31) (.t 29), none⟩]))))
theorem ent206 : EntOK Tryz.prog 206 ⟨32, v206, []⟩ := fun args σ K ha h =>
 enter (own := List.range 32) Tryz.func206 (by kernel_rfl) (by kernel_rfl) (by kernel_rfl) ha h
def v207 : ACode :=
(.seq
 (.seq
 (.reg [oo 5 (.load none (.t 0)),
 oo 6 (.len .slice (.t 5)),
 oo 7 (.move (.c (.int .i64 0)))])
 (.block 0
 (.loop
 (.seq
 (.reg [oo 8 (.bin .int .lss (.t 7) (.t 6))])
 (.seq
 (.cond (.t 8)
 .skip
 (.exit 0))
 (.seq
 (.block 1
 (.seq
 (.reg [oo 9 (.iaddr 4 (.t 5) (.t 7)),
 oo 10 (.load (some 4) (.t 9)),
 oo 4 (.new 151 (.c (.agg [(.str ⟨#[]⟩), .nils, (.int .i64 0), (.int .i64 0)]))),
 ⟨none, .store 4 (.t 4) (.t 10), none⟩])
 (.reg [oo 11 (.load none (.t 1)),
 oo 12 (.load (some 4) (.t 4)),
 oo 13 (.call 208 [(.t 11), (.t 12)])])))
 (.reg [oo 14 (.bin .int .add (.t 7) (.c (.int .i64 1))),
 mv 7 14])))))))
 (.reg [oo 15 (.load none (.t 2)),
 oo 16 (.callv (.t 15) [])]))
theorem ent207 : EntOK Tryz.prog 207 ⟨17, v207, []⟩ := fun args σ K ha h =>
 enter (own := List.range 17) Tryz.func207 (by kernel_rfl) (by kernel_rfl) (by kernel_rfl) ha h
def v208 : ACode :=
(.seq
 (.reg [oo 3 (.new 151 (.t 1))])
 (.seq
 (.reg [oo 9 (.faddr 1 (.t 3)),
 oo 10 (.load none (.t 9)),
 oo 11 (.iaddr 2 (.t 10) (.c (.int .i64 0))),
 oo 12 (.faddr 0 (.t 11)),
 oo 13 (.load none (.t 12)),
 oo 14 (.len .slice (.t 13)),
 mv 4 14])
 (.seq
 (.seq
 (.reg [mv 15 4,
 oo 16 (.bin .int .eql (.t 15) (.c (.int .i64 0))),
 mv 17 16,
 og 18 17 true (.faddr 1 (.t 3)),
 og 19 17 true (.load none (.t 18)),
 og 20 17 true (.len .slice (.t 19)),
 og 21 17 true (.bin .int .gtr (.t 20) (.c (.int .i64 1))),
 oo 22 (.pick (.t 17) (.t 21) (.c (.bool false)))])
 (.cond (.t 22)
 (.reg [mv 23 0,
 oo 24 (.faddr 2 (.t 3)),
 oo 25 (.load (some 2) (.t 24)),
 oo 26 (.call 152 [(.t 23), (.c (.int .i64 80)), (.t 25)])])
 .skip))
 (.seq
 (.seq
 (.reg [oo 27 (.faddr 1 (.t 3)),
 oo 28 (.load none (.t 27)),
 oo 29 (.len .slice (.t 28)),
 oo 30 (.move (.c (.int .i64 0)))])
 (.block 0
 (.loop
 (.seq
 (.reg [oo 31 (.bin .int .lss (.t 30) (.t 29))])
 (.seq
 (.cond (.t 31)
 .skip
 (.exit 0))
 (.seq
 (.block 1
 (.seq
 (.reg [oo 32 (.iaddr 2 (.t 28) (.t 30)),
 oo 33 (.load (some 2) (.t 32)),
 oo 6 (.new 224 (.c (.agg [.nils, .nils]))),
 ⟨none, .store 2 (.t 6) (.t 33), none⟩])
 (.seq
 (.reg [oo 34 (.faddr 0 (.t 6)),
 oo 35 (.load none (.t 34)),
 oo 36 (.len .slice (.t 35)),
 mv 37 4,
 oo 38 (.bin .int .neq (.t 36) (.t 37))])
 (.cond (.t 38)
 (.reg [mv 39 0,
 oo 40 (.faddr 2 (.t 3)),
 oo 41 (.load (some 2) (.t 40)),
 oo 42 (.call 152 [(.t 39), (.c (.int .i64 82)), (.t 41)])])
 .skip))))
 (.reg [oo 43 (.bin .int .add (.t 30) (.c (.int .i64 1))),
 mv 30 43])))))))
 (.seq
 (.reg [oo 44 (.faddr 1 (.t 3)),
 oo 45 (.load none (.t 44)),
 oo 46 (.len .slice (.t 45)),
 oo 47 (.move (.c (.int .i64 0)))])
 (.block 2
 (.loop
 (.seq
 (.reg [oo 48 (.bin .int .lss (.t 47) (.t 46))])
 (.seq
 (.cond (.t 48)
 .skip
 (.exit 2))
 (.seq
 (.block 3
 (.seq
 (.reg [oo 49 (.iaddr 2 (.t 45) (.t 47)),
 oo 50 (.load (some 2) (.t 49)),
 oo 8 (.new 224 (.c (.agg [.nils, .nils]))),
 ⟨none, .store 2 (.t 8) (.t 50), none⟩])
 (.reg [mv 51 0,
 oo 52 (.faddr 0 (.t 8)),
 oo 53 (.load none (.t 52)),
 oo 54 (.faddr 1 (.t 8)),
 oo 55 (.load none (.t 54)),
 oo 56 (.call 261 [(.t 51), (.t 53), (.t 55)])])))
 (.reg [oo 57 (.bin .int .add (.t 47) (.c (.int .i64 1))),
 mv 47 57])))))))))))
theorem ent208 : EntOK Tryz.prog 208 ⟨58, v208, []⟩ := fun args σ K ha h =>
 enter (own := List.range 58) Tryz.func208 (by kernel_rfl) (by kernel_rfl) (by kernel_rfl) ha h
def v209 : ACode :=
(.seq
 (.reg [oo 1 (.new 151 (.t 0)),
 oo 2 (.move (.c .nils))])
 (.seq
 (.reg [oo 5 (.build [.nils, .nils] []),
 oo 6 (.new 420 (.t 5)),
 mv 3 6])
 (.seq
 (.seq
 (.reg [oo 7 (.load (some 4) (.t 1)),
 oo 8 (.lit true 151 4 [(.t 7)]),
 mv 4 8])
 (.seq
 (.reg [mv 9 4,
 oo 10 (.build [.nils, .nils, .nils] [(2, 1, (.t 9))]),
 oo 11 (.call 150 [(.t 10)])])
 (.cond (.t 11)
 (.reg [mv 12 3,
 mv 13 4,
 oo 14 (.call 262 [(.t 12), (.t 13)])])
 .skip)))
 (.seq
 (.reg [mv 15 3,
 oo 16 (.nilck (.t 15)),
 oo 17 (.faddr 1 (.t 16)),
 oo 18 (.load none (.t 17)),
 mv 2 18])
 .ret))))
theorem ent209 : EntOK Tryz.prog 209 ⟨19, v209, [.slot 2]⟩ := fun args σ K ha h =>
 enter (own := List.range 19) Tryz.func209 (by kernel_rfl) (by kernel_rfl) (by kernel_rfl) ha h
def v210 : ACode :=
(.seq
 (.reg [oo 2 (.move (.c .nils)),
 oo 3 (.move (.c (.int .i64 0)))])
 (.seq
 (.seq
 (.reg [mv 13 0,
 oo 14 (.call 263 [(.t 13)]),
 mv 4 14])
 (.seq
 (.reg [mv 15 4,
 oo 16 (.bin .int .neq (.t 15) (.c (.int .i64 0)))])
 (.cond (.t 16)
 (.seq
 (.reg [mv 17 4,
 oo 2 (.move (.c .nils)),
 mv 3 17])
 .ret)
 .skip)))
 (.seq
 (.reg [mv 19 0,
 oo 20 (.call 264 [(.t 19)]),
 mv 18 20,
 oo 21 (.extract (.t 18) 0),
 oo 22 (.extract (.t 18) 1),
 mv 5 21,
 mv 6 22])
 (.seq
 (.reg [mv 23 6,
 oo 24 (.mkslice 69 1 24 [.nils] (.t 23) (.t 23)),
 mv 7 24])
 (.seq
 (.seq
 (.reg [mv 25 5,
 oo 26 (.len .slice (.t 25)),
 oo 27 (.move (.c (.int .i64 0)))])
 (.block 0
 (.loop
 (.seq
 (.reg [oo 28 (.bin .int .lss (.t 27) (.t 26))])
 (.seq
 (.cond (.t 28)
 .skip
 (.exit 0))
 (.seq
 (.block 1
 (.seq
 (.reg [mv 29 27,
 oo 30 (.iaddr 1 (.t 25) (.t 27)),
 oo 31 (.load none (.t 30)),
 mv 8 29,
 mv 9 31])
 (.reg [mv 32 7,
 mv 33 9,
 mv 34 7,
 mv 35 9,
 oo 36 (.iaddr 1 (.t 34) (.t 35)),
 oo 37 (.load none (.t 36)),
 mv 38 8,
 oo 39 (.lit true 3 1 [(.t 38)]),
 oo 40 (.append 3 1 8 (.t 37) (.t 39)),
 oo 41 (.iaddr 1 (.t 32) (.t 33)),
 ⟨none, .store 1 (.t 41) (.t 40), none⟩])))
 (.reg [oo 42 (.bin .int .add (.t 27) (.c (.int .i64 1))),
 mv 27 42])))))))
 (.seq
 (.reg [mv 43 6,
 oo 44 (.mkslice 4 1 1 [(.bool false)] (.t 43) (.t 43)),
 mv 10 44])
 (.seq
 (.reg [oo 11 (.move (.c .nils))])
 (.seq
 (.seq
 (.reg [mv 45 6,
 oo 46 (.move (.c (.int .i64 0)))])
 (.block 2
 (.loop
 (.seq
 (.reg [oo 47 (.bin .int .lss (.t 46) (.t 45))])
 (.seq
 (.cond (.t 47)
 .skip
 (.exit 2))
 (.seq
 (.block 3
 (.seq
 (.reg [mv 48 0,
 mv 49 5,
 mv 50 7,
 mv 51 10,
 oo 52 (.call 265 [(.t 48), (.t 49), (.t 50), (.t 51)]),
 mv 12 52])
 (.seq
 (.reg [mv 53 10,
 mv 54 12,
 oo 55 (.iaddr 1 (.t 53) (.t 54)),
 ⟨none, .store 1 (.t 55) (.c (.bool true)), none⟩])
 (.reg [mv 56 11,
 mv 57 7,
 mv 58 12,
 oo 59 (.iaddr 1 (.t 57) (.t 58)),
 oo 60 (.load none (.t 59)),
 oo 61 (.lit true 69 1 [(.t 60)]),
 oo 62 (.append 69 1 24 (.t 56) (.t 61)),
 mv 11 62]))))
 (.reg [oo 63 (.bin .int .add (.t 46) (.c (.int .i64 1))),
 mv 46 63])))))))
 (.seq
 (.reg [mv 64 11,
 mv 2 64,
 oo 3 (.move (.c (.int .i64 0)))])
 .ret)))))))))
theorem ent210 : EntOK Tryz.prog 210 ⟨65, v210, [.slot 2, .slot 3]⟩ := fun args σ K ha h =>
 enter (own := List.range 65) Tryz.func210 (by kernel_rfl) (by kernel_rfl) (by kernel_rfl) ha h
def v211 : ACode :=
(.seq
 (.reg [oo 4 (.move (.c .nils))])
 (.seq
 (.reg [oo 5 (.move (.c .nils))])
 (.seq
 (.seq
 (.reg [mv 6 1,
 oo 7 (.move (.c (.int .i64 0)))])
 (.block 0
 (.loop
 (.seq
 (.reg [oo 8 (.bin .int .lss (.t 7) (.t 6))])
 (.seq
 (.cond (.t 8)
 .skip
 (.exit 0))
 (.seq
 (.block 1
 (.reg [mv 9 5,
 mv 10 0,
 oo 11 (.nilck (.t 10)),
 oo 12 (.faddr 0 (.t 11)),
 oo 13 (.load none (.t 12)),
 oo 14 (.call 266 [(.t 13)]),
 oo 15 (.lit true 247 4 [(.t 14)]),
 oo 16 (.append 247 4 56 (.t 9) (.t 15)),
 mv 5 16]))
 (.reg [oo 17 (.bin .int .add (.t 7) (.c (.int .i64 1))),
 mv 7 17])))))))
 (.seq
 (.reg [mv 18 5,
 mv 4 18])
 .ret))))
theorem ent211 : EntOK Tryz.prog 211 ⟨19, v211, [.slot 4]⟩ := fun args σ K ha h =>
 enter (own := List.range 19) Tryz.func211 (by kernel_rfl) (by kernel_rfl) (by kernel_rfl) ha h
def v212 : ACode :=
(.seq
 (.reg [mv 7 0,
 oo 8 (.nilck (.t 7)),
 oo 9 (.faddr 2 (.t 8)),
 oo 10 (.load none (.t 9)),
 oo 11 (.len .slice (.t 10)),
 mv 6 11])
 (.seq
 (.reg [mv 12 0,
 mv 13 0,
 oo 14 (.nilck (.t 13)),
 oo 15 (.faddr 2 (.t 14)),
 oo 16 (.load none (.t 15)),
 mv 17 1,
 oo 18 (.append 371 7 104 (.t 16) (.t 17)),
 oo 19 (.nilck (.t 12)),
 oo 20 (.faddr 2 (.t 19)),
 ⟨none, .store 1 (.t 20) (.t 18), none⟩])
 (.seq
 (.reg [mv 21 2,
 oo 22 (.callv (.t 21) [])])
 (.reg [mv 23 0,
 mv 24 0,
 oo 25 (.nilck (.t 24)),
 oo 26 (.faddr 2 (.t 25)),
 oo 27 (.load none (.t 26)),
 mv 28 6,
 oo 29 (.cut .slice 7 (.t 27) none (some (.t 28))),
 oo 30 (.nilck (.t 23)),
 oo 31 (.faddr 2 (.t 30)),
 ⟨none, .store 1 (.t 31) (.t 29), none⟩]))))
theorem ent212 : EntOK Tryz.prog 212 ⟨32, v212, []⟩ := fun args σ K ha h =>
 enter (own := List.range 32) Tryz.func212 (by kernel_rfl) (by kernel_rfl) (by kernel_rfl) ha h
def v213 : ACode :=
(.seq
 (.reg [oo 6 (.load none (.t 0)),
 oo 7 (.len .slice (.t 6)),
 oo 8 (.move (.c (.int .i64 0)))])
 (.block 0
 (.loop
 (.seq
 (.reg [oo 9 (.bin .int .lss (.t 8) (.t 7))])
 (.seq
 (.cond (.t 9)
 .skip
 (.exit 0))
 (.seq
 (.block 1
 (.seq
 (.reg [mv 10 8,
 oo 11 (.iaddr 1 (.t 6) (.t 8)),
 oo 12 (.load none (.t 11)),
 mv 4 10,
 mv 5 12])
 (.draw [] [([⟨(some 13), .faddr 3 (.t 1), none⟩], []),
 ([⟨(some 14), .load none (.t 13), none⟩], []),
 ([⟨(some 15), .load none (.t 2), none⟩], []),
 ([⟨(some 16), .load none (.t 3), none⟩], []),
 ([⟨(some 17), .move (.t 5), none⟩], []),
 ([⟨(some 18), .iaddr 4 (.t 16) (.t 17), none⟩], []),
 ([⟨(some 19), .load (some 4) (.t 18), none⟩], []),
 ([⟨(some 20), .faddr 2 (.t 1), none⟩], []),
 ([⟨(some 21), .load none (.t 20), none⟩], []),
 ([⟨(some 22), .move (.t 4), none⟩], []),
 ([⟨(some 23), .iaddr 4 (.t 21) (.t 22), none⟩], []),
 ([⟨(some 24), .load (some 4) (.t 23), none⟩], []),
 ([⟨(some 25), .call 214 [(.t 15), (.t 19), (.t 24)], none⟩], [⟨(some 13), .faddr 3 (.t 1), none⟩, ⟨(some 14), .load none (.t 13), none⟩]),
 ([⟨(some 26), .lit true 320 1 [(.t 25)], none⟩], [⟨(some 13), .faddr 3 (.t 1), none⟩, ⟨(some 14), .load none (.t 13), none⟩]),
 ([⟨(some 27), .append 320 1 24 (.t 14) (.t 26), none⟩], []),
 ([⟨(some 28), .faddr 3 (.t 1), none⟩], []),
 ([⟨none, .store 1 (.t 28) (.t 27), none⟩], [])])))
 (.reg [oo 29 (.bin .int .add (.t 8) (.c (.int .i64 1))),
 mv 8 29])))))))
theorem ent213 : EntOK Tryz.prog 213 ⟨30, v213, []⟩ := fun args σ K ha h =>
 enter (own := List.range 30) Tryz.func213 (by kernel_rfl) (by kernel_rfl) (by kernel_rfl) ha h
def v214 : ACode :=
(.seq
 (.reg [oo 3 (.new 227 (.t 0)),
 oo 4 (.new 151 (.t 1)),
 oo 5 (.new 247 (.t 2)),
 oo 6 (.new 320 (.c (.agg [.nils])))])
 (.seq
 (.reg [oo 7 (.new 320 (.c (.agg [.nils])))])
 (.seq
 (.seq
 (.reg [oo 18 (.faddr 1 (.t 4)),
 oo 19 (.load none (.t 18)),
 oo 20 (.len .slice (.t 19)),
 oo 21 (.move (.c (.int .i64 0)))])
 (.block 0
 (.loop
 (.seq
 (.reg [oo 22 (.bin .int .lss (.t 21) (.t 20))])
 (.seq
 (.cond (.t 22)
 .skip
 (.exit 0))
 (.seq
 (.block 1
 (.seq
 (.reg [oo 23 (.iaddr 2 (.t 19) (.t 21)),
 oo 24 (.load (some 2) (.t 23)),
 oo 9 (.new 224 (.c (.agg [.nils, .nils]))),
 ⟨none, .store 2 (.t 9) (.t 24), none⟩])
 (.seq
 (.reg [oo 10 (.move (.c .nils))])
 (.seq
 (.reg [oo 11 (.move (.c .nils))])
 (.seq
 (.reg [oo 12 (.new 324 (.c (.agg [.nils, .nils])))])
 (.seq
 (.seq
 (.reg [oo 25 (.faddr 0 (.t 9)),
 oo 26 (.load none (.t 25)),
 oo 27 (.len .slice (.t 26)),
 oo 28 (.move (.c (.int .i64 0)))])
 (.block 2
 (.loop
 (.seq
 (.reg [oo 29 (.bin .int .lss (.t 28) (.t 27))])
 (.seq
 (.cond (.t 29)
 .skip
 (.exit 2))
 (.seq
 (.block 3
 (.seq
 (.reg [oo 30 (.iaddr 6 (.t 26) (.t 28)),
 oo 31 (.load (some 6) (.t 30)),
 oo 14 (.new 291 (.c (.agg [(.int .i64 0), (.str ⟨#[]⟩), (.int .i64 0), .nils, (.int .i64 0), (.int .i64 0)]))),
 ⟨none, .store 6 (.t 14) (.t 31), none⟩])
 (.seq
 (.reg [oo 33 (.load none (.t 3)),
 oo 34 (.load (some 6) (.t 14)),
 oo 35 (.call 267 [(.t 33), (.t 34)]),
 mv 32 35,
 oo 36 (.extract (.t 32) 0),
 oo 37 (.extract (.t 32) 1),
 oo 15 (.new 380 (.c (.agg [(.int .i64 0), (.int .i64 0), (.str ⟨#[]⟩), .nils, .nils, .nils]))),
 ⟨none, .store 6 (.t 15) (.t 36), none⟩,
 mv 16 37])
 (.seq
 (.perm [([⟨(some 38), .faddr 0 (.t 12), none⟩], []),
 ([⟨(some 39), .load none (.t 38), none⟩], []),
 ([⟨(some 40), .load (some 6) (.t 15), none⟩], []),
 ([⟨(some 41), .len .slice (.t 39), none⟩], []),
 ([⟨(some 42), .lit true 380 6 [(.c (.agg [(.int .i64 0), (.int .i64 0), (.str ⟨#[]⟩), .nils, .nils, .nils]))], none⟩], [⟨(some 38), .faddr 0 (.t 12), none⟩, ⟨(some 39), .load none (.t 38), none⟩, ⟨(some 40), .load (some 6) (.t 15), none⟩]),
 ([⟨(some 43), .append 380 6 104 (.t 39) (.t 42), none⟩], []),
 ([⟨(some 44), .iaddr 6 (.t 43) (.t 41), none⟩], []),
 ([⟨(some 45), .faddr 0 (.t 12), none⟩], [])] [(7, [⟨none, .store 6 (.t 44) (.t 40), none⟩], [⟨(some 45), .faddr 0 (.t 12), none⟩]),
 (9, [⟨none, .store 1 (.t 45) (.t 43), none⟩], [⟨(some 44), .iaddr 6 (.t 43) (.t 41), none⟩])] [])
 (.seq
 (.reg [mv 46 11,
 oo 47 (.faddr 0 (.t 15)),
 oo 48 (.load (some 4) (.t 47)),
 oo 49 (.lit true 247 4 [(.t 48)]),
 oo 50 (.append 247 4 56 (.t 46) (.t 49)),
 mv 11 50])
 (.reg [mv 51 10,
 mv 52 16,
 oo 53 (.append 371 7 104 (.t 51) (.t 52)),
 mv 10 53]))))))
 (.reg [oo 54 (.bin .int .add (.t 28) (.c (.int .i64 1))),
 mv 28 54])))))))
 (.seq
 (.reg [oo 55 (.load none (.t 3)),
 oo 56 (.nilck (.t 55)),
 oo 57 (.faddr 0 (.t 56)),
 oo 58 (.load none (.t 57)),
 oo 59 (.call 266 [(.t 58)]),
 oo 17 (.new 247 (.c (.agg [(.int .i64 0), (.int .i64 0), (.str ⟨#[]⟩), .nils]))),
 ⟨none, .store 4 (.t 17) (.t 59), none⟩])
 (.seq
 (.draw [] [([⟨(some 60), .load none (.t 3), none⟩], []),
 ([⟨(some 61), .load (some 4) (.t 5), none⟩], []),
 ([⟨(some 62), .move (.t 11), none⟩], []),
 ([⟨(some 63), .load (some 4) (.t 17), none⟩], []),
 ([⟨(some 65), .faddr 2 (.t 4), none⟩], []),
 ([⟨(some 66), .load (some 2) (.t 65), none⟩], []),
 ([⟨(some 64), .call 269 [(.t 62), (.t 63)], none⟩], [⟨(some 60), .load none (.t 3), none⟩, ⟨(some 61), .load (some 4) (.t 5), none⟩, ⟨(some 65), .faddr 2 (.t 4), none⟩, ⟨(some 66), .load (some 2) (.t 65), none⟩]),
 ([⟨(some 67), .call 268 [(.t 60), (.t 61), (.t 64), (.t 66)], none⟩], [])])
 (.seq
 (.reg [oo 68 (.load none (.t 3)),
 mv 69 10,
 oo 70 (.mkfn (.func 270) [] [(.t 3), (.t 9), (.t 17), (.t 12)]),
 oo 71 (.call 212 [(.t 68), (.t 69), (.t 70)])])
 (.reg [oo 72 (.faddr 0 (.t 7)),
 oo 73 (.load none (.t 72)),
 oo 74 (.load (some 2) (.t 12)),
 oo 75 (.lit true 324 2 [(.t 74)]),
 oo 76 (.append 324 2 48 (.t 73) (.t 75)),
 oo 77 (.faddr 0 (.t 7)),
 ⟨none, .store 1 (.t 77) (.t 76), none⟩]))))))))))
 (.reg [oo 78 (.bin .int .add (.t 21) (.c (.int .i64 1))),
 mv 21 78])))))))
 (.seq
 (.reg [oo 79 (.load (some 1) (.t 7)),
 ⟨none, .store 1 (.t 6) (.t 79), none⟩])
 .ret))))
theorem ent214 : EntOK Tryz.prog 214 ⟨80, v214, [.cell 6 (some 1)]⟩ := fun args σ K ha h =>
 enter (own := List.range 80) Tryz.func214 (by kernel_rfl) (by kernel_rfl) (by kernel_rfl) ha h
def v215 : ACode :=
(.seq
 (.reg [oo 2 (.move (.c .nils))])
 (.seq
 (.reg [oo 3 (.move (.c .nils))])
 (.seq
 (.seq
 (.reg [mv 8 0,
 oo 9 (.nilck (.t 8)),
 oo 10 (.faddr 2 (.t 9)),
 oo 11 (.load none (.t 10)),
 oo 12 (.len .slice (.t 11)),
 oo 13 (.move (.c (.int .i64 0)))])
 (.block 0
 (.loop
 (.seq
 (.reg [oo 14 (.bin .int .lss (.t 13) (.t 12))])
 (.seq
 (.cond (.t 14)
 .skip
 (.exit 0))
 (.seq
 (.block 1
 (.seq
 (.reg [oo 15 (.iaddr 7 (.t 11) (.t 13)),
 oo 16 (.load (some 7) (.t 15)),
 oo 5 (.new 371 (.c (.agg [(.str ⟨#[]⟩), .nils, (.int .i64 0), (.int .i64 0), (.str ⟨#[]⟩), .nils, (.bool false)]))),
 ⟨none, .store 7 (.t 5) (.t 16), none⟩])
 (.seq
 (.seq
 (.reg [oo 17 (.faddr 6 (.t 5)),
 oo 18 (.load none (.t 17))])
 (.cond (.t 18)
 (.exit 1)
 .skip))
 (.seq
 (.reg [mv 20 0,
 oo 21 (.nilck (.t 20)),
 oo 22 (.faddr 0 (.t 21)),
 oo 23 (.load none (.t 22)),
 oo 24 (.faddr 1 (.t 5)),
 oo 25 (.faddr 1 (.t 24)),
 oo 26 (.load (some 4) (.t 25)),
 oo 27 (.call 272 [(.t 23), (.t 26)]),
 mv 19 27,
 oo 28 (.extract (.t 19) 0),
 oo 29 (.extract (.t 19) 1),
 mv 6 28,
 mv 7 29])
 (.reg [mv 30 3,
 mv 31 6,
 oo 32 (.append 3 1 8 (.t 30) (.t 31)),
 mv 3 32])))))
 (.reg [oo 33 (.bin .int .add (.t 13) (.c (.int .i64 1))),
 mv 13 33])))))))
 (.seq
 (.reg [mv 34 3,
 mv 2 34])
 .ret))))
theorem ent215 : EntOK Tryz.prog 215 ⟨35, v215, [.slot 2]⟩ := fun args σ K ha h =>
 enter (own := List.range 35) Tryz.func215 (by kernel_rfl) (by kernel_rfl) (by kernel_rfl) ha h
def v216 : ACode :=
(.seq
 (.reg [oo 3 (.new 247 (.t 1)),
 oo 4 (.new 247 (.c (.agg [(.int .i64 0), (.int .i64 0), (.str ⟨#[]⟩), .nils]))),
 oo 5 (.move (.c (.int .i64 0)))])
 (.seq
 (.block 0
 (.seq
 (.reg [mv 9 0,
 oo 10 (.nileq .ptr false (.t 9) (.c .nilp)),
 mv 11 10,
 og 12 11 false (.move (.t 0)),
 og 13 11 false (.nilck (.t 12)),
 og 14 11 false (.faddr 0 (.t 13)),
 og 15 11 false (.load none (.t 14)),
 og 16 11 false (.nileq .map false (.t 15) (.c .nilm)),
 oo 17 (.pick (.t 11) (.c (.bool true)) (.t 16)),
 mv 8 17])
 (.cond (.t 8)
 (.seq
 (.reg [oo 18 (.build [(.int .i64 0), (.int .i64 0), (.str ⟨#[]⟩), .nils] []),
 ⟨none, .store 4 (.t 4) (.t 18), none⟩,
 oo 5 (.move (.c (.int .i64 3)))])
 .ret)
 (.seq
 (.reg [oo 20 (.load (some 4) (.t 3)),
 oo 21 (.call 273 [(.t 20)]),
 oo 22 (.not (.t 21)),
 mv 19 22])
 (.cond (.t 19)
 (.seq
 (.reg [oo 23 (.build [(.int .i64 0), (.int .i64 0), (.str ⟨#[]⟩), .nils] []),
 ⟨none, .store 4 (.t 4) (.t 23), none⟩,
 oo 5 (.move (.c (.int .i64 1)))])
 .ret)
 .skip)))))
 (.seq
 (.reg [mv 24 0,
 oo 25 (.load (some 4) (.t 3)),
 oo 26 (.call 274 [(.t 24), (.t 25)])])
 (.seq
 (.reg [mv 27 0,
 oo 28 (.build [.nilp, (.int .i64 0)] [(0, 1, (.t 27))]),
 oo 29 (.new 437 (.t 28)),
 mv 6 29])
 (.seq
 (.reg [mv 30 6,
 oo 31 (.load (some 4) (.t 3)),
 oo 32 (.call 275 [(.t 30), (.t 31)]),
 oo 7 (.new 247 (.c (.agg [(.int .i64 0), (.int .i64 0), (.str ⟨#[]⟩), .nils]))),
 ⟨none, .store 4 (.t 7) (.t 32), none⟩])
 (.seq
 (.seq
 (.reg [mv 33 6,
 oo 34 (.nilck (.t 33)),
 oo 35 (.faddr 1 (.t 34)),
 oo 36 (.load none (.t 35)),
 oo 37 (.bin .int .gtr (.t 36) (.c (.int .i64 256)))])
 (.cond (.t 37)
 (.seq
 (.reg [oo 38 (.build [(.int .i64 0), (.int .i64 0), (.str ⟨#[]⟩), .nils] []),
 ⟨none, .store 4 (.t 4) (.t 38), none⟩,
 oo 5 (.move (.c (.int .i64 102)))])
 .ret)
 .skip))
 (.seq
 (.reg [oo 39 (.load (some 4) (.t 7)),
 ⟨none, .store 4 (.t 4) (.t 39), none⟩,
 oo 5 (.move (.c (.int .i64 0)))])
 .ret)))))))
theorem ent216 : EntOK Tryz.prog 216 ⟨40, v216, [.cell 4 (some 4), .slot 5]⟩ := fun args σ K ha h =>
 enter (own := List.range 40) Tryz.func216 (by kernel_rfl) (by kernel_rfl) (by kernel_rfl) ha h
def v219 : ACode :=
(.seq
 (.reg [oo 1 (.new 247 (.t 0)),
 oo 2 (.move (.c .nils))])
 (.seq
 (.seq
 (.reg [oo 3 (.load (some 4) (.t 1)),
 oo 4 (.call 273 [(.t 3)]),
 oo 5 (.not (.t 4))])
 (.cond (.t 5)
 (.seq
 (.reg [oo 2 (.move (.c .nils))])
 .ret)
 .skip))
 (.seq
 (.reg [oo 6 (.load (some 4) (.t 1)),
 oo 7 (.call 276 [(.t 6), (.c .nils)]),
 mv 2 7])
 .ret)))
theorem ent219 : EntOK Tryz.prog 219 ⟨8, v219, [.slot 2]⟩ := fun args σ K ha h =>
 enter (own := List.range 8) Tryz.func219 (by kernel_rfl) (by kernel_rfl) (by kernel_rfl) ha h
def v220 : ACode :=
(.seq
 (.reg [oo 4 (.move (.c (.bool false)))])
 (.seq
 (.seq
 (.reg [mv 7 0,
 oo 8 (.len .slice (.t 7)),
 oo 9 (.move (.c (.int .i64 0)))])
 (.block 0
 (.loop
 (.seq
 (.reg [oo 10 (.bin .int .lss (.t 9) (.t 8))])
 (.seq
 (.cond (.t 10)
 .skip
 (.exit 0))
 (.seq
 (.block 1
 (.seq
 (.reg [oo 11 (.iaddr 1 (.t 7) (.t 9)),
 oo 12 (.load none (.t 11)),
 mv 6 12])
 (.seq
 (.reg [mv 13 6,
 mv 14 1,
 oo 15 (.bin .int .eql (.t 13) (.t 14))])
 (.cond (.t 15)
 (.seq
 (.reg [oo 4 (.move (.c (.bool true)))])
 .ret)
 .skip))))
 (.reg [oo 16 (.bin .int .add (.t 9) (.c (.int .i64 1))),
 mv 9 16])))))))
 (.seq
 (.reg [oo 4 (.move (.c (.bool false)))])
 .ret)))
theorem ent220 : EntOK Tryz.prog 220 ⟨17, v220, [.slot 4]⟩ := fun args σ K ha h =>
 enter (own := List.range 17) Tryz.func220 (by kernel_rfl) (by kernel_rfl) (by kernel_rfl) ha h
def v221 : ACode :=
(.seq
 (.reg [oo 2 (.new 247 (.t 0)),
 oo 4 (.new 369 (.c (.agg [.nils, (.int .i64 0), (.int .i64 0), (.str ⟨#[]⟩), .nils])))])
 (.seq
 (.reg [oo 5 (.move (.c .nils))])
 (.seq
 (.seq
 (.reg [oo 8 (.load (some 4) (.t 2)),
 oo 9 (.call 219 [(.t 8)]),
 oo 10 (.len .slice (.t 9)),
 oo 11 (.move (.c (.int .i64 0)))])
 (.block 0
 (.loop
 (.seq
 (.reg [oo 12 (.bin .int .lss (.t 11) (.t 10))])
 (.seq
 (.cond (.t 12)
 .skip
 (.exit 0))
 (.seq
 (.block 1
 (.seq
 (.reg [oo 13 (.iaddr 1 (.t 9) (.t 11)),
 oo 14 (.load none (.t 13)),
 mv 7 14])
 (.seq
 (.reg [mv 15 1,
 mv 16 7,
 oo 17 (.call 220 [(.t 15), (.t 16)])])
 (.cond (.t 17)
 (.reg [mv 18 5,
 mv 19 7,
 oo 20 (.lit true 3 1 [(.t 19)]),
 oo 21 (.append 3 1 8 (.t 18) (.t 20)),
 mv 5 21])
 .skip))))
 (.reg [oo 22 (.bin .int .add (.t 11) (.c (.int .i64 1))),
 mv 11 22])))))))
 (.seq
 (.reg [mv 23 5,
 oo 24 (.load (some 4) (.t 2)),
 oo 25 (.build [.nils, (.int .i64 0), (.int .i64 0), (.str ⟨#[]⟩), .nils] [(0, 1, (.t 23)), (1, 4, (.t 24))]),
 ⟨none, .store 5 (.t 4) (.t 25), none⟩])
 .ret))))
theorem ent221 : EntOK Tryz.prog 221 ⟨26, v221, [.cell 4 (some 5)]⟩ := fun args σ K ha h =>
 enter (own := List.range 26) Tryz.func221 (by kernel_rfl) (by kernel_rfl) (by kernel_rfl) ha h
def v222 : ACode :=
(.seq
 (.reg [oo 3 (.new 247 (.t 1)),
 oo 4 (.new 247 (.c (.agg [(.int .i64 0), (.int .i64 0), (.str ⟨#[]⟩), .nils])))])
 (.seq
 (.seq
 (.reg [mv 7 0,
 oo 8 (.nilck (.t 7)),
 oo 9 (.faddr 3 (.t 8)),
 oo 10 (.load none (.t 9))])
 (.cond (.t 10)
 (.seq
 (.reg [oo 11 (.load (some 4) (.t 3)),
 ⟨none, .store 4 (.t 4) (.t 11), none⟩])
 .ret)
 .skip))
 (.seq
 (.draw [5] [([⟨(some 13), .move (.t 0), none⟩], []),
 ([⟨(some 14), .nilck (.t 13), none⟩], []),
 ([⟨(some 15), .faddr 0 (.t 14), none⟩], []),
 ([⟨(some 16), .load none (.t 15), none⟩], []),
 ([⟨(some 17), .load (some 4) (.t 3), none⟩], []),
 ([⟨(some 18), .call 216 [(.t 16), (.t 17)], none⟩], []),
 ([⟨(some 12), .move (.t 18), none⟩], []),
 ([⟨(some 19), .extract (.t 12) 0, none⟩], []),
 ([⟨(some 20), .extract (.t 12) 1, none⟩], []),
 ([⟨(some 5), .new 247 (.c (.agg [(.int .i64 0), (.int .i64 0), (.str ⟨#[]⟩), .nils])), none⟩, ⟨none, .store 4 (.t 5) (.t 19), none⟩], []),
 ([⟨(some 6), .move (.t 20), none⟩], [])])
 (.seq
 (.seq
 (.reg [mv 21 6,
 oo 22 (.bin .int .neq (.t 21) (.c (.int .i64 0)))])
 (.cond (.t 22)
 (.reg [mv 23 0,
 oo 24 (.call 218 []),
 oo 25 (.call 217 [(.t 23), (.c (.int .i64 102)), (.t 24)])])
 .skip))
 (.seq
 (.reg [oo 26 (.load (some 4) (.t 5)),
 ⟨none, .store 4 (.t 4) (.t 26), none⟩])
 .ret)))))
theorem ent222 : EntOK Tryz.prog 222 ⟨27, v222, [.cell 4 (some 4)]⟩ := fun args σ K ha h =>
 enter (own := List.range 27) Tryz.func222 (by kernel_rfl) (by kernel_rfl) (by kernel_rfl) ha h
def v223 : ACode :=
(.seq
 (.reg [oo 4 (.move (.c .nils))])
 (.seq
 (.reg [oo 5 (.move (.c .nils))])
 (.seq
 (.seq
 (.reg [mv 8 1,
 oo 9 (.len .slice (.t 8)),
 oo 10 (.move (.c (.int .i64 0)))])
 (.block 0
 (.loop
 (.seq
 (.reg [oo 11 (.bin .int .lss (.t 10) (.t 9))])
 (.seq
 (.cond (.t 11)
 .skip
 (.exit 0))
 (.seq
 (.block 1
 (.seq
 (.reg [oo 12 (.iaddr 8 (.t 8) (.t 10)),
 oo 13 (.load (some 8) (.t 12)),
 oo 7 (.new 384 (.c (.agg [(.int .i64 0), (.int .i64 0), (.str ⟨#[]⟩), .nils, .nils, .nils, .nils, .nils]))),
 ⟨none, .store 8 (.t 7) (.t 13), none⟩])
 (.reg [mv 14 5,
 mv 15 0,
 oo 16 (.load (some 8) (.t 7)),
 oo 17 (.call 224 [(.t 15), (.t 16)]),
 oo 18 (.lit true 384 8 [(.t 17)]),
 oo 19 (.append 384 8 152 (.t 14) (.t 18)),
 mv 5 19])))
 (.reg [oo 20 (.bin .int .add (.t 10) (.c (.int .i64 1))),
 mv 10 20])))))))
 (.seq
 (.reg [mv 21 5,
 mv 4 21])
 .ret))))
theorem ent223 : EntOK Tryz.prog 223 ⟨22, v223, [.slot 4]⟩ := fun args σ K ha h =>
 enter (own := List.range 22) Tryz.func223 (by kernel_rfl) (by kernel_rfl) (by kernel_rfl) ha h
def v224 : ACode :=
(.seq
 (.reg [oo 3 (.new 384 (.t 1)),
 oo 4 (.new 384 (.c (.agg [(.int .i64 0), (.int .i64 0), (.str ⟨#[]⟩), .nils, .nils, .nils, .nils, .nils])))])
 (.seq
 (.seq
 (.reg [mv 8 0,
 oo 9 (.nilck (.t 8)),
 oo 10 (.faddr 3 (.t 9)),
 oo 11 (.load none (.t 10))])
 (.cond (.t 11)
 (.seq
 (.reg [oo 12 (.load (some 8) (.t 3)),
 ⟨none, .store 8 (.t 4) (.t 12), none⟩])
 .ret)
 .skip))
 (.seq
 (.draw [5] [([⟨(some 13), .move (.t 0), none⟩], []),
 ([⟨(some 14), .faddr 0 (.t 3), none⟩], []),
 ([⟨(some 15), .load (some 4) (.t 14), none⟩], []),
 ([⟨(some 17), .move (.t 0), none⟩], []),
 ([⟨(some 18), .faddr 4 (.t 3), none⟩], []),
 ([⟨(some 19), .load none (.t 18), none⟩], []),
 ([⟨(some 21), .move (.t 0), none⟩], []),
 ([⟨(some 22), .faddr 5 (.t 3), none⟩], []),
 ([⟨(some 23), .load none (.t 22), none⟩], []),
 ([⟨(some 25), .move (.t 0), none⟩], []),
 ([⟨(some 26), .faddr 7 (.t 3), none⟩], []),
 ([⟨(some 27), .load none (.t 26), none⟩], []),
 ([⟨(some 16), .call 222 [(.t 13), (.t 15)], none⟩], [⟨(some 18), .faddr 4 (.t 3), none⟩, ⟨(some 19), .load none (.t 18), none⟩, ⟨(some 22), .faddr 5 (.t 3), none⟩, ⟨(some 23), .load none (.t 22), none⟩, ⟨(some 26), .faddr 7 (.t 3), none⟩, ⟨(some 27), .load none (.t 26), none⟩]),
 ([⟨(some 20), .call 157 [(.t 17), (.t 19)], none⟩], [⟨(some 22), .faddr 5 (.t 3), none⟩, ⟨(some 23), .load none (.t 22), none⟩, ⟨(some 26), .faddr 7 (.t 3), none⟩, ⟨(some 27), .load none (.t 26), none⟩]),
 ([⟨(some 24), .call 223 [(.t 21), (.t 23)], none⟩], [⟨(some 26), .faddr 7 (.t 3), none⟩, ⟨(some 27), .load none (.t 26), none⟩]),
 ([⟨(some 28), .call 107 [(.t 25), (.t 27)], none⟩], []),
 ([⟨(some 29), .build [(.int .i64 0), (.int .i64 0), (.str ⟨#[]⟩), .nils, .nils, .nils, .nils, .nils] [(0, 4, (.t 16)), (4, 1, (.t 20)), (5, 1, (.t 24)), (7, 1, (.t 28))], none⟩], []),
 ([⟨(some 5), .new 384 (.c (.agg [(.int .i64 0), (.int .i64 0), (.str ⟨#[]⟩), .nils, .nils, .nils, .nils, .nils])), none⟩, ⟨none, .store 8 (.t 5) (.t 29), none⟩], [])])
 (.seq
 (.seq
 (.reg [oo 30 (.faddr 6 (.t 3)),
 oo 31 (.load none (.t 30)),
 oo 32 (.len .slice (.t 31)),
 oo 33 (.move (.c (.int .i64 0)))])
 (.block 0
 (.loop
 (.seq
 (.reg [oo 34 (.bin .int .lss (.t 33) (.t 32))])
 (.seq
 (.cond (.t 34)
 .skip
 (.exit 0))
 (.seq
 (.block 1
 (.seq
 (.reg [oo 35 (.iaddr 7 (.t 31) (.t 33)),
 oo 36 (.load (some 7) (.t 35)),
 oo 7 (.new 440 (.c (.agg [(.int .i64 0), (.int .i64 0), (.str ⟨#[]⟩), .nils, .nils, .nils, .nils]))),
 ⟨none, .store 7 (.t 7) (.t 36), none⟩])
 (.draw [] [([⟨(some 37), .faddr 6 (.t 5), none⟩], []),
 ([⟨(some 38), .load none (.t 37), none⟩], []),
 ([⟨(some 39), .move (.t 0), none⟩], []),
 ([⟨(some 40), .faddr 0 (.t 7), none⟩], []),
 ([⟨(some 41), .load (some 6) (.t 40), none⟩], []),
 ([⟨(some 46), .move (.t 0), none⟩], []),
 ([⟨(some 47), .faddr 6 (.t 7), none⟩], []),
 ([⟨(some 48), .load none (.t 47), none⟩], []),
 ([⟨(some 42), .lit true 380 6 [(.t 41)], none⟩], [⟨(some 37), .faddr 6 (.t 5), none⟩, ⟨(some 38), .load none (.t 37), none⟩, ⟨(some 47), .faddr 6 (.t 7), none⟩, ⟨(some 48), .load none (.t 47), none⟩]),
 ([⟨(some 43), .call 158 [(.t 39), (.t 42)], none⟩], [⟨(some 37), .faddr 6 (.t 5), none⟩, ⟨(some 38), .load none (.t 37), none⟩, ⟨(some 47), .faddr 6 (.t 7), none⟩, ⟨(some 48), .load none (.t 47), none⟩]),
 ([⟨(some 44), .iaddr 6 (.t 43) (.c (.int .i64 0)), none⟩], []),
 ([⟨(some 45), .load (some 6) (.t 44), none⟩], []),
 ([⟨(some 49), .call 159 [(.t 46), (.t 48)], none⟩], [⟨(some 37), .faddr 6 (.t 5), none⟩, ⟨(some 38), .load none (.t 37), none⟩, ⟨(some 44), .iaddr 6 (.t 43) (.c (.int .i64 0)), none⟩, ⟨(some 45), .load (some 6) (.t 44), none⟩]),
 ([⟨(some 50), .build [(.int .i64 0), (.int .i64 0), (.str ⟨#[]⟩), .nils, .nils, .nils, .nils] [(0, 6, (.t 45)), (6, 1, (.t 49))], none⟩], []),
 ([⟨(some 51), .lit true 440 7 [(.t 50)], none⟩], [⟨(some 37), .faddr 6 (.t 5), none⟩, ⟨(some 38), .load none (.t 37), none⟩]),
 ([⟨(some 52), .append 440 7 128 (.t 38) (.t 51), none⟩], []),
 ([⟨(some 53), .faddr 6 (.t 5), none⟩], []),
 ([⟨none, .store 1 (.t 53) (.t 52), none⟩], [])])))
 (.reg [oo 54 (.bin .int .add (.t 33) (.c (.int .i64 1))),
 mv 33 54])))))))
 (.seq
 (.reg [oo 55 (.load (some 8) (.t 5)),
 ⟨none, .store 8 (.t 4) (.t 55), none⟩])
 .ret)))))
theorem ent224 : EntOK Tryz.prog 224 ⟨56, v224, [.cell 4 (some 8)]⟩ := fun args σ K ha h =>
 enter (own := List.range 56) Tryz.func224 (by kernel_rfl) (by kernel_rfl) (by kernel_rfl) ha h
def v225 : ACode :=
(.seq
 (.reg [oo 6 (.new 28 (.c (.agg [(.int .i64 0), (.str ⟨#[]⟩), (.int .i64 0), (.int .i64 0), .nils, .nils, .nils, .nils, .nils])))])
 (.seq
 (.seq
 (.reg [mv 8 2,
 oo 9 (.len .slice (.t 8)),
 oo 10 (.bin .int .sub (.t 9) (.c (.int .i64 1))),
 mv 7 10])
 (.block 0
 (.loop
 (.seq
 (.seq
 (.reg [mv 11 7,
 oo 12 (.bin .int .geq (.t 11) (.c (.int .i64 0)))])
 (.cond (.t 12)
 .skip
 (.exit 0)))
 (.seq
 (.block 1
 (.seq
 (.reg [mv 15 2,
 mv 16 7,
 oo 17 (.iaddr 2 (.t 15) (.t 16)),
 oo 18 (.faddr 0 (.t 17)),
 oo 19 (.load none (.t 18)),
 mv 20 1,
 oo 21 (.bin .str .eql (.t 19) (.t 20))])
 (.cond (.t 21)
 (.seq
 (.reg [mv 22 2,
 mv 23 7,
 oo 24 (.iaddr 2 (.t 22) (.t 23)),
 oo 25 (.faddr 1 (.t 24)),
 oo 26 (.load none (.t 25)),
 oo 27 (.call 231 [(.t 26)]),
 ⟨none, .store 9 (.t 6) (.t 27), none⟩])
 .ret)
 .skip)))
 (.reg [mv 13 7,
 oo 14 (.bin .int .sub (.t 13) (.c (.int .i64 1))),
 mv 7 14]))))))
 (.seq
 (.reg [mv 28 1,
 oo 29 (.build [(.int .i64 0), (.str ⟨#[]⟩), (.int .i64 0), (.int .i64 0), .nils, .nils, .nils, .nils, .nils] [(0, 1, (.c (.int .i64 2))), (1, 1, (.t 28))]),
 ⟨none, .store 9 (.t 6) (.t 29), none⟩])
 .ret)))
theorem ent225 : EntOK Tryz.prog 225 ⟨30, v225, [.cell 6 (some 9)]⟩ := fun args σ K ha h =>
 enter (own := List.range 30) Tryz.func225 (by kernel_rfl) (by kernel_rfl) (by kernel_rfl) ha h
def v227 : ACode :=
(.seq
 (.reg [oo 2 (.new 297 (.t 0)),
 oo 4 (.move (.c (.int .i64 0)))])
 (.seq
 (.seq
 (.reg [oo 8 (.faddr 0 (.t 2)),
 oo 9 (.load none (.t 8)),
 oo 10 (.bin .int .neq (.t 9) (.c (.int .i64 4))),
 mv 11 10,
 og 12 11 false (.faddr 4 (.t 2)),
 og 13 11 false (.load none (.t 12)),
 og 14 11 false (.iaddr 9 (.t 13) (.c (.int .i64 0))),
 og 15 11 false (.faddr 0 (.t 14)),
 og 16 11 false (.load none (.t 15)),
 og 17 11 false (.bin .int .neq (.t 16) (.c (.int .i64 4))),
 oo 18 (.pick (.t 11) (.c (.bool true)) (.t 17)),
 mv 19 18,
 og 20 19 false (.faddr 4 (.t 2)),
 og 21 19 false (.load none (.t 20)),
 og 22 19 false (.iaddr 9 (.t 21) (.c (.int .i64 0))),
 og 23 19 false (.faddr 4 (.t 22)),
 og 24 19 false (.load none (.t 23)),
 og 25 19 false (.iaddr 9 (.t 24) (.c (.int .i64 0))),
 og 26 19 false (.faddr 0 (.t 25)),
 og 27 19 false (.load none (.t 26)),
 og 28 19 false (.bin .int .neq (.t 27) (.c (.int .i64 1))),
 oo 29 (.pick (.t 19) (.c (.bool true)) (.t 28))])
 (.cond (.t 29)
 (.seq
 (.reg [oo 4 (.move (.c (.int .i64 0)))])
 .ret)
 .skip))
 (.seq
 (.reg [oo 30 (.faddr 4 (.t 2)),
 oo 31 (.load none (.t 30)),
 oo 32 (.iaddr 9 (.t 31) (.c (.int .i64 0))),
 oo 33 (.faddr 4 (.t 32)),
 oo 34 (.load none (.t 33)),
 oo 35 (.iaddr 9 (.t 34) (.c (.int .i64 0))),
 oo 36 (.faddr 1 (.t 35)),
 oo 37 (.load none (.t 36)),
 mv 5 37])
 (.seq
 (.seq
 (.reg [mv 38 1,
 oo 39 (.len .slice (.t 38)),
 oo 40 (.move (.c (.int .i64 0)))])
 (.block 0
 (.loop
 (.seq
 (.reg [oo 41 (.bin .int .lss (.t 40) (.t 39))])
 (.seq
 (.cond (.t 41)
 .skip
 (.exit 0))
 (.seq
 (.block 1
 (.seq
 (.reg [oo 42 (.iaddr 2 (.t 38) (.t 40)),
 oo 43 (.load (some 2) (.t 42)),
 oo 7 (.new 442 (.c (.agg [(.str ⟨#[]⟩), (.str ⟨#[]⟩)]))),
 ⟨none, .store 2 (.t 7) (.t 43), none⟩])
 (.seq
 (.reg [oo 44 (.faddr 0 (.t 7)),
 oo 45 (.load none (.t 44)),
 mv 46 5,
 oo 47 (.bin .str .eql (.t 45) (.t 46))])
 (.cond (.t 47)
 (.seq
 (.reg [oo 4 (.move (.c (.int .i64 0)))])
 .ret)
 .skip))))
 (.reg [oo 48 (.bin .int .add (.t 40) (.c (.int .i64 1))),
 mv 40 48])))))))
 (.seq
 (.reg [mv 49 5,
 oo 50 (.call 71 [(.t 49)]),
 mv 4 50])
 .ret)))))
theorem ent227 : EntOK Tryz.prog 227 ⟨51, v227, [.slot 4]⟩ := fun args σ K ha h =>
 enter (own := List.range 51) Tryz.func227 (by kernel_rfl) (by kernel_rfl) (by kernel_rfl) ha h
def v228 : ACode :=
(.seq
 (.reg [oo 6 (.move (.c .nils))])
 (.seq
 (.reg [oo 7 (.move (.c .nils))])
 (.seq
 (.reg [mv 8 7,
 mv 9 0,
 oo 10 (.append 442 2 32 (.t 8) (.t 9)),
 mv 7 10])
 (.seq
 (.reg [mv 11 7,
 mv 12 1,
 mv 13 2,
 oo 14 (.build [(.str ⟨#[]⟩), (.str ⟨#[]⟩)] [(0, 1, (.t 12)), (1, 1, (.t 13))]),
 oo 15 (.lit true 442 2 [(.t 14)]),
 oo 16 (.append 442 2 32 (.t 11) (.t 15)),
 mv 6 16])
 .ret))))
theorem ent228 : EntOK Tryz.prog 228 ⟨17, v228, [.slot 6]⟩ := fun args σ K ha h =>
 enter (own := List.range 17) Tryz.func228 (by kernel_rfl) (by kernel_rfl) (by kernel_rfl) ha h
def v231 : ACode :=
(.seq
 (.reg [oo 2 (.new 28 (.c (.agg [(.int .i64 0), (.str ⟨#[]⟩), (.int .i64 0), (.int .i64 0), .nils, .nils, .nils, .nils, .nils])))])
 (.seq
 (.reg [mv 3 0,
 oo 4 (.build [(.int .i64 0), (.str ⟨#[]⟩), (.int .i64 0), (.int .i64 0), .nils, .nils, .nils, .nils, .nils] [(0, 1, (.c (.int .i64 1))), (1, 1, (.t 3))]),
 ⟨none, .store 9 (.t 2) (.t 4), none⟩])
 .ret))
theorem ent231 : EntOK Tryz.prog 231 ⟨5, v231, [.cell 2 (some 9)]⟩ := fun args σ K ha h =>
 enter (own := List.range 5) Tryz.func231 (by kernel_rfl) (by kernel_rfl) (by kernel_rfl) ha h
def v236 : ACode :=
(.seq
 (.reg [oo 4 (.move (.c (.int .i64 0)))])
 (.seq
 (.seq
 (.reg [mv 6 0,
 oo 7 (.len .str (.t 6)),
 oo 8 (.bin .int .sub (.t 7) (.c (.int .i64 1))),
 mv 5 8])
 (.block 0
 (.loop
 (.seq
 (.seq
 (.reg [mv 9 5,
 oo 10 (.bin .int .geq (.t 9) (.c (.int .i64 0)))])
 (.cond (.t 10)
 .skip
 (.exit 0)))
 (.seq
 (.block 1
 (.seq
 (.reg [mv 13 0,
 mv 14 5,
 oo 15 (.index (.t 13) (.t 14)),
 mv 16 1,
 oo 17 (.bin .int .eql (.t 15) (.t 16))])
 (.cond (.t 17)
 (.seq
 (.reg [mv 18 5,
 mv 4 18])
 .ret)
 .skip)))
 (.reg [mv 11 5,
 oo 12 (.bin .int .sub (.t 11) (.c (.int .i64 1))),
 mv 5 12]))))))
 (.seq
 (.reg [oo 4 (.move (.c (.int .i64 (-1))))])
 .ret)))
theorem ent236 : EntOK Tryz.prog 236 ⟨19, v236, [.slot 4]⟩ := fun args σ K ha h =>
 enter (own := List.range 19) Tryz.func236 (by kernel_rfl) (by kernel_rfl) (by kernel_rfl) ha h
def v241 : ACode :=
(.seq
 (.reg [oo 4 (.move (.c (.bool false)))])
 (.seq
 (.reg [mv 5 0,
 oo 6 (.len .str (.t 5)),
 mv 7 1,
 oo 8 (.len .str (.t 7)),
 oo 9 (.bin .int .geq (.t 6) (.t 8)),
 mv 10 9,
 og 11 10 true (.move (.t 0)),
 og 12 10 true (.move (.t 1)),
 og 13 10 true (.len .str (.t 12)),
 og 14 10 true (.cut .str 1 (.t 11) none (some (.t 13))),
 og 15 10 true (.move (.t 1)),
 og 16 10 true (.bin .str .eql (.t 14) (.t 15)),
 oo 17 (.pick (.t 10) (.t 16) (.c (.bool false))),
 mv 4 17])
 .ret))
theorem ent241 : EntOK Tryz.prog 241 ⟨18, v241, [.slot 4]⟩ := fun args σ K ha h =>
 enter (own := List.range 18) Tryz.func241 (by kernel_rfl) (by kernel_rfl) (by kernel_rfl) ha h
def v245 : ACode :=
(.seq
 (.reg [oo 2 (.move (.c (.bool false)))])
 (.seq
 (.seq
 (.reg [mv 3 0])
 (.block 0
 (.seq
 (.seq
 (.reg [oo 5 (.bin .str .eql (.t 3) (.c (.str ⟨#[100, 97, 116, 97]⟩))),
 mv 4 5])
 (.cond (.t 4)
 .skip
 (.seq
 (.reg [oo 6 (.bin .str .eql (.t 3) (.c (.str ⟨#[105, 110, 102, 105, 120, 108]⟩))),
 mv 4 6])
 (.cond (.t 4)
 .skip
 (.seq
 (.reg [oo 7 (.bin .str .eql (.t 3) (.c (.str ⟨#[105, 110, 102, 105, 120, 114]⟩))),
 mv 4 7])
 (.cond (.t 4)
 .skip
 (.seq
 (.reg [oo 8 (.bin .str .eql (.t 3) (.c (.str ⟨#[105, 110, 102, 105, 120]⟩))),
 mv 4 8])
 (.cond (.t 4)
 .skip
 (.seq
 (.reg [oo 9 (.bin .str .eql (.t 3) (.c (.str ⟨#[108, 101, 116]⟩))),
 mv 4 9])
 (.cond (.t 4)
 .skip
 (.seq
 (.reg [oo 10 (.bin .str .eql (.t 3) (.c (.str ⟨#[105, 110]⟩))),
 mv 4 10])
 (.cond (.t 4)
 .skip
 (.seq
 (.reg [oo 11 (.bin .str .eql (.t 3) (.c (.str ⟨#[99, 97, 115, 101]⟩))),
 mv 4 11])
 (.cond (.t 4)
 .skip
 (.seq
 (.reg [oo 12 (.bin .str .eql (.t 3) (.c (.str ⟨#[111, 102]⟩))),
 mv 4 12])
 (.cond (.t 4)
 .skip
 (.seq
 (.reg [oo 13 (.bin .str .eql (.t 3) (.c (.str ⟨#[105, 102]⟩))),
 mv 4 13])
 (.cond (.t 4)
 .skip
 (.seq
 (.reg [oo 14 (.bin .str .eql (.t 3) (.c (.str ⟨#[116, 104, 101, 110]⟩))),
 mv 4 14])
 (.cond (.t 4)
 .skip
 (.reg [oo 15 (.bin .str .eql (.t 3) (.c (.str ⟨#[101, 108, 115, 101]⟩))),
 mv 4 15])))))))))))))))))))))
 (.cond (.t 4)
 (.seq
 (.reg [oo 2 (.move (.c (.bool true)))])
 .ret)
 .skip))))
 (.seq
 (.reg [oo 2 (.move (.c (.bool false)))])
 .ret)))
theorem ent245 : EntOK Tryz.prog 245 ⟨16, v245, [.slot 2]⟩ := fun args σ K ha h =>
 enter (own := List.range 16) Tryz.func245 (by kernel_rfl) (by kernel_rfl) (by kernel_rfl) ha h
def v247 : ACode :=
(.seq
 (.reg [oo 1 (.new 126 (.t 0)),
 oo 2 (.new 297 (.c (.agg [(.int .i64 0), (.str ⟨#[]⟩), (.int .i64 0), .nils, .nils, .nils, .nils, (.int .i64 0), (.int .i64 0)])))])
 (.seq
 (.reg [oo 11 (.load none (.t 1)),
 oo 12 (.call 142 [(.t 11)]),
 oo 13 (.field 3 (some 2) (.t 12)),
 oo 3 (.new 80 (.c (.agg [(.int .i64 0), (.int .i64 0)]))),
 ⟨none, .store 2 (.t 3) (.t 13), none⟩])
 (.seq
 (.block 0
 (.seq
 (.reg [oo 15 (.load none (.t 1)),
 oo 16 (.call 96 [(.t 15), (.c (.str ⟨#[92]⟩))]),
 mv 14 16])
 (.cond (.t 14)
 (.seq
 (.reg [oo 17 (.load none (.t 1)),
 oo 18 (.call 289 [(.t 17)]),
 ⟨none, .store 9 (.t 2) (.t 18), none⟩])
 .ret)
 (.seq
 (.reg [oo 20 (.load none (.t 1)),
 oo 21 (.call 96 [(.t 20), (.c (.str ⟨#[108, 101, 116]⟩))]),
 mv 19 21])
 (.cond (.t 19)
 (.seq
 (.reg [oo 22 (.load none (.t 1)),
 oo 23 (.call 97 [(.t 22)])])
 (.seq
 (.reg [oo 24 (.load (some 2) (.t 3)),
 oo 25 (.build [(.int .i64 0), (.str ⟨#[]⟩), (.int .i64 0), .nils, .nils, .nils, .nils, (.int .i64 0), (.int .i64 0)] [(0, 1, (.c (.int .i64 6))), (7, 2, (.t 24))]),
 oo 4 (.new 297 (.c (.agg [(.int .i64 0), (.str ⟨#[]⟩), (.int .i64 0), .nils, .nils, .nils, .nils, (.int .i64 0), (.int .i64 0)]))),
 ⟨none, .store 9 (.t 4) (.t 25), none⟩])
 (.seq
 (.seq
 (.reg [oo 26 (.load none (.t 1)),
 oo 27 (.mkfn (.func 290) [] [(.t 1), (.t 4)]),
 oo 28 (.call 54 [(.t 26), (.t 27)]),
 mv 5 28])
 (.seq
 (.reg [mv 29 5,
 oo 30 (.bin .int .eql (.t 29) (.c (.int .i64 0)))])
 (.cond (.t 30)
 (.reg [oo 31 (.load none (.t 1)),
 oo 32 (.call 98 [(.t 31), (.c (.int .i64 60))])])
 .skip)))
 (.seq
 (.reg [oo 33 (.load none (.t 1)),
 oo 34 (.call 57 [(.t 33), (.c (.str ⟨#[125]⟩))])])
 (.seq
 (.reg [oo 35 (.load none (.t 1)),
 oo 36 (.call 57 [(.t 35), (.c (.str ⟨#[105, 110]⟩))])])
 (.seq
 (.reg [oo 37 (.load none (.t 1)),
 oo 38 (.call 199 [(.t 37)]),
 oo 39 (.lit true 297 9 [(.t 38)]),
 oo 40 (.faddr 4 (.t 4)),
 ⟨none, .store 1 (.t 40) (.t 39), none⟩])
 (.seq
 (.reg [oo 41 (.load (some 9) (.t 4)),
 ⟨none, .store 9 (.t 2) (.t 41), none⟩])
 .ret)))))))
 (.seq
 (.reg [oo 43 (.load none (.t 1)),
 oo 44 (.call 96 [(.t 43), (.c (.str ⟨#[105, 102]⟩))]),
 mv 42 44])
 (.cond (.t 42)
 (.seq
 (.reg [oo 45 (.load none (.t 1)),
 oo 46 (.call 97 [(.t 45)])])
 (.seq
 (.reg [oo 47 (.load none (.t 1)),
 oo 48 (.call 199 [(.t 47)]),
 oo 6 (.new 297 (.c (.agg [(.int .i64 0), (.str ⟨#[]⟩), (.int .i64 0), .nils, .nils, .nils, .nils, (.int .i64 0), (.int .i64 0)]))),
 ⟨none, .store 9 (.t 6) (.t 48), none⟩])
 (.seq
 (.reg [oo 49 (.load none (.t 1)),
 oo 50 (.call 57 [(.t 49), (.c (.str ⟨#[116, 104, 101, 110]⟩))])])
 (.seq
 (.reg [oo 51 (.load none (.t 1)),
 oo 52 (.call 199 [(.t 51)]),
 oo 7 (.new 297 (.c (.agg [(.int .i64 0), (.str ⟨#[]⟩), (.int .i64 0), .nils, .nils, .nils, .nils, (.int .i64 0), (.int .i64 0)]))),
 ⟨none, .store 9 (.t 7) (.t 52), none⟩])
 (.seq
 (.reg [oo 53 (.load none (.t 1)),
 oo 54 (.call 57 [(.t 53), (.c (.str ⟨#[101, 108, 115, 101]⟩))])])
 (.seq
 (.draw [] [([⟨(some 55), .load (some 9) (.t 6), none⟩], []),
 ([⟨(some 56), .load (some 9) (.t 7), none⟩], []),
 ([⟨(some 57), .load none (.t 1), none⟩], []),
 ([⟨(some 60), .load (some 2) (.t 3), none⟩], []),
 ([⟨(some 58), .call 199 [(.t 57)], none⟩], [⟨(some 55), .load (some 9) (.t 6), none⟩, ⟨(some 56), .load (some 9) (.t 7), none⟩, ⟨(some 60), .load (some 2) (.t 3), none⟩]),
 ([⟨(some 59), .lit true 297 9 [(.t 55), (.t 56), (.t 58)], none⟩], [⟨(some 60), .load (some 2) (.t 3), none⟩]),
 ([⟨(some 61), .build [(.int .i64 0), (.str ⟨#[]⟩), (.int .i64 0), .nils, .nils, .nils, .nils, (.int .i64 0), (.int .i64 0)] [(0, 1, (.c (.int .i64 8))), (4, 1, (.t 59)), (7, 2, (.t 60))], none⟩], []),
 ([⟨none, .store 9 (.t 2) (.t 61), none⟩], [])])
 .ret))))))
 (.seq
 (.reg [oo 63 (.load none (.t 1)),
 oo 64 (.call 96 [(.t 63), (.c (.str ⟨#[99, 97, 115, 101]⟩))]),
 mv 62 64])
 (.cond (.t 62)
 (.seq
 (.reg [oo 65 (.load none (.t 1)),
 oo 66 (.call 97 [(.t 65)])])
 (.seq
 (.draw [8] [([⟨(some 67), .load none (.t 1), none⟩], []),
 ([⟨(some 70), .load (some 2) (.t 3), none⟩], []),
 ([⟨(some 68), .call 199 [(.t 67)], none⟩], [⟨(some 70), .load (some 2) (.t 3), none⟩]),
 ([⟨(some 69), .lit true 297 9 [(.t 68)], none⟩], [⟨(some 70), .load (some 2) (.t 3), none⟩]),
 ([⟨(some 71), .build [(.int .i64 0), (.str ⟨#[]⟩), (.int .i64 0), .nils, .nils, .nils, .nils, (.int .i64 0), (.int .i64 0)] [(0, 1, (.c (.int .i64 7))), (4, 1, (.t 69)), (7, 2, (.t 70))], none⟩], []),
 ([⟨(some 8), .new 297 (.c (.agg [(.int .i64 0), (.str ⟨#[]⟩), (.int .i64 0), .nils, .nils, .nils, .nils, (.int .i64 0), (.int .i64 0)])), none⟩, ⟨none, .store 9 (.t 8) (.t 71), none⟩], [])])
 (.seq
 (.reg [oo 72 (.load none (.t 1)),
 oo 73 (.call 57 [(.t 72), (.c (.str ⟨#[111, 102]⟩))])])
 (.seq
 (.seq
 (.reg [oo 74 (.load none (.t 1)),
 oo 75 (.mkfn (.func 291) [] [(.t 8), (.t 1)]),
 oo 76 (.call 54 [(.t 74), (.t 75)]),
 mv 9 76])
 (.seq
 (.reg [mv 77 9,
 oo 78 (.bin .int .eql (.t 77) (.c (.int .i64 0)))])
 (.cond (.t 78)
 (.reg [oo 79 (.load none (.t 1)),
 oo 80 (.call 98 [(.t 79), (.c (.int .i64 60))])])
 .skip)))
 (.seq
 (.reg [oo 81 (.load none (.t 1)),
 oo 82 (.call 57 [(.t 81), (.c (.str ⟨#[125]⟩))])])
 (.seq
 (.reg [oo 83 (.load (some 9) (.t 8)),
 ⟨none, .store 9 (.t 2) (.t 83), none⟩])
 .ret))))))
 .skip)))))))))
 (.seq
 (.reg [oo 84 (.load none (.t 1)),
 oo 85 (.call 293 [(.t 84)]),
 oo 10 (.new 297 (.c (.agg [(.int .i64 0), (.str ⟨#[]⟩), (.int .i64 0), .nils, .nils, .nils, .nils, (.int .i64 0), (.int .i64 0)]))),
 ⟨none, .store 9 (.t 10) (.t 85), none⟩])
 (.seq
 (.block 1
 (.loop
 (.seq
 (.seq
 (.reg [oo 86 (.load none (.t 1)),
 oo 87 (.call 294 [(.t 86)])])
 (.cond (.t 87)
 .skip
 (.exit 1)))
 (.block 2
 (.draw [] [([⟨(some 88), .load (some 9) (.t 10), none⟩], []),
 ([⟨(some 89), .load none (.t 1), none⟩], []),
 ([⟨(some 92), .faddr 7 (.t 10), none⟩], []),
 ([⟨(some 93), .load (some 2) (.t 92), none⟩], []),
 ([⟨(some 90), .call 293 [(.t 89)], none⟩], [⟨(some 88), .load (some 9) (.t 10), none⟩, ⟨(some 92), .faddr 7 (.t 10), none⟩, ⟨(some 93), .load (some 2) (.t 92), none⟩]),
 ([⟨(some 91), .lit true 297 9 [(.t 88), (.t 90)], none⟩], [⟨(some 92), .faddr 7 (.t 10), none⟩, ⟨(some 93), .load (some 2) (.t 92), none⟩]),
 ([⟨(some 94), .build [(.int .i64 0), (.str ⟨#[]⟩), (.int .i64 0), .nils, .nils, .nils, .nils, (.int .i64 0), (.int .i64 0)] [(0, 1, (.c (.int .i64 4))), (4, 1, (.t 91)), (7, 2, (.t 93))], none⟩], []),
 ([⟨none, .store 9 (.t 10) (.t 94), none⟩], [])])))))
 (.seq
 (.reg [oo 95 (.load (some 9) (.t 10)),
 ⟨none, .store 9 (.t 2) (.t 95), none⟩])
 .ret))))))
theorem ent247 : EntOK Tryz.prog 247 ⟨96, v247, [.cell 2 (some 9)]⟩ := fun args σ K ha h =>
 enter (own := List.range 96) Tryz.func247 (by kernel_rfl) (by kernel_rfl) (by kernel_rfl) ha h
def v248 : ACode :=
(.seq
 (.reg [oo 3 (.new 297 (.t 1)),
 oo 4 (.move (.c .nils))])
 (.seq
 (.reg [oo 5 (.move (.c .nils))])
 (.seq
 (.seq
 (.reg [oo 11 (.faddr 6 (.t 3)),
 oo 12 (.load none (.t 11)),
 oo 13 (.len .slice (.t 12)),
 oo 14 (.move (.c (.int .i64 0)))])
 (.block 0
 (.loop
 (.seq
 (.reg [oo 15 (.bin .int .lss (.t 14) (.t 13))])
 (.seq
 (.cond (.t 15)
 .skip
 (.exit 0))
 (.seq
 (.block 1
 (.seq
 (.reg [oo 16 (.iaddr 4 (.t 12) (.t 14)),
 oo 17 (.load (some 4) (.t 16)),
 oo 7 (.new 151 (.c (.agg [(.str ⟨#[]⟩), .nils, (.int .i64 0), (.int .i64 0)]))),
 ⟨none, .store 4 (.t 7) (.t 17), none⟩])
 (.reg [mv 18 5,
 mv 19 0,
 oo 20 (.nilck (.t 19)),
 oo 21 (.faddr 0 (.t 20)),
 oo 22 (.load none (.t 21)),
 oo 23 (.faddr 0 (.t 7)),
 oo 24 (.load none (.t 23)),
 oo 25 (.call 295 [(.t 22), (.t 24)]),
 oo 26 (.lit true 219 5 [(.t 25)]),
 oo 27 (.append 219 5 48 (.t 18) (.t 26)),
 mv 5 27])))
 (.reg [oo 28 (.bin .int .add (.t 14) (.c (.int .i64 1))),
 mv 14 28])))))))
 (.seq
 (.reg [mv 30 5,
 oo 31 (.call 296 [(.t 30)]),
 mv 29 31,
 oo 32 (.extract (.t 29) 0),
 oo 33 (.extract (.t 29) 1),
 oo 34 (.extract (.t 29) 2),
 mv 8 32,
 mv 9 33,
 mv 10 34])
 (.seq
 (.seq
 (.reg [mv 35 10,
 oo 36 (.bin .int .neq (.t 35) (.c (.int .i64 0))),
 mv 37 36,
 og 38 37 true (.move (.t 0)),
 og 39 37 true (.nilck (.t 38)),
 og 40 37 true (.faddr 1 (.t 39)),
 og 41 37 true (.load none (.t 40)),
 og 42 37 true (.not (.t 41)),
 oo 43 (.pick (.t 37) (.t 42) (.c (.bool false)))])
 (.cond (.t 43)
 (.seq
 (.reg [mv 44 0,
 oo 45 (.nilck (.t 44)),
 oo 46 (.faddr 1 (.t 45)),
 ⟨none, .store 1 (.t 46) (.c (.bool true)), none⟩])
 (.reg [mv 47 0,
 mv 48 10,
 oo 49 (.faddr 6 (.t 3)),
 oo 50 (.load none (.t 49)),
 mv 51 9,
 oo 52 (.iaddr 4 (.t 50) (.t 51)),
 oo 53 (.faddr 2 (.t 52)),
 oo 54 (.load (some 2) (.t 53)),
 oo 55 (.build [(.int .i64 0), (.int .i64 0), (.int .i64 0)] [(0, 1, (.t 48)), (1, 2, (.t 54))]),
 oo 56 (.nilck (.t 47)),
 oo 57 (.faddr 2 (.t 56)),
 ⟨none, .store 3 (.t 57) (.t 55), none⟩]))
 .skip))
 (.seq
 (.reg [mv 58 8,
 mv 4 58])
 .ret))))))
theorem ent248 : EntOK Tryz.prog 248 ⟨59, v248, [.slot 4]⟩ := fun args σ K ha h =>
 enter (own := List.range 59) Tryz.func248 (by kernel_rfl) (by kernel_rfl) (by kernel_rfl) ha h
def v249 : ACode :=
(.seq
 (.reg [oo 8 (.new 297 (.c (.agg [(.int .i64 0), (.str ⟨#[]⟩), (.int .i64 0), .nils, .nils, .nils, .nils, (.int .i64 0), (.int .i64 0)])))])
 (.seq
 (.seq
 (.reg [mv 13 0,
 mv 9 13])
 (.block 0
 (.loop
 (.seq
 (.seq
 (.reg [mv 14 9,
 mv 15 1,
 oo 16 (.bin .int .lss (.t 14) (.t 15))])
 (.cond (.t 16)
 .skip
 (.exit 0)))
 (.seq
 (.block 1
 (.seq
 (.reg [oo 19 (.load none (.t 2)),
 mv 20 9,
 oo 21 (.iaddr 2 (.t 19) (.t 20)),
 oo 22 (.load (some 2) (.t 21)),
 mv 23 0,
 mv 24 1,
 oo 25 (.build [(.int .i64 0), (.int .i64 0)] [(0, 1, (.t 23)), (1, 1, (.t 24))]),
 oo 26 (.bin (.row [.int, .int]) .eql (.t 22) (.t 25))])
 (.cond (.t 26)
 (.seq
 (.reg [oo 27 (.faddr 6 (.t 3)),
 oo 28 (.load none (.t 27)),
 mv 29 9,
 oo 30 (.iaddr 4 (.t 28) (.t 29)),
 oo 31 (.load (some 4) (.t 30)),
 oo 10 (.new 151 (.c (.agg [(.str ⟨#[]⟩), .nils, (.int .i64 0), (.int .i64 0)]))),
 ⟨none, .store 4 (.t 10) (.t 31), none⟩])
 (.seq
 (.reg [oo 32 (.faddr 0 (.t 10)),
 oo 33 (.load none (.t 32)),
 oo 34 (.faddr 2 (.t 10)),
 oo 35 (.load (some 2) (.t 34)),
 oo 36 (.build [(.int .i64 0), (.str ⟨#[]⟩), (.int .i64 0), .nils, .nils, .nils, .nils, (.int .i64 0), (.int .i64 0)] [(0, 1, (.c (.int .i64 1))), (1, 1, (.t 33)), (7, 2, (.t 35))]),
 oo 11 (.new 297 (.c (.agg [(.int .i64 0), (.str ⟨#[]⟩), (.int .i64 0), .nils, .nils, .nils, .nils, (.int .i64 0), (.int .i64 0)]))),
 ⟨none, .store 9 (.t 11) (.t 36), none⟩])
 (.seq
 (.draw [12] [([⟨(some 37), .load (some 9) (.t 11), none⟩], []),
 ([⟨(some 38), .load none (.t 4), none⟩], []),
 ([⟨(some 39), .move (.t 0), none⟩], []),
 ([⟨(some 40), .move (.t 9), none⟩], []),
 ([⟨(some 43), .faddr 2 (.t 10), none⟩], []),
 ([⟨(some 44), .load (some 2) (.t 43), none⟩], []),
 ([⟨(some 41), .callv (.t 38) [(.t 39), (.t 40)], none⟩], [⟨(some 37), .load (some 9) (.t 11), none⟩, ⟨(some 43), .faddr 2 (.t 10), none⟩, ⟨(some 44), .load (some 2) (.t 43), none⟩]),
 ([⟨(some 42), .lit true 297 9 [(.t 37), (.t 41)], none⟩], [⟨(some 43), .faddr 2 (.t 10), none⟩, ⟨(some 44), .load (some 2) (.t 43), none⟩]),
 ([⟨(some 45), .build [(.int .i64 0), (.str ⟨#[]⟩), (.int .i64 0), .nils, .nils, .nils, .nils, (.int .i64 0), (.int .i64 0)] [(0, 1, (.c (.int .i64 4))), (4, 1, (.t 42)), (7, 2, (.t 44))], none⟩], []),
 ([⟨(some 12), .new 297 (.c (.agg [(.int .i64 0), (.str ⟨#[]⟩), (.int .i64 0), .nils, .nils, .nils, .nils, (.int .i64 0), (.int .i64 0)])), none⟩, ⟨none, .store 9 (.t 12) (.t 45), none⟩], [])])
 (.seq
 (.draw [] [([⟨(some 46), .load (some 9) (.t 12), none⟩], []),
 ([⟨(some 47), .load none (.t 4), none⟩], []),
 ([⟨(some 48), .move (.t 9), none⟩], []),
 ([⟨(some 49), .bin .int .add (.t 48) (.c (.int .i64 1)), none⟩], []),
 ([⟨(some 50), .move (.t 1), none⟩], []),
 ([⟨(some 53), .faddr 2 (.t 10), none⟩], []),
 ([⟨(some 54), .load (some 2) (.t 53), none⟩], []),
 ([⟨(some 51), .callv (.t 47) [(.t 49), (.t 50)], none⟩], [⟨(some 46), .load (some 9) (.t 12), none⟩, ⟨(some 53), .faddr 2 (.t 10), none⟩, ⟨(some 54), .load (some 2) (.t 53), none⟩]),
 ([⟨(some 52), .lit true 297 9 [(.t 46), (.t 51)], none⟩], [⟨(some 53), .faddr 2 (.t 10), none⟩, ⟨(some 54), .load (some 2) (.t 53), none⟩]),
 ([⟨(some 55), .build [(.int .i64 0), (.str ⟨#[]⟩), (.int .i64 0), .nils, .nils, .nils, .nils, (.int .i64 0), (.int .i64 0)] [(0, 1, (.c (.int .i64 4))), (4, 1, (.t 52)), (7, 2, (.t 54))], none⟩], []),
 ([⟨none, .store 9 (.t 8) (.t 55), none⟩], [])])
 .ret))))
 .skip)))
 (.reg [mv 17 9,
 oo 18 (.bin .int .add (.t 17) (.c (.int .i64 1))),
 mv 9 18]))))))
 (.seq
 (.reg [oo 56 (.load none (.t 5)),
 mv 57 0,
 oo 58 (.iaddr 9 (.t 56) (.t 57)),
 oo 59 (.load (some 9) (.t 58)),
 ⟨none, .store 9 (.t 8) (.t 59), none⟩])
 .ret)))
theorem ent249 : EntOK Tryz.prog 249 ⟨60, v249, [.cell 8 (some 9)]⟩ := fun args σ K ha h =>
 enter (own := List.range 60) Tryz.func249 (by kernel_rfl) (by kernel_rfl) (by kernel_rfl) ha h
def v251 : ACode :=
(.seq
 (.reg [oo 4 (.move (.c (.bool false)))])
 (.seq
 (.reg [mv 8 0,
 oo 9 (.call 297 [(.t 8)]),
 mv 7 9,
 oo 10 (.extract (.t 7) 0),
 oo 11 (.extract (.t 7) 1),
 oo 5 (.new 132 (.c (.agg [(.int .i64 0), (.str ⟨#[]⟩), (.int .i64 0), (.int .i64 0), (.int .i64 0), (.bool false)]))),
 ⟨none, .store 6 (.t 5) (.t 10), none⟩,
 mv 6 11])
 (.seq
 (.reg [mv 12 6,
 mv 13 12,
 og 14 13 true (.faddr 0 (.t 5)),
 og 15 13 true (.load none (.t 14)),
 og 16 13 true (.move (.t 1)),
 og 17 13 true (.bin .int .eql (.t 15) (.t 16)),
 oo 18 (.pick (.t 13) (.t 17) (.c (.bool false))),
 mv 4 18])
 .ret)))
theorem ent251 : EntOK Tryz.prog 251 ⟨19, v251, [.slot 4]⟩ := fun args σ K ha h =>
 enter (own := List.range 19) Tryz.func251 (by kernel_rfl) (by kernel_rfl) (by kernel_rfl) ha h
def v252 : ACode :=
(.seq
 (.reg [oo 4 (.move (.c (.bool false)))])
 (.seq
 (.seq
 (.reg [mv 7 0,
 oo 8 (.len .slice (.t 7)),
 oo 9 (.move (.c (.int .i64 0)))])
 (.block 0
 (.loop
 (.seq
 (.reg [oo 10 (.bin .int .lss (.t 9) (.t 8))])
 (.seq
 (.cond (.t 10)
 .skip
 (.exit 0))
 (.seq
 (.block 1
 (.seq
 (.reg [oo 11 (.iaddr 1 (.t 7) (.t 9)),
 oo 12 (.load none (.t 11)),
 mv 6 12])
 (.seq
 (.reg [mv 13 1,
 mv 14 6,
 oo 15 (.callv (.t 13) [(.t 14)]),
 oo 16 (.not (.t 15))])
 (.cond (.t 16)
 (.seq
 (.reg [oo 4 (.move (.c (.bool false)))])
 .ret)
 .skip))))
 (.reg [oo 17 (.bin .int .add (.t 9) (.c (.int .i64 1))),
 mv 9 17])))))))
 (.seq
 (.reg [oo 4 (.move (.c (.bool true)))])
 .ret)))
theorem ent252 : EntOK Tryz.prog 252 ⟨18, v252, [.slot 4]⟩ := fun args σ K ha h =>
 enter (own := List.range 18) Tryz.func252 (by kernel_rfl) (by kernel_rfl) (by kernel_rfl) ha h
def v257 : ACode :=
(.seq
 (.reg [oo 2 (.move (.c (.bool false)))])
 (.seq
 (.reg [mv 3 0,
 oo 4 (.call 251 [(.t 3), (.c (.int .i64 1))]),
 mv 5 4,
 og 6 5 false (.move (.t 0)),
 og 7 5 false (.call 251 [(.t 6), (.c (.int .i64 3))]),
 oo 8 (.pick (.t 5) (.c (.bool true)) (.t 7)),
 mv 2 8])
 .ret))
theorem ent257 : EntOK Tryz.prog 257 ⟨9, v257, [.slot 2]⟩ := fun args σ K ha h =>
 enter (own := List.range 9) Tryz.func257 (by kernel_rfl) (by kernel_rfl) (by kernel_rfl) ha h
def v258 : ACode :=
(.seq
 (.reg [oo 4 (.move (.c (.bool false)))])
 (.seq
 (.seq
 (.reg [mv 7 0,
 oo 8 (.len .slice (.t 7)),
 oo 9 (.move (.c (.int .i64 0)))])
 (.block 0
 (.loop
 (.seq
 (.reg [oo 10 (.bin .int .lss (.t 9) (.t 8))])
 (.seq
 (.cond (.t 10)
 .skip
 (.exit 0))
 (.seq
 (.block 1
 (.seq
 (.reg [oo 11 (.iaddr 6 (.t 7) (.t 9)),
 oo 12 (.load (some 6) (.t 11)),
 oo 6 (.new 291 (.c (.agg [(.int .i64 0), (.str ⟨#[]⟩), (.int .i64 0), .nils, (.int .i64 0), (.int .i64 0)]))),
 ⟨none, .store 6 (.t 6) (.t 12), none⟩])
 (.seq
 (.reg [mv 13 1,
 oo 14 (.load (some 6) (.t 6)),
 oo 15 (.callv (.t 13) [(.t 14)]),
 oo 16 (.not (.t 15))])
 (.cond (.t 16)
 (.seq
 (.reg [oo 4 (.move (.c (.bool false)))])
 .ret)
 .skip))))
 (.reg [oo 17 (.bin .int .add (.t 9) (.c (.int .i64 1))),
 mv 9 17])))))))
 (.seq
 (.reg [oo 4 (.move (.c (.bool true)))])
 .ret)))
theorem ent258 : EntOK Tryz.prog 258 ⟨18, v258, [.slot 4]⟩ := fun args σ K ha h =>
 enter (own := List.range 18) Tryz.func258 (by kernel_rfl) (by kernel_rfl) (by kernel_rfl) ha h
def v260 : ACode :=
(.seq
 (.reg [oo 2 (.move (.c (.bool false)))])
 (.seq
 (.seq
 (.reg [mv 3 0,
 oo 4 (.len .slice (.t 3)),
 oo 5 (.bin .int .eql (.t 4) (.c (.int .i64 1))),
 mv 6 5,
 og 7 6 true (.move (.t 0)),
 og 8 6 true (.iaddr 10 (.t 7) (.c (.int .i64 0))),
 og 9 6 true (.faddr 0 (.t 8)),
 og 10 6 true (.load none (.t 9)),
 og 11 6 true (.len .slice (.t 10)),
 og 12 6 true (.bin .int .eql (.t 11) (.c (.int .i64 0))),
 oo 13 (.pick (.t 6) (.t 12) (.c (.bool false)))])
 (.cond (.t 13)
 (.seq
 (.reg [mv 14 0,
 oo 15 (.iaddr 10 (.t 14) (.c (.int .i64 0))),
 oo 16 (.faddr 1 (.t 15)),
 oo 17 (.load (some 9) (.t 16)),
 oo 18 (.call 298 [(.t 17)]),
 mv 2 18])
 .ret)
 .skip))
 (.seq
 (.reg [mv 19 0,
 oo 20 (.len .slice (.t 19)),
 oo 21 (.bin .int .gtr (.t 20) (.c (.int .i64 0))),
 mv 22 21,
 og 23 22 true (.move (.t 0)),
 og 24 22 true (.call 299 [(.t 23), (.c (.fn (.func 300) [] []))]),
 oo 25 (.pick (.t 22) (.t 24) (.c (.bool false))),
 mv 2 25])
 .ret)))
theorem ent260 : EntOK Tryz.prog 260 ⟨26, v260, [.slot 2]⟩ := fun args σ K ha h =>
 enter (own := List.range 26) Tryz.func260 (by kernel_rfl) (by kernel_rfl) (by kernel_rfl) ha h
def v261 : ACode :=
(.seq
 (.reg [oo 3 (.new 302 (.t 0)),
 oo 5 (.new 222 (.t 2))])
 (.seq
 (.reg [oo 6 (.move (.c .nils))])
 (.seq
 (.seq
 (.reg [mv 9 1,
 oo 10 (.len .slice (.t 9)),
 oo 11 (.move (.c (.int .i64 0)))])
 (.block 0
 (.loop
 (.seq
 (.reg [oo 12 (.bin .int .lss (.t 11) (.t 10))])
 (.seq
 (.cond (.t 12)
 .skip
 (.exit 0))
 (.seq
 (.block 1
 (.seq
 (.reg [oo 13 (.iaddr 6 (.t 9) (.t 11)),
 oo 14 (.load (some 6) (.t 13)),
 oo 8 (.new 291 (.c (.agg [(.int .i64 0), (.str ⟨#[]⟩), (.int .i64 0), .nils, (.int .i64 0), (.int .i64 0)]))),
 ⟨none, .store 6 (.t 8) (.t 14), none⟩])
 (.reg [oo 15 (.load none (.t 3)),
 oo 16 (.load (some 6) (.t 8)),
 mv 17 6,
 oo 18 (.call 301 [(.t 15), (.t 16), (.t 17)]),
 mv 6 18])))
 (.reg [oo 19 (.bin .int .add (.t 11) (.c (.int .i64 1))),
 mv 11 19])))))))
 (.reg [oo 20 (.load none (.t 3)),
 mv 21 6,
 oo 22 (.mkfn (.func 302) [] [(.t 3), (.t 5)]),
 oo 23 (.call 206 [(.t 20), (.t 21), (.t 22)])]))))
theorem ent261 : EntOK Tryz.prog 261 ⟨24, v261, []⟩ := fun args σ K ha h =>
 enter (own := List.range 24) Tryz.func261 (by kernel_rfl) (by kernel_rfl) (by kernel_rfl) ha h
def v262 : ACode :=
(.seq
 (.reg [mv 8 1,
 oo 9 (.len .slice (.t 8)),
 oo 10 (.move (.c (.int .i64 0)))])
 (.block 0
 (.loop
 (.seq
 (.reg [oo 11 (.bin .int .lss (.t 10) (.t 9))])
 (.seq
 (.cond (.t 11)
 .skip
 (.exit 0))
 (.seq
 (.block 1
 (.seq
 (.reg [oo 12 (.iaddr 4 (.t 8) (.t 10)),
 oo 13 (.load (some 4) (.t 12)),
 oo 5 (.new 151 (.c (.agg [(.str ⟨#[]⟩), .nils, (.int .i64 0), (.int .i64 0)]))),
 ⟨none, .store 4 (.t 5) (.t 13), none⟩])
 (.seq
 (.reg [oo 14 (.faddr 1 (.t 5)),
 oo 15 (.load none (.t 14)),
 oo 16 (.len .slice (.t 15)),
 oo 17 (.move (.c (.int .i64 0)))])
 (.block 2
 (.loop
 (.seq
 (.reg [oo 18 (.bin .int .lss (.t 17) (.t 16))])
 (.seq
 (.cond (.t 18)
 .skip
 (.exit 2))
 (.seq
 (.block 3
 (.seq
 (.reg [oo 19 (.iaddr 2 (.t 15) (.t 17)),
 oo 20 (.load (some 2) (.t 19)),
 oo 7 (.new 224 (.c (.agg [.nils, .nils]))),
 ⟨none, .store 2 (.t 7) (.t 20), none⟩])
 (.reg [mv 21 0,
 oo 22 (.faddr 0 (.t 7)),
 oo 23 (.load none (.t 22)),
 oo 24 (.faddr 1 (.t 7)),
 oo 25 (.load none (.t 24)),
 oo 26 (.call 304 [(.t 21), (.t 23), (.t 25)])])))
 (.reg [oo 27 (.bin .int .add (.t 17) (.c (.int .i64 1))),
 mv 17 27])))))))))
 (.reg [oo 28 (.bin .int .add (.t 10) (.c (.int .i64 1))),
 mv 10 28])))))))
theorem ent262 : EntOK Tryz.prog 262 ⟨29, v262, []⟩ := fun args σ K ha h =>
 enter (own := List.range 29) Tryz.func262 (by kernel_rfl) (by kernel_rfl) (by kernel_rfl) ha h
def v263 : ACode :=
(.seq
 (.reg [oo 2 (.move (.c (.int .i64 0)))])
 (.seq
 (.seq
 (.reg [mv 7 0,
 oo 8 (.len .slice (.t 7)),
 oo 9 (.bin .int .gtr (.t 8) (.c (.int .i64 2048)))])
 (.cond (.t 9)
 (.seq
 (.reg [oo 2 (.move (.c (.int .i64 2)))])
 .ret)
 .skip))
 (.seq
 (.seq
 (.reg [mv 10 0,
 oo 11 (.len .slice (.t 10)),
 oo 12 (.move (.c (.int .i64 0)))])
 (.block 0
 (.loop
 (.seq
 (.reg [oo 13 (.bin .int .lss (.t 12) (.t 11))])
 (.seq
 (.cond (.t 13)
 .skip
 (.exit 0))
 (.seq
 (.block 1
 (.seq
 (.reg [oo 14 (.iaddr 1 (.t 10) (.t 12)),
 oo 15 (.load none (.t 14)),
 mv 4 15])
 (.seq
 (.reg [mv 16 4,
 oo 17 (.len .slice (.t 16)),
 oo 18 (.move (.c (.int .i64 0)))])
 (.block 2
 (.loop
 (.seq
 (.reg [oo 19 (.bin .int .lss (.t 18) (.t 17))])
 (.seq
 (.cond (.t 19)
 .skip
 (.exit 2))
 (.seq
 (.block 3
 (.seq
 (.reg [oo 20 (.iaddr 1 (.t 16) (.t 18)),
 oo 21 (.load none (.t 20)),
 mv 6 21])
 (.seq
 (.reg [mv 22 6,
 oo 23 (.bin .int .lss (.t 22) (.c (.int .i64 0))),
 mv 24 23,
 og 25 24 false (.move (.t 6)),
 og 26 24 false (.move (.t 0)),
 og 27 24 false (.len .slice (.t 26)),
 og 28 24 false (.bin .int .geq (.t 25) (.t 27)),
 oo 29 (.pick (.t 24) (.c (.bool true)) (.t 28))])
 (.cond (.t 29)
 (.seq
 (.reg [oo 2 (.move (.c (.int .i64 1)))])
 .ret)
 .skip))))
 (.reg [oo 30 (.bin .int .add (.t 18) (.c (.int .i64 1))),
 mv 18 30])))))))))
 (.reg [oo 31 (.bin .int .add (.t 12) (.c (.int .i64 1))),
 mv 12 31])))))))
 (.seq
 (.reg [oo 2 (.move (.c (.int .i64 0)))])
 .ret))))
theorem ent263 : EntOK Tryz.prog 263 ⟨32, v263, [.slot 2]⟩ := fun args σ K ha h =>
 enter (own := List.range 32) Tryz.func263 (by kernel_rfl) (by kernel_rfl) (by kernel_rfl) ha h
def v264 : ACode :=
(.seq
 (.reg [oo 2 (.move (.c .nils)),
 oo 3 (.move (.c (.int .i64 0)))])
 (.seq
 (.reg [mv 7 0,
 oo 8 (.len .slice (.t 7)),
 mv 4 8])
 (.seq
 (.perm [([⟨(some 9), .move (.t 0), none⟩], []),
 ([⟨(some 10), .move (.t 4), none⟩], []),
 ([⟨(some 12), .move (.t 4), none⟩], []),
 ([⟨(some 14), .move (.t 4), none⟩], []),
 ([⟨(some 16), .move (.t 4), none⟩], [])] [(2, [⟨(some 11), .mkslice 3 1 8 [(.int .i64 0)] (.t 10) (.t 10), none⟩], []),
 (4, [⟨(some 13), .mkslice 3 1 8 [(.int .i64 0)] (.t 12) (.t 12), none⟩], []),
 (6, [⟨(some 15), .mkslice 4 1 1 [(.bool false)] (.t 14) (.t 14), none⟩], []),
 (8, [⟨(some 17), .mkslice 3 1 8 [(.int .i64 0)] (.t 16) (.t 16), none⟩], [])] [([⟨(some 18), .build [.nils, .nils, .nils, .nils, .nils, .nils, (.int .i64 0), (.int .i64 0)] [(0, 1, (.t 9)), (1, 1, (.t 11)), (2, 1, (.t 13)), (4, 1, (.t 15)), (5, 1, (.t 17))], none⟩], []),
 ([⟨(some 19), .new 465 (.t 18), none⟩], []),
 ([⟨(some 5), .move (.t 19), none⟩], [])])
 (.seq
 (.seq
 (.reg [mv 20 0,
 oo 21 (.len .slice (.t 20)),
 oo 22 (.move (.c (.int .i64 0)))])
 (.block 0
 (.loop
 (.seq
 (.reg [oo 23 (.bin .int .lss (.t 22) (.t 21))])
 (.seq
 (.cond (.t 23)
 .skip
 (.exit 0))
 (.seq
 (.block 1
 (.seq
 (.reg [mv 24 22,
 mv 6 24])
 (.seq
 (.reg [mv 25 5,
 oo 26 (.nilck (.t 25)),
 oo 27 (.faddr 1 (.t 26)),
 oo 28 (.load none (.t 27)),
 mv 29 6,
 oo 30 (.iaddr 1 (.t 28) (.t 29)),
 oo 31 (.load none (.t 30)),
 oo 32 (.bin .int .eql (.t 31) (.c (.int .i64 0)))])
 (.cond (.t 32)
 (.reg [mv 33 5,
 mv 34 6,
 oo 35 (.call 305 [(.t 33), (.t 34)])])
 .skip))))
 (.reg [oo 36 (.bin .int .add (.t 22) (.c (.int .i64 1))),
 mv 22 36])))))))
 (.seq
 (.reg [mv 37 5,
 oo 38 (.nilck (.t 37)),
 oo 39 (.faddr 5 (.t 38)),
 oo 40 (.load none (.t 39)),
 mv 41 5,
 oo 42 (.nilck (.t 41)),
 oo 43 (.faddr 7 (.t 42)),
 oo 44 (.load none (.t 43)),
 mv 2 40,
 mv 3 44])
 .ret)))))
theorem ent264 : EntOK Tryz.prog 264 ⟨45, v264, [.slot 2, .slot 3]⟩ := fun args σ K ha h =>
 enter (own := List.range 45) Tryz.func264 (by kernel_rfl) (by kernel_rfl) (by kernel_rfl) ha h
def v265 : ACode :=
(.seq
 (.reg [oo 8 (.move (.c (.int .i64 0)))])
 (.seq
 (.seq
 (.reg [mv 11 0,
 oo 12 (.len .slice (.t 11)),
 oo 13 (.move (.c (.int .i64 0)))])
 (.block 0
 (.loop
 (.seq
 (.reg [oo 14 (.bin .int .lss (.t 13) (.t 12))])
 (.seq
 (.cond (.t 14)
 .skip
 (.exit 0))
 (.seq
 (.block 1
 (.seq
 (.reg [mv 15 13,
 mv 9 15])
 (.seq
 (.reg [mv 16 1,
 mv 17 9,
 oo 18 (.iaddr 1 (.t 16) (.t 17)),
 oo 19 (.load none (.t 18)),
 mv 10 19])
 (.seq
 (.reg [mv 20 3,
 mv 21 10,
 oo 22 (.iaddr 1 (.t 20) (.t 21)),
 oo 23 (.load none (.t 22)),
 oo 24 (.not (.t 23)),
 mv 25 24,
 og 26 25 true (.move (.t 2)),
 og 27 25 true (.move (.t 10)),
 og 28 25 true (.iaddr 1 (.t 26) (.t 27)),
 og 29 25 true (.load none (.t 28)),
 og 30 25 true (.iaddr 1 (.t 29) (.c (.int .i64 0))),
 og 31 25 true (.load none (.t 30)),
 og 32 25 true (.move (.t 9)),
 og 33 25 true (.bin .int .eql (.t 31) (.t 32)),
 oo 34 (.pick (.t 25) (.t 33) (.c (.bool false))),
 mv 35 34,
 og 36 35 true (.move (.t 0)),
 og 37 35 true (.move (.t 1)),
 og 38 35 true (.move (.t 2)),
 og 39 35 true (.move (.t 10)),
 og 40 35 true (.iaddr 1 (.t 38) (.t 39)),
 og 41 35 true (.load none (.t 40)),
 og 42 35 true (.move (.t 3)),
 og 43 35 true (.call 306 [(.t 36), (.t 37), (.t 41), (.t 42)]),
 oo 44 (.pick (.t 35) (.t 43) (.c (.bool false)))])
 (.cond (.t 44)
 (.seq
 (.reg [mv 45 10,
 mv 8 45])
 .ret)
 .skip)))))
 (.reg [oo 46 (.bin .int .add (.t 13) (.c (.int .i64 1))),
 mv 13 46])))))))
 (.seq
 (.reg [oo 8 (.move (.c (.int .i64 0)))])
 .ret)))
theorem ent265 : EntOK Tryz.prog 265 ⟨47, v265, [.slot 8]⟩ := fun args σ K ha h =>
 enter (own := List.range 47) Tryz.func265 (by kernel_rfl) (by kernel_rfl) (by kernel_rfl) ha h
def v266 : ACode :=
(.seq
 (.reg [oo 2 (.new 247 (.c (.agg [(.int .i64 0), (.int .i64 0), (.str ⟨#[]⟩), .nils])))])
 (.seq
 (.seq
 (.reg [mv 4 0,
 oo 5 (.nileq .ptr false (.t 4) (.c .nilp))])
 (.cond (.t 5)
 (.seq
 (.reg [oo 6 (.call 307 [(.c (.int .i64 0))]),
 ⟨none, .store 4 (.t 2) (.t 6), none⟩])
 .ret)
 .skip))
 (.seq
 (.reg [mv 7 0,
 oo 8 (.nilck (.t 7)),
 oo 9 (.faddr 1 (.t 8)),
 oo 10 (.load none (.t 9)),
 mv 3 10])
 (.seq
 (.reg [mv 11 0,
 oo 12 (.nilck (.t 11)),
 oo 13 (.faddr 1 (.t 12)),
 oo 14 (.load none (.t 13)),
 oo 15 (.bin .int .add (.t 14) (.c (.int .i64 1))),
 oo 16 (.nilck (.t 11)),
 oo 17 (.faddr 1 (.t 16)),
 ⟨none, .store 1 (.t 17) (.t 15), none⟩])
 (.seq
 (.reg [mv 18 3,
 oo 19 (.call 307 [(.t 18)]),
 ⟨none, .store 4 (.t 2) (.t 19), none⟩])
 .ret)))))
theorem ent266 : EntOK Tryz.prog 266 ⟨20, v266, [.cell 2 (some 4)]⟩ := fun args σ K ha h =>
 enter (own := List.range 20) Tryz.func266 (by kernel_rfl) (by kernel_rfl) (by kernel_rfl) ha h
def v268 : ACode :=
(.seq
 (.reg [oo 5 (.new 247 (.t 1)),
 oo 6 (.new 247 (.t 2)),
 oo 7 (.new 80 (.t 3))])
 (.seq
 (.seq
 (.reg [mv 9 0,
 oo 10 (.nilck (.t 9)),
 oo 11 (.faddr 3 (.t 10)),
 oo 12 (.load none (.t 11))])
 (.cond (.t 12)
 .ret
 .skip))
 (.seq
 (.reg [mv 13 0,
 oo 14 (.nilck (.t 13)),
 oo 15 (.faddr 0 (.t 14)),
 oo 16 (.load none (.t 15)),
 oo 17 (.load (some 4) (.t 5)),
 oo 18 (.load (some 4) (.t 6)),
 oo 19 (.call 310 [(.t 16), (.t 17), (.t 18)]),
 mv 8 19])
 (.seq
 (.reg [mv 20 8,
 oo 21 (.bin .int .neq (.t 20) (.c (.int .i64 0)))])
 (.cond (.t 21)
 (.reg [mv 22 0,
 mv 23 8,
 oo 24 (.load (some 2) (.t 7)),
 oo 25 (.call 217 [(.t 22), (.t 23), (.t 24)])])
 .skip)))))
theorem ent268 : EntOK Tryz.prog 268 ⟨26, v268, []⟩ := fun args σ K ha h =>
 enter (own := List.range 26) Tryz.func268 (by kernel_rfl) (by kernel_rfl) (by kernel_rfl) ha h
def v269 : ACode :=
(.seq
 (.reg [oo 3 (.new 247 (.t 1)),
 oo 4 (.new 247 (.c (.agg [(.int .i64 0), (.int .i64 0), (.str ⟨#[]⟩), .nils])))])
 (.seq
 (.seq
 (.reg [mv 6 0,
 oo 7 (.len .slice (.t 6)),
 oo 8 (.bin .int .sub (.t 7) (.c (.int .i64 1))),
 mv 5 8])
 (.block 0
 (.loop
 (.seq
 (.seq
 (.reg [mv 9 5,
 oo 10 (.bin .int .geq (.t 9) (.c (.int .i64 0)))])
 (.cond (.t 10)
 .skip
 (.exit 0)))
 (.seq
 (.block 1
 (.reg [mv 13 0,
 mv 14 5,
 oo 15 (.iaddr 4 (.t 13) (.t 14)),
 oo 16 (.load (some 4) (.t 15)),
 oo 17 (.load (some 4) (.t 3)),
 oo 18 (.call 311 [(.t 16), (.t 17)]),
 ⟨none, .store 4 (.t 3) (.t 18), none⟩]))
 (.reg [mv 11 5,
 oo 12 (.bin .int .sub (.t 11) (.c (.int .i64 1))),
 mv 5 12]))))))
 (.seq
 (.reg [oo 19 (.load (some 4) (.t 3)),
 ⟨none, .store 4 (.t 4) (.t 19), none⟩])
 .ret)))
theorem ent269 : EntOK Tryz.prog 269 ⟨20, v269, [.cell 4 (some 4)]⟩ := fun args σ K ha h =>
 enter (own := List.range 20) Tryz.func269 (by kernel_rfl) (by kernel_rfl) (by kernel_rfl) ha h
def v270 : ACode :=
(.reg [oo 4 (.load none (.t 0)),
 oo 5 (.faddr 1 (.t 1)),
 oo 6 (.load none (.t 5)),
 oo 7 (.load (some 4) (.t 2)),
 oo 8 (.call 271 [(.t 4), (.t 6), (.t 7)]),
 oo 9 (.faddr 1 (.t 3)),
 ⟨none, .store 1 (.t 9) (.t 8), none⟩])
theorem ent270 : EntOK Tryz.prog 270 ⟨10, v270, []⟩ := fun args σ K ha h =>
 enter (own := List.range 10) Tryz.func270 (by kernel_rfl) (by kernel_rfl) (by kernel_rfl) ha h
def v271 : ACode :=
(.seq
 (.reg [oo 5 (.new 247 (.t 2)),
 oo 6 (.move (.c .nils))])
 (.seq
 (.reg [oo 7 (.move (.c .nils))])
 (.seq
 (.seq
 (.reg [mv 14 1,
 oo 15 (.len .slice (.t 14)),
 oo 16 (.move (.c (.int .i64 0)))])
 (.block 0
 (.loop
 (.seq
 (.reg [oo 17 (.bin .int .lss (.t 16) (.t 15))])
 (.seq
 (.cond (.t 17)
 .skip
 (.exit 0))
 (.seq
 (.block 1
 (.seq
 (.reg [oo 18 (.iaddr 10 (.t 14) (.t 16)),
 oo 19 (.load (some 10) (.t 18)),
 oo 9 (.new 299 (.c (.agg [.nils, (.int .i64 0), (.str ⟨#[]⟩), (.int .i64 0), .nils, .nils, .nils, .nils, (.int .i64 0), (.int .i64 0)]))),
 ⟨none, .store 10 (.t 9) (.t 19), none⟩])
 (.seq
 (.reg [oo 10 (.new 386 (.c (.agg [.nils, (.int .i64 0), (.int .i64 0), (.str ⟨#[]⟩), .nils, .nils, .nils, .nils, .nils])))])
 (.seq
 (.seq
 (.reg [oo 20 (.faddr 0 (.t 9)),
 oo 21 (.load none (.t 20)),
 oo 22 (.len .slice (.t 21)),
 oo 23 (.move (.c (.int .i64 0)))])
 (.block 2
 (.loop
 (.seq
 (.reg [oo 24 (.bin .int .lss (.t 23) (.t 22))])
 (.seq
 (.cond (.t 24)
 .skip
 (.exit 2))
 (.seq
 (.block 3
 (.seq
 (.reg [oo 25 (.iaddr 9 (.t 21) (.t 23)),
 oo 26 (.load (some 9) (.t 25)),
 oo 12 (.new 297 (.c (.agg [(.int .i64 0), (.str ⟨#[]⟩), (.int .i64 0), .nils, .nils, .nils, .nils, (.int .i64 0), (.int .i64 0)]))),
 ⟨none, .store 9 (.t 12) (.t 26), none⟩])
 (.seq
 (.reg [mv 27 0,
 oo 28 (.load (some 9) (.t 12)),
 oo 29 (.call 312 [(.t 27), (.t 28)]),
 oo 13 (.new 384 (.c (.agg [(.int .i64 0), (.int .i64 0), (.str ⟨#[]⟩), .nils, .nils, .nils, .nils, .nils]))),
 ⟨none, .store 8 (.t 13) (.t 29), none⟩])
 (.seq
 (.draw [] [([⟨(some 30), .move (.t 0), none⟩], []),
 ([⟨(some 31), .faddr 0 (.t 13), none⟩], []),
 ([⟨(some 32), .load (some 4) (.t 31), none⟩], []),
 ([⟨(some 34), .faddr 7 (.t 12), none⟩], []),
 ([⟨(some 35), .load (some 2) (.t 34), none⟩], []),
 ([⟨(some 33), .call 308 [(.c (.str ⟨#[66, 111, 111, 108]⟩))], none⟩], [⟨(some 31), .faddr 0 (.t 13), none⟩, ⟨(some 32), .load (some 4) (.t 31), none⟩, ⟨(some 34), .faddr 7 (.t 12), none⟩, ⟨(some 35), .load (some 2) (.t 34), none⟩]),
 ([⟨(some 36), .call 268 [(.t 30), (.t 32), (.t 33), (.t 35)], none⟩], [])])
 (.reg [oo 37 (.faddr 0 (.t 10)),
 oo 38 (.load none (.t 37)),
 oo 39 (.load (some 8) (.t 13)),
 oo 40 (.lit true 384 8 [(.t 39)]),
 oo 41 (.append 384 8 152 (.t 38) (.t 40)),
 oo 42 (.faddr 0 (.t 10)),
 ⟨none, .store 1 (.t 42) (.t 41), none⟩])))))
 (.reg [oo 43 (.bin .int .add (.t 23) (.c (.int .i64 1))),
 mv 23 43])))))))
 (.seq
 (.reg [mv 44 0,
 oo 45 (.faddr 1 (.t 9)),
 oo 46 (.load (some 9) (.t 45)),
 oo 47 (.call 312 [(.t 44), (.t 46)]),
 oo 48 (.faddr 1 (.t 10)),
 ⟨none, .store 8 (.t 48) (.t 47), none⟩])
 (.seq
 (.reg [mv 49 0,
 oo 50 (.faddr 1 (.t 10)),
 oo 51 (.faddr 0 (.t 50)),
 oo 52 (.load (some 4) (.t 51)),
 oo 53 (.load (some 4) (.t 5)),
 oo 54 (.faddr 1 (.t 9)),
 oo 55 (.faddr 7 (.t 54)),
 oo 56 (.load (some 2) (.t 55)),
 oo 57 (.call 268 [(.t 49), (.t 52), (.t 53), (.t 56)])])
 (.reg [mv 58 7,
 oo 59 (.load (some 9) (.t 10)),
 oo 60 (.lit true 386 9 [(.t 59)]),
 oo 61 (.append 386 9 176 (.t 58) (.t 60)),
 mv 7 61])))))))
 (.reg [oo 62 (.bin .int .add (.t 16) (.c (.int .i64 1))),
 mv 16 62])))))))
 (.seq
 (.reg [mv 63 7,
 mv 6 63])
 .ret))))
theorem ent271 : EntOK Tryz.prog 271 ⟨64, v271, [.slot 6]⟩ := fun args σ K ha h =>
 enter (own := List.range 64) Tryz.func271 (by kernel_rfl) (by kernel_rfl) (by kernel_rfl) ha h
def v273 : ACode :=
(.seq
 (.reg [oo 1 (.new 247 (.t 0)),
 oo 2 (.move (.c (.bool false)))])
 (.seq
 (.seq
 (.reg [oo 5 (.faddr 0 (.t 1)),
 oo 6 (.load none (.t 5))])
 (.block 0
 (.seq
 (.reg [oo 8 (.bin .int .eql (.t 6) (.c (.int .i64 1))),
 mv 7 8])
 (.cond (.t 7)
 (.seq
 (.reg [oo 9 (.faddr 1 (.t 1)),
 oo 10 (.load none (.t 9)),
 oo 11 (.bin .int .geq (.t 10) (.c (.int .i64 0))),
 mv 12 11,
 og 13 12 true (.faddr 1 (.t 1)),
 og 14 12 true (.load none (.t 13)),
 og 15 12 true (.bin .int .leq (.t 14) (.c (.int .i64 1073741824))),
 oo 16 (.pick (.t 12) (.t 15) (.c (.bool false))),
 mv 17 16,
 og 18 17 true (.faddr 2 (.t 1)),
 og 19 17 true (.load none (.t 18)),
 og 20 17 true (.bin .str .eql (.t 19) (.c (.str ⟨#[]⟩))),
 oo 21 (.pick (.t 17) (.t 20) (.c (.bool false))),
 mv 22 21,
 og 23 22 true (.faddr 3 (.t 1)),
 og 24 22 true (.load none (.t 23)),
 og 25 22 true (.len .slice (.t 24)),
 og 26 22 true (.bin .int .eql (.t 25) (.c (.int .i64 0))),
 oo 27 (.pick (.t 22) (.t 26) (.c (.bool false))),
 mv 2 27])
 .ret)
 (.seq
 (.reg [oo 29 (.bin .int .eql (.t 6) (.c (.int .i64 2))),
 mv 28 29])
 (.cond (.t 28)
 (.seq
 (.reg [oo 30 (.faddr 2 (.t 1)),
 oo 31 (.load none (.t 30)),
 oo 32 (.bin .str .eql (.t 31) (.c (.str ⟨#[]⟩))),
 mv 33 32,
 og 34 33 false (.faddr 1 (.t 1)),
 og 35 33 false (.load none (.t 34)),
 og 36 33 false (.bin .int .neq (.t 35) (.c (.int .i64 0))),
 oo 37 (.pick (.t 33) (.c (.bool true)) (.t 36))])
 (.cond (.t 37)
 (.seq
 (.reg [oo 2 (.move (.c (.bool false)))])
 .ret)
 .skip))
 (.seq
 (.reg [oo 39 (.bin .int .eql (.t 6) (.c (.int .i64 3))),
 mv 38 39])
 (.cond (.t 38)
 (.seq
 (.reg [oo 40 (.faddr 2 (.t 1)),
 oo 41 (.load none (.t 40)),
 oo 42 (.bin .str .neq (.t 41) (.c (.str ⟨#[]⟩))),
 mv 43 42,
 og 44 43 false (.faddr 1 (.t 1)),
 og 45 43 false (.load none (.t 44)),
 og 46 43 false (.bin .int .neq (.t 45) (.c (.int .i64 0))),
 oo 47 (.pick (.t 43) (.c (.bool true)) (.t 46)),
 mv 48 47,
 og 49 48 false (.faddr 3 (.t 1)),
 og 50 48 false (.load none (.t 49)),
 og 51 48 false (.len .slice (.t 50)),
 og 52 48 false (.bin .int .neq (.t 51) (.c (.int .i64 2))),
 oo 53 (.pick (.t 48) (.c (.bool true)) (.t 52))])
 (.cond (.t 53)
 (.seq
 (.reg [oo 2 (.move (.c (.bool false)))])
 .ret)
 .skip))
 (.seq
 (.reg [oo 2 (.move (.c (.bool false)))])
 .ret)))))))))
 (.seq
 (.seq
 (.reg [oo 54 (.faddr 3 (.t 1)),
 oo 55 (.load none (.t 54)),
 oo 56 (.len .slice (.t 55)),
 oo 57 (.move (.c (.int .i64 0)))])
 (.block 1
 (.loop
 (.seq
 (.reg [oo 58 (.bin .int .lss (.t 57) (.t 56))])
 (.seq
 (.cond (.t 58)
 .skip
 (.exit 1))
 (.seq
 (.block 2
 (.seq
 (.reg [oo 59 (.iaddr 4 (.t 55) (.t 57)),
 oo 60 (.load (some 4) (.t 59)),
 oo 4 (.new 247 (.c (.agg [(.int .i64 0), (.int .i64 0), (.str ⟨#[]⟩), .nils]))),
 ⟨none, .store 4 (.t 4) (.t 60), none⟩])
 (.seq
 (.reg [oo 61 (.load (some 4) (.t 4)),
 oo 62 (.call 273 [(.t 61)]),
 oo 63 (.not (.t 62))])
 (.cond (.t 63)
 (.seq
 (.reg [oo 2 (.move (.c (.bool false)))])
 .ret)
 .skip))))
 (.reg [oo 64 (.bin .int .add (.t 57) (.c (.int .i64 1))),
 mv 57 64])))))))
 (.seq
 (.reg [oo 2 (.move (.c (.bool true)))])
 .ret))))
theorem ent273 : EntOK Tryz.prog 273 ⟨65, v273, [.slot 2]⟩ := fun args σ K ha h =>
 enter (own := List.range 65) Tryz.func273 (by kernel_rfl) (by kernel_rfl) (by kernel_rfl) ha h
def v274 : ACode :=
(.seq
 (.reg [oo 3 (.new 247 (.t 1))])
 (.seq
 (.seq
 (.reg [oo 6 (.faddr 0 (.t 3)),
 oo 7 (.load none (.t 6)),
 oo 8 (.bin .int .eql (.t 7) (.c (.int .i64 1)))])
 (.cond (.t 8)
 (.reg [mv 9 0,
 mv 10 0,
 oo 11 (.nilck (.t 10)),
 oo 12 (.faddr 1 (.t 11)),
 oo 13 (.load none (.t 12)),
 oo 14 (.faddr 1 (.t 3)),
 oo 15 (.load none (.t 14)),
 oo 16 (.bin .int .add (.t 15) (.c (.int .i64 1))),
 oo 17 (.max2 (.t 13) (.t 16)),
 oo 18 (.nilck (.t 9)),
 oo 19 (.faddr 1 (.t 18)),
 ⟨none, .store 1 (.t 19) (.t 17), none⟩])
 .skip))
 (.seq
 (.reg [oo 20 (.faddr 3 (.t 3)),
 oo 21 (.load none (.t 20)),
 oo 22 (.len .slice (.t 21)),
 oo 23 (.move (.c (.int .i64 0)))])
 (.block 0
 (.loop
 (.seq
 (.reg [oo 24 (.bin .int .lss (.t 23) (.t 22))])
 (.seq
 (.cond (.t 24)
 .skip
 (.exit 0))
 (.seq
 (.block 1
 (.seq
 (.reg [oo 25 (.iaddr 4 (.t 21) (.t 23)),
 oo 26 (.load (some 4) (.t 25)),
 oo 5 (.new 247 (.c (.agg [(.int .i64 0), (.int .i64 0), (.str ⟨#[]⟩), .nils]))),
 ⟨none, .store 4 (.t 5) (.t 26), none⟩])
 (.reg [mv 27 0,
 oo 28 (.load (some 4) (.t 5)),
 oo 29 (.call 274 [(.t 27), (.t 28)])])))
 (.reg [oo 30 (.bin .int .add (.t 23) (.c (.int .i64 1))),
 mv 23 30])))))))))
theorem ent274 : EntOK Tryz.prog 274 ⟨31, v274, []⟩ := fun args σ K ha h =>
 enter (own := List.range 31) Tryz.func274 (by kernel_rfl) (by kernel_rfl) (by kernel_rfl) ha h
def v275 : ACode :=
(.seq
 (.reg [oo 3 (.new 247 (.t 1)),
 oo 4 (.new 247 (.c (.agg [(.int .i64 0), (.int .i64 0), (.str ⟨#[]⟩), .nils])))])
 (.seq
 (.reg [mv 8 0,
 oo 9 (.nilck (.t 8)),
 oo 10 (.faddr 0 (.t 9)),
 oo 11 (.load none (.t 10)),
 oo 12 (.load (some 4) (.t 3)),
 oo 13 (.call 314 [(.t 11), (.t 12)]),
 ⟨none, .store 4 (.t 3) (.t 13), none⟩])
 (.seq
 (.reg [mv 14 0,
 oo 15 (.nilck (.t 14)),
 oo 16 (.faddr 1 (.t 15)),
 oo 17 (.load none (.t 16)),
 oo 18 (.bin .int .add (.t 17) (.c (.int .i64 1))),
 oo 19 (.nilck (.t 14)),
 oo 20 (.faddr 1 (.t 19)),
 ⟨none, .store 1 (.t 20) (.t 18), none⟩])
 (.seq
 (.reg [oo 21 (.faddr 0 (.t 3)),
 oo 22 (.load none (.t 21)),
 oo 23 (.faddr 1 (.t 3)),
 oo 24 (.load none (.t 23)),
 oo 25 (.faddr 2 (.t 3)),
 oo 26 (.load none (.t 25)),
 oo 27 (.build [(.int .i64 0), (.int .i64 0), (.str ⟨#[]⟩), .nils] [(0, 1, (.t 22)), (1, 1, (.t 24)), (2, 1, (.t 26))]),
 oo 5 (.new 247 (.c (.agg [(.int .i64 0), (.int .i64 0), (.str ⟨#[]⟩), .nils]))),
 ⟨none, .store 4 (.t 5) (.t 27), none⟩])
 (.seq
 (.seq
 (.reg [oo 28 (.faddr 3 (.t 3)),
 oo 29 (.load none (.t 28)),
 oo 30 (.len .slice (.t 29)),
 oo 31 (.move (.c (.int .i64 0)))])
 (.block 0
 (.loop
 (.seq
 (.reg [oo 32 (.bin .int .lss (.t 31) (.t 30))])
 (.seq
 (.cond (.t 32)
 .skip
 (.exit 0))
 (.seq
 (.block 1
 (.seq
 (.reg [oo 33 (.iaddr 4 (.t 29) (.t 31)),
 oo 34 (.load (some 4) (.t 33)),
 oo 7 (.new 247 (.c (.agg [(.int .i64 0), (.int .i64 0), (.str ⟨#[]⟩), .nils]))),
 ⟨none, .store 4 (.t 7) (.t 34), none⟩])
 (.seq
 (.seq
 (.reg [mv 35 0,
 oo 36 (.nilck (.t 35)),
 oo 37 (.faddr 1 (.t 36)),
 oo 38 (.load none (.t 37)),
 oo 39 (.bin .int .gtr (.t 38) (.c (.int .i64 256)))])
 (.cond (.t 39)
 (.seq
 (.reg [oo 40 (.build [(.int .i64 0), (.int .i64 0), (.str ⟨#[]⟩), .nils] []),
 ⟨none, .store 4 (.t 4) (.t 40), none⟩])
 .ret)
 .skip))
 (.draw [] [([⟨(some 41), .faddr 3 (.t 5), none⟩], []),
 ([⟨(some 42), .load none (.t 41), none⟩], []),
 ([⟨(some 43), .move (.t 0), none⟩], []),
 ([⟨(some 44), .load (some 4) (.t 7), none⟩], []),
 ([⟨(some 45), .call 275 [(.t 43), (.t 44)], none⟩], [⟨(some 41), .faddr 3 (.t 5), none⟩, ⟨(some 42), .load none (.t 41), none⟩]),
 ([⟨(some 46), .lit true 247 4 [(.t 45)], none⟩], [⟨(some 41), .faddr 3 (.t 5), none⟩, ⟨(some 42), .load none (.t 41), none⟩]),
 ([⟨(some 47), .append 247 4 56 (.t 42) (.t 46), none⟩], []),
 ([⟨(some 48), .faddr 3 (.t 5), none⟩], []),
 ([⟨none, .store 1 (.t 48) (.t 47), none⟩], [])]))))
 (.reg [oo 49 (.bin .int .add (.t 31) (.c (.int .i64 1))),
 mv 31 49])))))))
 (.seq
 (.reg [oo 50 (.load (some 4) (.t 5)),
 ⟨none, .store 4 (.t 4) (.t 50), none⟩])
 .ret))))))
theorem ent275 : EntOK Tryz.prog 275 ⟨51, v275, [.cell 4 (some 4)]⟩ := fun args σ K ha h =>
 enter (own := List.range 51) Tryz.func275 (by kernel_rfl) (by kernel_rfl) (by kernel_rfl) ha h
def v276 : ACode :=
(.seq
 (.reg [oo 2 (.new 247 (.t 0)),
 oo 4 (.move (.c .nils))])
 (.seq
 (.seq
 (.reg [oo 7 (.faddr 0 (.t 2)),
 oo 8 (.load none (.t 7)),
 oo 9 (.bin .int .eql (.t 8) (.c (.int .i64 1))),
 mv 10 9,
 og 11 10 true (.move (.t 1)),
 og 12 10 true (.faddr 1 (.t 2)),
 og 13 10 true (.load none (.t 12)),
 og 14 10 true (.call 315 [(.t 11), (.t 13)]),
 og 15 10 true (.not (.t 14)),
 oo 16 (.pick (.t 10) (.t 15) (.c (.bool false)))])
 (.cond (.t 16)
 (.reg [mv 17 1,
 oo 18 (.faddr 1 (.t 2)),
 oo 19 (.load none (.t 18)),
 oo 20 (.lit true 3 1 [(.t 19)]),
 oo 21 (.append 3 1 8 (.t 17) (.t 20)),
 mv 1 21])
 .skip))
 (.seq
 (.seq
 (.reg [oo 22 (.faddr 3 (.t 2)),
 oo 23 (.load none (.t 22)),
 oo 24 (.len .slice (.t 23)),
 oo 25 (.move (.c (.int .i64 0)))])
 (.block 0
 (.loop
 (.seq
 (.reg [oo 26 (.bin .int .lss (.t 25) (.t 24))])
 (.seq
 (.cond (.t 26)
 .skip
 (.exit 0))
 (.seq
 (.block 1
 (.seq
 (.reg [oo 27 (.iaddr 4 (.t 23) (.t 25)),
 oo 28 (.load (some 4) (.t 27)),
 oo 6 (.new 247 (.c (.agg [(.int .i64 0), (.int .i64 0), (.str ⟨#[]⟩), .nils]))),
 ⟨none, .store 4 (.t 6) (.t 28), none⟩])
 (.reg [oo 29 (.load (some 4) (.t 6)),
 mv 30 1,
 oo 31 (.call 276 [(.t 29), (.t 30)]),
 mv 1 31])))
 (.reg [oo 32 (.bin .int .add (.t 25) (.c (.int .i64 1))),
 mv 25 32])))))))
 (.seq
 (.reg [mv 33 1,
 mv 4 33])
 .ret))))
theorem ent276 : EntOK Tryz.prog 276 ⟨34, v276, [.slot 4]⟩ := fun args σ K ha h =>
 enter (own := List.range 34) Tryz.func276 (by kernel_rfl) (by kernel_rfl) (by kernel_rfl) ha h
def v289 : ACode :=
(.seq
 (.reg [oo 2 (.new 297 (.c (.agg [(.int .i64 0), (.str ⟨#[]⟩), (.int .i64 0), .nils, .nils, .nils, .nils, (.int .i64 0), (.int .i64 0)])))])
 (.seq
 (.reg [mv 4 0,
 oo 5 (.call 97 [(.t 4)]),
 oo 6 (.field 3 (some 2) (.t 5)),
 oo 7 (.build [(.int .i64 0), (.str ⟨#[]⟩), (.int .i64 0), .nils, .nils, .nils, .nils, (.int .i64 0), (.int .i64 0)] [(0, 1, (.c (.int .i64 5))), (7, 2, (.t 6))]),
 oo 3 (.new 297 (.c (.agg [(.int .i64 0), (.str ⟨#[]⟩), (.int .i64 0), .nils, .nils, .nils, .nils, (.int .i64 0), (.int .i64 0)]))),
 ⟨none, .store 9 (.t 3) (.t 7), none⟩])
 (.seq
 (.block 0
 (.loop
 (.seq
 (.seq
 (.reg [mv 8 0,
 oo 9 (.call 144 [(.t 8), (.c (.int .i64 1))]),
 mv 10 9,
 og 11 10 false (.move (.t 0)),
 og 12 10 false (.call 96 [(.t 11), (.c (.str ⟨#[95]⟩))]),
 oo 13 (.pick (.t 10) (.c (.bool true)) (.t 12))])
 (.cond (.t 13)
 .skip
 (.exit 0)))
 (.block 1
 (.draw [] [([⟨(some 14), .faddr 3 (.t 3), none⟩], []),
 ([⟨(some 15), .load none (.t 14), none⟩], []),
 ([⟨(some 16), .move (.t 0), none⟩], []),
 ([⟨(some 17), .call 97 [(.t 16)], none⟩], [⟨(some 14), .faddr 3 (.t 3), none⟩, ⟨(some 15), .load none (.t 14), none⟩]),
 ([⟨(some 18), .field 1 none (.t 17), none⟩], []),
 ([⟨(some 19), .lit true 9 1 [(.t 18)], none⟩], [⟨(some 14), .faddr 3 (.t 3), none⟩, ⟨(some 15), .load none (.t 14), none⟩]),
 ([⟨(some 20), .append 9 1 16 (.t 15) (.t 19), none⟩], []),
 ([⟨(some 21), .faddr 3 (.t 3), none⟩], []),
 ([⟨none, .store 1 (.t 21) (.t 20), none⟩], [])])))))
 (.seq
 (.seq
 (.reg [oo 22 (.faddr 3 (.t 3)),
 oo 23 (.load none (.t 22)),
 oo 24 (.len .slice (.t 23)),
 oo 25 (.bin .int .eql (.t 24) (.c (.int .i64 0)))])
 (.cond (.t 25)
 (.reg [mv 26 0,
 oo 27 (.call 98 [(.t 26), (.c (.int .i64 60))])])
 .skip))
 (.seq
 (.reg [mv 28 0,
 oo 29 (.call 57 [(.t 28), (.c (.str ⟨#[45, 62]⟩))])])
 (.seq
 (.reg [mv 30 0,
 oo 31 (.call 199 [(.t 30)]),
 oo 32 (.lit true 297 9 [(.t 31)]),
 oo 33 (.faddr 4 (.t 3)),
 ⟨none, .store 1 (.t 33) (.t 32), none⟩])
 (.seq
 (.reg [oo 34 (.load (some 9) (.t 3)),
 ⟨none, .store 9 (.t 2) (.t 34), none⟩])
 .ret)))))))
theorem ent289 : EntOK Tryz.prog 289 ⟨35, v289, [.cell 2 (some 9)]⟩ := fun args σ K ha h =>
 enter (own := List.range 35) Tryz.func289 (by kernel_rfl) (by kernel_rfl) (by kernel_rfl) ha h
def v293 : ACode :=
(.seq
 (.reg [oo 2 (.new 297 (.c (.agg [(.int .i64 0), (.str ⟨#[]⟩), (.int .i64 0), .nils, .nils, .nils, .nils, (.int .i64 0), (.int .i64 0)])))])
 (.seq
 (.reg [mv 10 0,
 oo 11 (.call 142 [(.t 10)]),
 oo 3 (.new 132 (.c (.agg [(.int .i64 0), (.str ⟨#[]⟩), (.int .i64 0), (.int .i64 0), (.int .i64 0), (.bool false)]))),
 ⟨none, .store 6 (.t 3) (.t 11), none⟩])
 (.seq
 (.block 0
 (.seq
 (.reg [oo 13 (.faddr 0 (.t 3)),
 oo 14 (.load none (.t 13)),
 oo 15 (.bin .int .eql (.t 14) (.c (.int .i64 1))),
 mv 12 15])
 (.cond (.t 12)
 (.seq
 (.reg [mv 16 0,
 oo 17 (.call 97 [(.t 16)])])
 (.seq
 (.reg [oo 18 (.faddr 1 (.t 3)),
 oo 19 (.load none (.t 18)),
 oo 20 (.faddr 3 (.t 3)),
 oo 21 (.load (some 2) (.t 20)),
 oo 22 (.build [(.int .i64 0), (.str ⟨#[]⟩), (.int .i64 0), .nils, .nils, .nils, .nils, (.int .i64 0), (.int .i64 0)] [(0, 1, (.c (.int .i64 1))), (1, 1, (.t 19)), (7, 2, (.t 21))]),
 ⟨none, .store 9 (.t 2) (.t 22), none⟩])
 .ret))
 (.seq
 (.reg [oo 24 (.faddr 0 (.t 3)),
 oo 25 (.load none (.t 24)),
 oo 26 (.bin .int .eql (.t 25) (.c (.int .i64 2))),
 mv 23 26])
 (.cond (.t 23)
 (.seq
 (.reg [mv 27 0,
 oo 28 (.call 97 [(.t 27)])])
 (.seq
 (.reg [oo 29 (.faddr 1 (.t 3)),
 oo 30 (.load none (.t 29)),
 oo 31 (.faddr 3 (.t 3)),
 oo 32 (.load (some 2) (.t 31)),
 oo 33 (.build [(.int .i64 0), (.str ⟨#[]⟩), (.int .i64 0), .nils, .nils, .nils, .nils, (.int .i64 0), (.int .i64 0)] [(0, 1, (.c (.int .i64 2))), (1, 1, (.t 30)), (7, 2, (.t 32))]),
 ⟨none, .store 9 (.t 2) (.t 33), none⟩])
 .ret))
 (.seq
 (.reg [oo 35 (.faddr 0 (.t 3)),
 oo 36 (.load none (.t 35)),
 oo 37 (.bin .int .eql (.t 36) (.c (.int .i64 4))),
 mv 34 37])
 (.cond (.t 34)
 (.seq
 (.reg [mv 39 0,
 oo 40 (.call 194 [(.t 39)]),
 mv 38 40,
 oo 41 (.extract (.t 38) 0),
 oo 42 (.extract (.t 38) 1),
 oo 5 (.new 80 (.c (.agg [(.int .i64 0), (.int .i64 0)]))),
 mv 4 41,
 ⟨none, .store 2 (.t 5) (.t 42), none⟩])
 (.seq
 (.reg [mv 43 4,
 oo 44 (.load (some 2) (.t 5)),
 oo 45 (.build [(.int .i64 0), (.str ⟨#[]⟩), (.int .i64 0), .nils, .nils, .nils, .nils, (.int .i64 0), (.int .i64 0)] [(0, 1, (.c (.int .i64 3))), (2, 1, (.t 43)), (7, 2, (.t 44))]),
 ⟨none, .store 9 (.t 2) (.t 45), none⟩])
 .ret))
 (.seq
 (.reg [mv 47 0,
 oo 48 (.call 195 [(.t 47), (.c (.str ⟨#[45]⟩)), (.c (.int .i64 4))]),
 mv 46 48])
 (.cond (.t 46)
 (.seq
 (.reg [mv 50 0,
 oo 51 (.call 196 [(.t 50)]),
 mv 49 51,
 oo 52 (.extract (.t 49) 0),
 oo 53 (.extract (.t 49) 1),
 oo 7 (.new 80 (.c (.agg [(.int .i64 0), (.int .i64 0)]))),
 mv 6 52,
 ⟨none, .store 2 (.t 7) (.t 53), none⟩])
 (.seq
 (.reg [mv 54 6,
 oo 55 (.load (some 2) (.t 7)),
 oo 56 (.build [(.int .i64 0), (.str ⟨#[]⟩), (.int .i64 0), .nils, .nils, .nils, .nils, (.int .i64 0), (.int .i64 0)] [(0, 1, (.c (.int .i64 3))), (2, 1, (.t 54)), (7, 2, (.t 55))]),
 ⟨none, .store 9 (.t 2) (.t 56), none⟩])
 .ret))
 (.seq
 (.reg [mv 58 0,
 oo 59 (.call 316 [(.t 58)]),
 mv 57 59])
 (.cond (.t 57)
 (.seq
 (.reg [mv 60 0,
 oo 61 (.call 97 [(.t 60)])])
 (.seq
 (.reg [mv 62 0,
 oo 63 (.call 97 [(.t 62)]),
 oo 8 (.new 132 (.c (.agg [(.int .i64 0), (.str ⟨#[]⟩), (.int .i64 0), (.int .i64 0), (.int .i64 0), (.bool false)]))),
 ⟨none, .store 6 (.t 8) (.t 63), none⟩])
 (.seq
 (.reg [mv 64 0,
 oo 65 (.call 57 [(.t 64), (.c (.str ⟨#[41]⟩))])])
 (.seq
 (.reg [oo 66 (.faddr 1 (.t 8)),
 oo 67 (.load none (.t 66)),
 oo 68 (.faddr 3 (.t 8)),
 oo 69 (.load (some 2) (.t 68)),
 oo 70 (.build [(.int .i64 0), (.str ⟨#[]⟩), (.int .i64 0), .nils, .nils, .nils, .nils, (.int .i64 0), (.int .i64 0)] [(0, 1, (.c (.int .i64 1))), (1, 1, (.t 67)), (7, 2, (.t 69))]),
 ⟨none, .store 9 (.t 2) (.t 70), none⟩])
 .ret))))
 .skip)))))))))))
 (.seq
 (.reg [mv 71 0,
 oo 72 (.call 57 [(.t 71), (.c (.str ⟨#[40]⟩))])])
 (.seq
 (.seq
 (.reg [mv 73 0,
 oo 74 (.nilck (.t 73)),
 oo 75 (.faddr 2 (.t 74)),
 oo 76 (.load none (.t 75))])
 (.cond (.t 76)
 (.seq
 (.reg [oo 77 (.build [(.int .i64 0), (.str ⟨#[]⟩), (.int .i64 0), .nils, .nils, .nils, .nils, (.int .i64 0), (.int .i64 0)] []),
 ⟨none, .store 9 (.t 2) (.t 77), none⟩])
 .ret)
 .skip))
 (.seq
 (.reg [mv 78 0,
 oo 79 (.call 199 [(.t 78)]),
 oo 9 (.new 297 (.c (.agg [(.int .i64 0), (.str ⟨#[]⟩), (.int .i64 0), .nils, .nils, .nils, .nils, (.int .i64 0), (.int .i64 0)]))),
 ⟨none, .store 9 (.t 9) (.t 79), none⟩])
 (.seq
 (.reg [mv 80 0,
 oo 81 (.call 57 [(.t 80), (.c (.str ⟨#[41]⟩))])])
 (.seq
 (.reg [oo 82 (.load (some 9) (.t 9)),
 ⟨none, .store 9 (.t 2) (.t 82), none⟩])
 .ret))))))))
theorem ent293 : EntOK Tryz.prog 293 ⟨83, v293, [.cell 2 (some 9)]⟩ := fun args σ K ha h =>
 enter (own := List.range 83) Tryz.func293 (by kernel_rfl) (by kernel_rfl) (by kernel_rfl) ha h
end Go.Proofs.YtojfdejpoideaaaGreat

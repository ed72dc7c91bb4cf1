/- A part of the proof of the claim (no condition of its own). -/
import Derived.Test.YtgjcnkcepdoedaaGreatK4
import Derived.Test.YtgjcnkcepdoedaaGreatProg
import Derived.KernelRfl
namespace Go.AL
def x1 (a b : Nat) : AOper := oo a (.load none (.t b))
def x2 (a b c : Nat) : AOper := oo a (.faddr b (.t c))
def x3 (a b c : Nat) : AOper := ⟨none, .store a (.t b) (.t c), none⟩
def x4 (a b c : Nat) : AOper := oo a (.load (some b) (.t c))
def x5 (a : Nat) (b : Int) : AOper := oo a (.move (.c (.int .i64 b)))
def x6 (a b : Nat) (c : Int) : AOper := oo a (.bin .int .add (.t b) (.c (.int .i64 c)))
def x7 (a b : Nat) (c : Int) : AOper := oo a (.bin .int .eql (.t b) (.c (.int .i64 c)))
def x8 (a b c d : Nat) : AOper := oo a (.iaddr b (.t c) (.t d))
def x9 (a b c : Nat) : AOper := oo a (.bin .int .lss (.t b) (.t c))
def y1 (a b : Nat) : AOper := oo a (.len .slice (.t b))
def y2 (a b c d : Nat) : AOper := oo a (.call b [.t c, .t d])
def y3 (a b : Nat) : AOper := oo a (.nilck (.t b))
def y4 (a b c : Nat) : AOper := oo a (.pick (.t b) (.c (.bool true)) (.t c))
def y5 (a b c : Nat) : AOper := oo a (.call b [.t c])
def y6 (a : Nat) : AOper := oo a (.move (.c (.bool false)))
def y7 (a b c : Nat) : AOper := oo a (.pick (.t b) (.t c) (.c (.bool false)))
def y8 (a b c : Nat) : AOper := oo a (.new b (.t c))
def y9 (a : Nat) : AOper := oo a (.move (.c .nils))
def z1 (a b c d : Nat) : AOper := og a b false (.faddr c (.t d))
def z2 (a b c d : Nat) : AOper := og a b true (.faddr c (.t d))
def z3 (a b c : Nat) : AOper := og a b false (.load none (.t c))
def z4 (a b c : Nat) : AOper := og a b true (.load none (.t c))
def z5 (a b c : Nat) : AOper := og a b false (.move (.t c))
def z6 (a b c : Nat) : AOper := og a b true (.move (.t c))
def z7 (a b c d e f : Nat) : AOper := oo a (.append b c d (.t e) (.t f))
def z8 (a b c d : Nat) : AOper := oo a (.lit true b c [.t d])
def z9 (a b c : Nat) : AOper := oo a (.extract (.t b) c)
def q0 : AX := .c (.agg [(.int .i64 0), (.int .i64 0), (.int .i64 0)])
def q1 : AX := .c (.agg [.nils, .nils, .nils])
def q2 : AX := .c (.agg [(.int .i64 0), (.int .i64 0)])
def q3 : AX := .c (.agg [.nils, .nils])
def q4 : AX := .c (.agg [.nils, .nils, .nils, .nils])
def q5 : AX := .c (.agg [.nils])
def q6 : AX := .c (.agg [(.int .i64 0), (.int .i64 0), .nils, .nils, .nils])
end Go.AL
set_option linter.unusedVariables false
namespace Go.Proofs.YtgjcnkcepdoedaaGreat
open Go.AL
def v7 : ACode :=
(.seq
 (.reg [y6 0])
 (.seq
 (.reg [oo 9 (.call 16 [(.c (.int .i64 1))]),
 oo 10 (.call 16 [(.c (.int .i64 2))]),
 oo 11 (.build [(.int .i64 0), (.int .i64 0), (.str ⟨#[]⟩), (.int .i64 0), (.int .i64 0), .nils, .nils, .nils, .nils, .nils] [(0, 1, (.c (.int .i64 1))), (1, 9, (.t 10))]),
 z8 12 36 10 11,
 y2 13 8 9 12,
 mv 8 13,
 z9 14 8 0,
 z9 15 8 1,
 oo 1 (.new 28 (.c (.agg [(.int .i64 0), (.str ⟨#[]⟩), (.int .i64 0), (.int .i64 0), .nils, .nils, .nils, .nils, .nils]))),
 x3 9 1 14,
 mv 2 15])
 (.seq
 (.reg [oo 16 (.call 16 [(.c (.int .i64 1))]),
 z8 17 28 9 16,
 oo 18 (.call 16 [(.c (.int .i64 2))]),
 oo 19 (.build [(.int .i64 0), (.int .i64 0), (.str ⟨#[]⟩), (.int .i64 0), (.int .i64 0), .nils, .nils, .nils, .nils, .nils] [(0, 1, (.c (.int .i64 1))), (1, 9, (.t 18))]),
 z8 20 36 10 19,
 oo 21 (.build [(.int .i64 0), (.str ⟨#[]⟩), (.int .i64 0), (.int .i64 0), .nils, .nils, .nils, .nils, .nils] [(0, 1, (.c (.int .i64 11))), (5, 1, (.t 17)), (8, 1, (.t 20))]),
 oo 3 (.new 28 (.c (.agg [(.int .i64 0), (.str ⟨#[]⟩), (.int .i64 0), (.int .i64 0), .nils, .nils, .nils, .nils, .nils]))),
 x3 9 3 21])
 (.seq
 (.reg [oo 23 (.call 17 [(.c (.str ⟨#[102, 32, 120, 32, 61, 32, 120, 32, 43, 32, 49]⟩))]),
 mv 22 23,
 z9 24 22 0,
 z9 25 22 1,
 z9 26 22 2,
 z9 27 22 3,
 oo 4 (.new 49 q1),
 x3 3 4 24,
 mv 5 25,
 mv 6 26,
 mv 7 27])
 (.seq
 (.reg [mv 28 2,
 x7 29 28 0,
 mv 30 29,
 og 31 30 true (.load (some 9) (.t 1)),
 og 32 30 true (.load (some 9) (.t 3)),
 og 33 30 true (.call 13 [(.t 31), (.t 32)]),
 y7 34 30 33,
 mv 35 34,
 z6 36 35 7,
 y7 37 35 36,
 mv 38 37,
 z6 39 38 5,
 og 40 38 true (.len .slice (.t 39)),
 og 41 38 true (.bin .int .eql (.t 40) (.c (.int .i64 6))),
 y7 42 38 41,
 mv 43 42,
 z6 44 43 6,
 og 45 43 true (.len .slice (.t 44)),
 og 46 43 true (.bin .int .eql (.t 45) (.c (.int .i64 1))),
 y7 47 43 46,
 mv 48 47,
 z6 49 48 6,
 og 50 48 true (.call 10 [(.t 49)]),
 og 51 48 true (.bin .int .eql (.t 50) (.c (.int .i64 2))),
 y7 52 48 51,
 mv 0 52])
 .ret)))))
theorem ent7 : EntOK Tryz.prog 7 ⟨53, v7, [.slot 0]⟩ := fun args σ K ha h =>
 enter (own := List.range 53) Tryz.func7 (by kernel_rfl) (by kernel_rfl) (by kernel_rfl) ha h
def v8 : ACode :=
(.seq
 (.reg [y8 2 28 0,
 oo 4 (.new 28 (.c (.agg [(.int .i64 0), (.str ⟨#[]⟩), (.int .i64 0), (.int .i64 0), .nils, .nils, .nils, .nils, .nils]))),
 x5 5 0])
 (.seq
 (.seq
 (.reg [x4 9 9 2,
 y5 10 18 9,
 oo 11 (.not (.t 10))])
 (.cond (.t 11)
 (.seq
 (.reg [oo 12 (.build [(.int .i64 0), (.str ⟨#[]⟩), (.int .i64 0), (.int .i64 0), .nils, .nils, .nils, .nils, .nils] []),
 x3 9 4 12,
 x5 5 1])
 .ret)
 .skip))
 (.seq
 (.seq
 (.reg [mv 13 1,
 y1 14 13,
 x5 15 0])
 (.block 0
 (.loop
 (.seq
 (.reg [x9 16 15 14])
 (.seq
 (.cond (.t 16)
 .skip
 (.exit 0))
 (.seq
 (.block 1
 (.seq
 (.reg [mv 17 15,
 x8 18 10 13 15,
 x4 19 10 18,
 oo 7 (.new 36 (.c (.agg [(.int .i64 0), (.int .i64 0), (.str ⟨#[]⟩), (.int .i64 0), (.int .i64 0), .nils, .nils, .nils, .nils, .nils]))),
 mv 6 17,
 x3 10 7 19])
 (.seq
 (.reg [mv 20 1,
 mv 21 6,
 oo 22 (.cut .slice 10 (.t 20) none (some (.t 21))),
 oo 23 (.mkfn (.func 20) [] [(.t 7)]),
 y2 24 19 22 23,
 mv 8 24])
 (.seq
 (.reg [mv 25 8,
 mv 26 25,
 z1 27 26 1 7,
 og 28 26 false (.load (some 9) (.t 27)),
 og 29 26 false (.call 18 [(.t 28)]),
 og 30 26 false (.not (.t 29)),
 y4 31 26 30])
 (.cond (.t 31)
 (.seq
 (.reg [oo 32 (.build [(.int .i64 0), (.str ⟨#[]⟩), (.int .i64 0), (.int .i64 0), .nils, .nils, .nils, .nils, .nils] []),
 x3 9 4 32,
 x5 5 1])
 .ret)
 .skip)))))
 (.reg [x6 33 15 1,
 mv 15 33])))))))
 (.seq
 (.reg [x4 34 9 2,
 mv 35 1,
 y2 36 21 34 35,
 x3 9 4 36,
 x5 5 0])
 .ret))))
theorem ent8 : EntOK Tryz.prog 8 ⟨37, v8, [.cell 4 (some 9), .slot 5]⟩ := fun args σ K ha h =>
 enter (own := List.range 37) Tryz.func8 (by kernel_rfl) (by kernel_rfl) (by kernel_rfl) ha h
def v10 : ACode :=
(.seq
 (.reg [x5 2 0])
 (.seq
 (.reg [x5 3 0])
 (.seq
 (.seq
 (.reg [mv 6 0,
 y1 7 6,
 x5 8 0])
 (.block 0
 (.loop
 (.seq
 (.reg [x9 9 8 7])
 (.seq
 (.cond (.t 9)
 .skip
 (.exit 0))
 (.seq
 (.block 1
 (.seq
 (.reg [x8 10 10 6 8,
 x4 11 10 10,
 oo 5 (.new 39 (.c (.agg [(.str ⟨#[]⟩), (.int .i64 0), (.str ⟨#[]⟩), (.int .i64 0), (.int .i64 0), .nils, .nils, .nils, .nils, .nils]))),
 x3 10 5 11])
 (.reg [mv 12 3,
 x2 13 1 5,
 x4 14 9 13,
 y5 15 22 14,
 oo 16 (.bin .int .add (.t 12) (.t 15)),
 mv 3 16])))
 (.reg [x6 17 8 1,
 mv 8 17])))))))
 (.seq
 (.reg [mv 18 3,
 mv 2 18])
 .ret))))
theorem ent10 : EntOK Tryz.prog 10 ⟨19, v10, [.slot 2]⟩ := fun args σ K ha h =>
 enter (own := List.range 19) Tryz.func10 (by kernel_rfl) (by kernel_rfl) (by kernel_rfl) ha h
def v13 : ACode :=
(.seq
 (.reg [y8 2 28 0,
 y8 3 28 1,
 y6 4])
 (.seq
 (.seq
 (.reg [x2 11 0 2,
 x1 12 11,
 x2 13 0 3,
 x1 14 13,
 oo 15 (.bin .int .neq (.t 12) (.t 14)),
 mv 16 15,
 z1 17 16 1 2,
 z3 18 16 17,
 z1 19 16 1 3,
 z3 20 16 19,
 og 21 16 false (.bin .str .neq (.t 18) (.t 20)),
 y4 22 16 21,
 mv 23 22,
 z1 24 23 2 2,
 z3 25 23 24,
 z1 26 23 2 3,
 z3 27 23 26,
 og 28 23 false (.bin .int .neq (.t 25) (.t 27)),
 y4 29 23 28,
 mv 30 29,
 z1 31 30 3 2,
 z3 32 30 31,
 z1 33 30 3 3,
 z3 34 30 33,
 og 35 30 false (.bin .int .neq (.t 32) (.t 34)),
 y4 36 30 35,
 mv 37 36,
 z1 38 37 4 2,
 z3 39 37 38,
 z1 40 37 4 3,
 z3 41 37 40,
 og 42 37 false (.call 26 [(.t 39), (.t 41)]),
 og 43 37 false (.not (.t 42)),
 y4 44 37 43])
 (.cond (.t 44)
 (.seq
 (.reg [y6 4])
 .ret)
 .skip))
 (.seq
 (.seq
 (.reg [x2 45 5 2,
 x1 46 45,
 y1 47 46,
 x2 48 5 3,
 x1 49 48,
 y1 50 49,
 oo 51 (.bin .int .neq (.t 47) (.t 50)),
 mv 52 51,
 z1 53 52 6 2,
 z3 54 52 53,
 og 55 52 false (.len .slice (.t 54)),
 z1 56 52 6 3,
 z3 57 52 56,
 og 58 52 false (.len .slice (.t 57)),
 og 59 52 false (.bin .int .neq (.t 55) (.t 58)),
 y4 60 52 59,
 mv 61 60,
 z1 62 61 7 2,
 z3 63 61 62,
 og 64 61 false (.len .slice (.t 63)),
 z1 65 61 7 3,
 z3 66 61 65,
 og 67 61 false (.len .slice (.t 66)),
 og 68 61 false (.bin .int .neq (.t 64) (.t 67)),
 y4 69 61 68,
 mv 70 69,
 z1 71 70 8 2,
 z3 72 70 71,
 og 73 70 false (.len .slice (.t 72)),
 z1 74 70 8 3,
 z3 75 70 74,
 og 76 70 false (.len .slice (.t 75)),
 og 77 70 false (.bin .int .neq (.t 73) (.t 76)),
 y4 78 70 77])
 (.cond (.t 78)
 (.seq
 (.reg [y6 4])
 .ret)
 .skip))
 (.seq
 (.seq
 (.reg [x5 5 0])
 (.block 0
 (.loop
 (.seq
 (.seq
 (.reg [mv 79 5,
 x2 80 5 2,
 x1 81 80,
 y1 82 81,
 x9 83 79 82])
 (.cond (.t 83)
 .skip
 (.exit 0)))
 (.seq
 (.block 1
 (.seq
 (.reg [x2 86 5 2,
 x1 87 86,
 mv 88 5,
 x8 89 9 87 88,
 x4 90 9 89,
 x2 91 5 3,
 x1 92 91,
 mv 93 5,
 x8 94 9 92 93,
 x4 95 9 94,
 y2 96 13 90 95,
 oo 97 (.not (.t 96))])
 (.cond (.t 97)
 (.seq
 (.reg [y6 4])
 .ret)
 .skip)))
 (.reg [mv 84 5,
 x6 85 84 1,
 mv 5 85]))))))
 (.seq
 (.seq
 (.reg [x5 6 0])
 (.block 2
 (.loop
 (.seq
 (.seq
 (.reg [mv 98 6,
 x2 99 6 2,
 x1 100 99,
 y1 101 100,
 x9 102 98 101])
 (.cond (.t 102)
 .skip
 (.exit 2)))
 (.seq
 (.block 3
 (.seq
 (.draw [7, 8] [([⟨(some 105), .faddr 6 (.t 2), none⟩], []),
 ([⟨(some 106), .load none (.t 105), none⟩], []),
 ([⟨(some 107), .move (.t 6), none⟩], []),
 ([⟨(some 108), .iaddr 13 (.t 106) (.t 107), none⟩], []),
 ([⟨(some 109), .load (some 13) (.t 108), none⟩], []),
 ([⟨(some 110), .faddr 6 (.t 3), none⟩], []),
 ([⟨(some 111), .load none (.t 110), none⟩], []),
 ([⟨(some 112), .move (.t 6), none⟩], []),
 ([⟨(some 113), .iaddr 13 (.t 111) (.t 112), none⟩], []),
 ([⟨(some 114), .load (some 13) (.t 113), none⟩], []),
 ([⟨(some 7), .new 58 (.c (.agg [(.int .i64 0), (.str ⟨#[]⟩), (.int .i64 0), .nils, (.int .i64 0), (.str ⟨#[]⟩), (.int .i64 0), (.int .i64 0), .nils, .nils, .nils, .nils, .nils])), none⟩, x3 13 7 109], []),
 ([⟨(some 8), .new 58 (.c (.agg [(.int .i64 0), (.str ⟨#[]⟩), (.int .i64 0), .nils, (.int .i64 0), (.str ⟨#[]⟩), (.int .i64 0), (.int .i64 0), .nils, .nils, .nils, .nils, .nils])), none⟩, x3 13 8 114], [])])
 (.seq
 (.reg [x2 115 0 7,
 x1 116 115,
 x2 117 0 8,
 x1 118 117,
 oo 119 (.bin .int .neq (.t 116) (.t 118)),
 mv 120 119,
 z1 121 120 1 7,
 z3 122 120 121,
 z1 123 120 1 8,
 z3 124 120 123,
 og 125 120 false (.bin .str .neq (.t 122) (.t 124)),
 y4 126 120 125,
 mv 127 126,
 z1 128 127 2 7,
 z3 129 127 128,
 z1 130 127 2 8,
 z3 131 127 130,
 og 132 127 false (.bin .int .neq (.t 129) (.t 131)),
 y4 133 127 132,
 mv 134 133,
 z1 135 134 3 7,
 z3 136 134 135,
 z1 137 134 3 8,
 z3 138 134 137,
 og 139 134 false (.call 26 [(.t 136), (.t 138)]),
 og 140 134 false (.not (.t 139)),
 y4 141 134 140,
 mv 142 141,
 z1 143 142 4 7,
 og 144 142 false (.load (some 9) (.t 143)),
 z1 145 142 4 8,
 og 146 142 false (.load (some 9) (.t 145)),
 og 147 142 false (.call 13 [(.t 144), (.t 146)]),
 og 148 142 false (.not (.t 147)),
 y4 149 142 148])
 (.cond (.t 149)
 (.seq
 (.reg [y6 4])
 .ret)
 .skip))))
 (.reg [mv 103 6,
 x6 104 103 1,
 mv 6 104]))))))
 (.seq
 (.seq
 (.reg [x5 9 0])
 (.block 4
 (.loop
 (.seq
 (.seq
 (.reg [mv 150 9,
 x2 151 7 2,
 x1 152 151,
 y1 153 152,
 x9 154 150 153])
 (.cond (.t 154)
 .skip
 (.exit 4)))
 (.seq
 (.block 5
 (.seq
 (.reg [x2 157 7 2,
 x1 158 157,
 mv 159 9,
 x8 160 10 158 159,
 x2 161 0 160,
 x1 162 161,
 x2 163 7 3,
 x1 164 163,
 mv 165 9,
 x8 166 10 164 165,
 x2 167 0 166,
 x1 168 167,
 oo 169 (.bin .str .neq (.t 162) (.t 168)),
 mv 170 169,
 z1 171 170 7 2,
 z3 172 170 171,
 z5 173 170 9,
 og 174 170 false (.iaddr 10 (.t 172) (.t 173)),
 z1 175 170 1 174,
 og 176 170 false (.load (some 9) (.t 175)),
 z1 177 170 7 3,
 z3 178 170 177,
 z5 179 170 9,
 og 180 170 false (.iaddr 10 (.t 178) (.t 179)),
 z1 181 170 1 180,
 og 182 170 false (.load (some 9) (.t 181)),
 og 183 170 false (.call 13 [(.t 176), (.t 182)]),
 og 184 170 false (.not (.t 183)),
 y4 185 170 184])
 (.cond (.t 185)
 (.seq
 (.reg [y6 4])
 .ret)
 .skip)))
 (.reg [mv 155 9,
 x6 156 155 1,
 mv 9 156]))))))
 (.seq
 (.seq
 (.reg [x5 10 0])
 (.block 6
 (.loop
 (.seq
 (.seq
 (.reg [mv 186 10,
 x2 187 8 2,
 x1 188 187,
 y1 189 188,
 x9 190 186 189])
 (.cond (.t 190)
 .skip
 (.exit 6)))
 (.seq
 (.block 7
 (.seq
 (.reg [x2 193 8 2,
 x1 194 193,
 mv 195 10,
 x8 196 10 194 195,
 x2 197 0 196,
 x1 198 197,
 x2 199 8 3,
 x1 200 199,
 mv 201 10,
 x8 202 10 200 201,
 x2 203 0 202,
 x1 204 203,
 oo 205 (.bin .int .neq (.t 198) (.t 204)),
 mv 206 205,
 z1 207 206 8 2,
 z3 208 206 207,
 z5 209 206 10,
 og 210 206 false (.iaddr 10 (.t 208) (.t 209)),
 z1 211 206 1 210,
 og 212 206 false (.load (some 9) (.t 211)),
 z1 213 206 8 3,
 z3 214 206 213,
 z5 215 206 10,
 og 216 206 false (.iaddr 10 (.t 214) (.t 215)),
 z1 217 206 1 216,
 og 218 206 false (.load (some 9) (.t 217)),
 og 219 206 false (.call 13 [(.t 212), (.t 218)]),
 og 220 206 false (.not (.t 219)),
 y4 221 206 220])
 (.cond (.t 221)
 (.seq
 (.reg [y6 4])
 .ret)
 .skip)))
 (.reg [mv 191 10,
 x6 192 191 1,
 mv 10 192]))))))
 (.seq
 (.reg [oo 4 (.move (.c (.bool true)))])
 .ret))))))))
theorem ent13 : EntOK Tryz.prog 13 ⟨222, v13, [.slot 4]⟩ := fun args σ K ha h =>
 enter (own := List.range 222) Tryz.func13 (by kernel_rfl) (by kernel_rfl) (by kernel_rfl) ha h
def v16 : ACode :=
(.seq
 (.reg [oo 2 (.new 28 (.c (.agg [(.int .i64 0), (.str ⟨#[]⟩), (.int .i64 0), (.int .i64 0), .nils, .nils, .nils, .nils, .nils])))])
 (.seq
 (.reg [mv 3 0,
 oo 4 (.build [(.int .i64 0), (.str ⟨#[]⟩), (.int .i64 0), (.int .i64 0), .nils, .nils, .nils, .nils, .nils] [(0, 1, (.c (.int .i64 3))), (2, 1, (.t 3))]),
 x3 9 2 4])
 .ret))
theorem ent16 : EntOK Tryz.prog 16 ⟨5, v16, [.cell 2 (some 9)]⟩ := fun args σ K ha h =>
 enter (own := List.range 5) Tryz.func16 (by kernel_rfl) (by kernel_rfl) (by kernel_rfl) ha h
def v17 : ACode :=
(.seq
 (.reg [oo 2 (.new 49 q1),
 y9 3,
 y9 4,
 y6 5])
 (.seq
 (.reg [mv 13 0,
 y5 14 28 13,
 mv 12 14,
 z9 15 12 0,
 z9 16 12 1,
 oo 6 (.new 49 q1),
 oo 7 (.new 66 q0),
 x3 3 6 15,
 x3 3 7 16])
 (.seq
 (.seq
 (.reg [x2 17 0 7,
 x1 18 17,
 oo 19 (.bin .int .neq (.t 18) (.c (.int .i64 0))),
 mv 20 19,
 z5 21 20 0,
 og 22 20 false (.len .str (.t 21)),
 og 23 20 false (.bin .int .gtr (.t 22) (.c (.int .i64 3000))),
 y4 24 20 23])
 (.cond (.t 24)
 (.seq
 (.reg [x4 25 3 6,
 x3 3 2 25,
 y9 3,
 y9 4,
 y6 5])
 .ret)
 .skip))
 (.seq
 (.reg [x4 27 3 6,
 y5 28 29 27,
 mv 26 28,
 z9 29 26 0,
 z9 30 26 1,
 oo 9 (.new 66 q0),
 mv 8 29,
 x3 3 9 30])
 (.seq
 (.seq
 (.reg [x2 31 0 9,
 x1 32 31,
 oo 33 (.bin .int .neq (.t 32) (.c (.int .i64 0)))])
 (.cond (.t 33)
 (.seq
 (.reg [x4 34 3 6,
 x3 3 2 34,
 y9 3,
 y9 4,
 y6 5])
 .ret)
 .skip))
 (.seq
 (.reg [x4 36 3 6,
 mv 37 8,
 y2 38 30 36 37,
 mv 35 38,
 z9 39 35 0,
 z9 40 35 1,
 mv 10 39,
 mv 11 40])
 (.seq
 (.reg [x4 41 3 6,
 mv 42 8,
 mv 43 10,
 mv 44 11,
 x7 45 44 0,
 x3 3 2 41,
 mv 3 42,
 mv 4 43,
 mv 5 45])
 .ret)))))))
theorem ent17 : EntOK Tryz.prog 17 ⟨46, v17, [.cell 2 (some 3), .slot 3, .slot 4, .slot 5]⟩ := fun args σ K ha h =>
 enter (own := List.range 46) Tryz.func17 (by kernel_rfl) (by kernel_rfl) (by kernel_rfl) ha h
def v18 : ACode :=
(.seq
 (.reg [y8 1 28 0,
 y6 2])
 (.seq
 (.seq
 (.reg [x2 11 0 1,
 x1 12 11,
 x7 13 12 11])
 (.cond (.t 13)
 (.seq
 (.reg [y6 2])
 .ret)
 .skip))
 (.seq
 (.seq
 (.reg [x2 14 5 1,
 x1 15 14,
 y1 16 15,
 x5 17 0])
 (.block 0
 (.loop
 (.seq
 (.reg [x9 18 17 16])
 (.seq
 (.cond (.t 18)
 .skip
 (.exit 0))
 (.seq
 (.block 1
 (.seq
 (.reg [x8 19 9 15 17,
 x4 20 9 19,
 oo 4 (.new 28 (.c (.agg [(.int .i64 0), (.str ⟨#[]⟩), (.int .i64 0), (.int .i64 0), .nils, .nils, .nils, .nils, .nils]))),
 x3 9 4 20])
 (.seq
 (.reg [x4 21 9 4,
 y5 22 18 21,
 oo 23 (.not (.t 22))])
 (.cond (.t 23)
 (.seq
 (.reg [y6 2])
 .ret)
 .skip))))
 (.reg [x6 24 17 1,
 mv 17 24])))))))
 (.seq
 (.seq
 (.reg [x2 25 6 1,
 x1 26 25,
 y1 27 26,
 x5 28 0])
 (.block 2
 (.loop
 (.seq
 (.reg [x9 29 28 27])
 (.seq
 (.cond (.t 29)
 .skip
 (.exit 2))
 (.seq
 (.block 3
 (.seq
 (.reg [x8 30 13 26 28,
 x4 31 13 30,
 oo 6 (.new 58 (.c (.agg [(.int .i64 0), (.str ⟨#[]⟩), (.int .i64 0), .nils, (.int .i64 0), (.str ⟨#[]⟩), (.int .i64 0), (.int .i64 0), .nils, .nils, .nils, .nils, .nils]))),
 x3 13 6 31])
 (.seq
 (.reg [x2 32 4 6,
 x4 33 9 32,
 y5 34 18 33,
 oo 35 (.not (.t 34))])
 (.cond (.t 35)
 (.seq
 (.reg [y6 2])
 .ret)
 .skip))))
 (.reg [x6 36 28 1,
 mv 28 36])))))))
 (.seq
 (.seq
 (.reg [x2 37 7 1,
 x1 38 37,
 y1 39 38,
 x5 40 0])
 (.block 4
 (.loop
 (.seq
 (.reg [x9 41 40 39])
 (.seq
 (.cond (.t 41)
 .skip
 (.exit 4))
 (.seq
 (.block 5
 (.seq
 (.reg [x8 42 10 38 40,
 x4 43 10 42,
 oo 8 (.new 59 (.c (.agg [(.str ⟨#[]⟩), (.int .i64 0), (.str ⟨#[]⟩), (.int .i64 0), (.int .i64 0), .nils, .nils, .nils, .nils, .nils]))),
 x3 10 8 43])
 (.seq
 (.reg [x2 44 1 8,
 x4 45 9 44,
 y5 46 18 45,
 oo 47 (.not (.t 46))])
 (.cond (.t 47)
 (.seq
 (.reg [y6 2])
 .ret)
 .skip))))
 (.reg [x6 48 40 1,
 mv 40 48])))))))
 (.seq
 (.seq
 (.reg [x2 49 8 1,
 x1 50 49,
 y1 51 50,
 x5 52 0])
 (.block 6
 (.loop
 (.seq
 (.reg [x9 53 52 51])
 (.seq
 (.cond (.t 53)
 .skip
 (.exit 6))
 (.seq
 (.block 7
 (.seq
 (.reg [x8 54 10 50 52,
 x4 55 10 54,
 oo 10 (.new 36 (.c (.agg [(.int .i64 0), (.int .i64 0), (.str ⟨#[]⟩), (.int .i64 0), (.int .i64 0), .nils, .nils, .nils, .nils, .nils]))),
 x3 10 10 55])
 (.seq
 (.reg [x2 56 1 10,
 x4 57 9 56,
 y5 58 18 57,
 oo 59 (.not (.t 58))])
 (.cond (.t 59)
 (.seq
 (.reg [y6 2])
 .ret)
 .skip))))
 (.reg [x6 60 52 1,
 mv 52 60])))))))
 (.seq
 (.reg [oo 2 (.move (.c (.bool true)))])
 .ret)))))))
theorem ent18 : EntOK Tryz.prog 18 ⟨61, v18, [.slot 2]⟩ := fun args σ K ha h =>
 enter (own := List.range 61) Tryz.func18 (by kernel_rfl) (by kernel_rfl) (by kernel_rfl) ha h
def v19 : ACode :=
(.seq
 (.reg [y6 4])
 (.seq
 (.reg [mv 5 0,
 mv 6 1,
 y2 7 31 5 6,
 oo 8 (.bin .int .geq (.t 7) (.c (.int .i64 0))),
 mv 4 8])
 .ret))
theorem ent19 : EntOK Tryz.prog 19 ⟨9, v19, [.slot 4]⟩ := fun args σ K ha h =>
 enter (own := List.range 9) Tryz.func19 (by kernel_rfl) (by kernel_rfl) (by kernel_rfl) ha h
def v21 : ACode :=
(.seq
 (.reg [y8 2 28 0,
 oo 4 (.new 28 (.c (.agg [(.int .i64 0), (.str ⟨#[]⟩), (.int .i64 0), (.int .i64 0), .nils, .nils, .nils, .nils, .nils])))])
 (.seq
 (.reg [mv 16 1,
 oo 17 (.mkfn (.func 33) [] [(.t 2)]),
 y2 18 32 16 17,
 mv 1 18])
 (.seq
 (.seq
 (.reg [mv 19 1,
 y1 20 19,
 x7 21 20 0])
 (.cond (.t 21)
 (.seq
 (.reg [x4 22 9 2,
 x3 9 4 22])
 .ret)
 .skip))
 (.seq
 (.reg [mv 23 1,
 oo 24 (.mkfn (.func 35) [] [(.t 2)]),
 y2 25 32 23 24,
 mv 5 25])
 (.seq
 (.seq
 (.reg [mv 26 5,
 y1 27 26,
 mv 28 1,
 y1 29 28,
 x9 30 27 29])
 (.cond (.t 30)
 (.seq
 (.reg [mv 31 1,
 oo 32 (.mkfn (.func 37) [] [(.t 2)]),
 y2 33 32 31 32,
 mv 6 33])
 (.seq
 (.reg [x4 34 9 2,
 mv 35 5,
 y2 36 21 34 35,
 z8 37 28 9 36,
 mv 38 6,
 oo 39 (.build [(.int .i64 0), (.str ⟨#[]⟩), (.int .i64 0), (.int .i64 0), .nils, .nils, .nils, .nils, .nils] [(0, 1, (.c (.int .i64 11))), (5, 1, (.t 37)), (8, 1, (.t 38))]),
 x3 9 4 39])
 .ret))
 .skip))
 (.seq
 (.reg [y9 7])
 (.seq
 (.seq
 (.reg [x2 40 5 2,
 x1 41 40,
 y1 42 41,
 x5 43 0])
 (.block 0
 (.loop
 (.seq
 (.reg [x9 44 43 42])
 (.seq
 (.cond (.t 44)
 .skip
 (.exit 0))
 (.seq
 (.block 1
 (.seq
 (.reg [mv 45 43,
 x8 46 9 41 43,
 x4 47 9 46,
 oo 8 (.new 3 (.c (.int .i64 0))),
 oo 9 (.new 28 (.c (.agg [(.int .i64 0), (.str ⟨#[]⟩), (.int .i64 0), (.int .i64 0), .nils, .nils, .nils, .nils, .nils]))),
 x3 1 8 45,
 x3 9 9 47])
 (.draw [] [([⟨(some 48), .move (.t 7), none⟩], []),
 ([⟨(some 49), .load (some 9) (.t 9), none⟩], []),
 ([⟨(some 50), .move (.t 1), none⟩], []),
 ([⟨(some 51), .mkfn (.func 39) [] [(.t 8)], none⟩], []),
 ([⟨(some 52), .call 38 [(.t 50), (.t 51)], none⟩], [⟨(some 49), .load (some 9) (.t 9), none⟩]),
 ([⟨(some 53), .call 21 [(.t 49), (.t 52)], none⟩], []),
 ([⟨(some 54), .lit true 28 9 [(.t 53)], none⟩], []),
 ([⟨(some 55), .append 28 9 160 (.t 48) (.t 54), none⟩], []),
 ([⟨(some 7), .move (.t 55), none⟩], [])])))
 (.reg [x6 56 43 1,
 mv 43 56])))))))
 (.seq
 (.reg [mv 57 7,
 x2 58 5 2,
 x3 1 58 57])
 (.seq
 (.reg [y9 10])
 (.seq
 (.seq
 (.reg [x2 59 6 2,
 x1 60 59,
 y1 61 60,
 x5 62 0])
 (.block 2
 (.loop
 (.seq
 (.reg [x9 63 62 61])
 (.seq
 (.cond (.t 63)
 .skip
 (.exit 2))
 (.seq
 (.block 3
 (.seq
 (.reg [mv 64 62,
 x8 65 13 60 62,
 x4 66 13 65,
 oo 11 (.new 3 (.c (.int .i64 0))),
 oo 12 (.new 58 (.c (.agg [(.int .i64 0), (.str ⟨#[]⟩), (.int .i64 0), .nils, (.int .i64 0), (.str ⟨#[]⟩), (.int .i64 0), (.int .i64 0), .nils, .nils, .nils, .nils, .nils]))),
 x3 1 11 64,
 x3 13 12 66])
 (.seq
 (.draw [] [([⟨(some 67), .faddr 4 (.t 12), none⟩], []),
 ([⟨(some 68), .load (some 9) (.t 67), none⟩], []),
 ([⟨(some 69), .move (.t 1), none⟩], []),
 ([⟨(some 70), .mkfn (.func 40) [] [(.t 11)], none⟩], []),
 ([⟨(some 71), .call 38 [(.t 69), (.t 70)], none⟩], [⟨(some 67), .faddr 4 (.t 12), none⟩, ⟨(some 68), .load (some 9) (.t 67), none⟩]),
 ([⟨(some 72), .call 21 [(.t 68), (.t 71)], none⟩], []),
 ([⟨(some 73), .faddr 4 (.t 12), none⟩], []),
 ([x3 9 73 72], [])])
 (.reg [mv 74 10,
 x4 75 13 12,
 z8 76 58 13 75,
 z7 77 58 13 216 74 76,
 mv 10 77]))))
 (.reg [x6 78 62 1,
 mv 62 78])))))))
 (.seq
 (.reg [mv 79 10,
 x2 80 6 2,
 x3 1 80 79])
 (.seq
 (.reg [y9 13])
 (.seq
 (.seq
 (.reg [x2 81 7 2,
 x1 82 81,
 y1 83 82,
 x5 84 0])
 (.block 4
 (.loop
 (.seq
 (.reg [x9 85 84 83])
 (.seq
 (.cond (.t 85)
 .skip
 (.exit 4))
 (.seq
 (.block 5
 (.seq
 (.reg [mv 86 84,
 x8 87 10 82 84,
 x4 88 10 87,
 oo 14 (.new 3 (.c (.int .i64 0))),
 oo 15 (.new 59 (.c (.agg [(.str ⟨#[]⟩), (.int .i64 0), (.str ⟨#[]⟩), (.int .i64 0), (.int .i64 0), .nils, .nils, .nils, .nils, .nils]))),
 x3 1 14 86,
 x3 10 15 88])
 (.seq
 (.draw [] [([⟨(some 89), .faddr 1 (.t 15), none⟩], []),
 ([⟨(some 90), .load (some 9) (.t 89), none⟩], []),
 ([⟨(some 91), .move (.t 1), none⟩], []),
 ([⟨(some 92), .mkfn (.func 41) [] [(.t 14)], none⟩], []),
 ([⟨(some 93), .call 38 [(.t 91), (.t 92)], none⟩], [⟨(some 89), .faddr 1 (.t 15), none⟩, ⟨(some 90), .load (some 9) (.t 89), none⟩]),
 ([⟨(some 94), .call 21 [(.t 90), (.t 93)], none⟩], []),
 ([⟨(some 95), .faddr 1 (.t 15), none⟩], []),
 ([x3 9 95 94], [])])
 (.reg [mv 96 13,
 x4 97 10 15,
 z8 98 59 10 97,
 z7 99 59 10 176 96 98,
 mv 13 99]))))
 (.reg [x6 100 84 1,
 mv 84 100])))))))
 (.seq
 (.reg [mv 101 13,
 x2 102 7 2,
 x3 1 102 101])
 (.seq
 (.reg [x4 103 9 2,
 x3 9 4 103])
 .ret)))))))))))))))
theorem ent21 : EntOK Tryz.prog 21 ⟨104, v21, [.cell 4 (some 9)]⟩ := fun args σ K ha h =>
 enter (own := List.range 104) Tryz.func21 (by kernel_rfl) (by kernel_rfl) (by kernel_rfl) ha h
def v22 : ACode :=
(.seq
 (.reg [y8 1 28 0,
 x5 2 0])
 (.seq
 (.reg [x5 3 0])
 (.seq
 (.seq
 (.reg [x2 12 0 1,
 x1 13 12,
 x7 14 13 11])
 (.cond (.t 14)
 (.reg [x5 3 1])
 .skip))
 (.seq
 (.seq
 (.reg [x2 15 5 1,
 x1 16 15,
 y1 17 16,
 x5 18 0])
 (.block 0
 (.loop
 (.seq
 (.reg [x9 19 18 17])
 (.seq
 (.cond (.t 19)
 .skip
 (.exit 0))
 (.seq
 (.block 1
 (.seq
 (.reg [x8 20 9 16 18,
 x4 21 9 20,
 oo 5 (.new 28 (.c (.agg [(.int .i64 0), (.str ⟨#[]⟩), (.int .i64 0), (.int .i64 0), .nils, .nils, .nils, .nils, .nils]))),
 x3 9 5 21])
 (.reg [mv 22 3,
 x4 23 9 5,
 y5 24 22 23,
 oo 25 (.bin .int .add (.t 22) (.t 24)),
 mv 3 25])))
 (.reg [x6 26 18 1,
 mv 18 26])))))))
 (.seq
 (.seq
 (.reg [x2 27 6 1,
 x1 28 27,
 y1 29 28,
 x5 30 0])
 (.block 2
 (.loop
 (.seq
 (.reg [x9 31 30 29])
 (.seq
 (.cond (.t 31)
 .skip
 (.exit 2))
 (.seq
 (.block 3
 (.seq
 (.reg [x8 32 13 28 30,
 x4 33 13 32,
 oo 7 (.new 58 (.c (.agg [(.int .i64 0), (.str ⟨#[]⟩), (.int .i64 0), .nils, (.int .i64 0), (.str ⟨#[]⟩), (.int .i64 0), (.int .i64 0), .nils, .nils, .nils, .nils, .nils]))),
 x3 13 7 33])
 (.reg [mv 34 3,
 x2 35 4 7,
 x4 36 9 35,
 y5 37 22 36,
 oo 38 (.bin .int .add (.t 34) (.t 37)),
 mv 3 38])))
 (.reg [x6 39 30 1,
 mv 30 39])))))))
 (.seq
 (.seq
 (.reg [x2 40 7 1,
 x1 41 40,
 y1 42 41,
 x5 43 0])
 (.block 4
 (.loop
 (.seq
 (.reg [x9 44 43 42])
 (.seq
 (.cond (.t 44)
 .skip
 (.exit 4))
 (.seq
 (.block 5
 (.seq
 (.reg [x8 45 10 41 43,
 x4 46 10 45,
 oo 9 (.new 59 (.c (.agg [(.str ⟨#[]⟩), (.int .i64 0), (.str ⟨#[]⟩), (.int .i64 0), (.int .i64 0), .nils, .nils, .nils, .nils, .nils]))),
 x3 10 9 46])
 (.reg [mv 47 3,
 x2 48 1 9,
 x4 49 9 48,
 y5 50 22 49,
 oo 51 (.bin .int .add (.t 47) (.t 50)),
 mv 3 51])))
 (.reg [x6 52 43 1,
 mv 43 52])))))))
 (.seq
 (.seq
 (.reg [x2 53 8 1,
 x1 54 53,
 y1 55 54,
 x5 56 0])
 (.block 6
 (.loop
 (.seq
 (.reg [x9 57 56 55])
 (.seq
 (.cond (.t 57)
 .skip
 (.exit 6))
 (.seq
 (.block 7
 (.seq
 (.reg [x8 58 10 54 56,
 x4 59 10 58,
 oo 11 (.new 36 (.c (.agg [(.int .i64 0), (.int .i64 0), (.str ⟨#[]⟩), (.int .i64 0), (.int .i64 0), .nils, .nils, .nils, .nils, .nils]))),
 x3 10 11 59])
 (.reg [mv 60 3,
 x2 61 1 11,
 x4 62 9 61,
 y5 63 22 62,
 oo 64 (.bin .int .add (.t 60) (.t 63)),
 mv 3 64])))
 (.reg [x6 65 56 1,
 mv 56 65])))))))
 (.seq
 (.reg [mv 66 3,
 mv 2 66])
 .ret))))))))
theorem ent22 : EntOK Tryz.prog 22 ⟨67, v22, [.slot 2]⟩ := fun args σ K ha h =>
 enter (own := List.range 67) Tryz.func22 (by kernel_rfl) (by kernel_rfl) (by kernel_rfl) ha h
def v26 : ACode :=
(.seq
 (.reg [y6 4])
 (.seq
 (.seq
 (.reg [mv 6 0,
 y1 7 6,
 mv 8 1,
 y1 9 8,
 oo 10 (.bin .int .neq (.t 7) (.t 9))])
 (.cond (.t 10)
 (.seq
 (.reg [y6 4])
 .ret)
 .skip))
 (.seq
 (.seq
 (.reg [x5 5 0])
 (.block 0
 (.loop
 (.seq
 (.seq
 (.reg [mv 11 5,
 mv 12 0,
 y1 13 12,
 x9 14 11 13])
 (.cond (.t 14)
 .skip
 (.exit 0)))
 (.seq
 (.block 1
 (.seq
 (.reg [mv 17 0,
 mv 18 5,
 x8 19 1 17 18,
 x1 20 19,
 mv 21 1,
 mv 22 5,
 x8 23 1 21 22,
 x1 24 23,
 oo 25 (.bin .str .neq (.t 20) (.t 24))])
 (.cond (.t 25)
 (.seq
 (.reg [y6 4])
 .ret)
 .skip)))
 (.reg [mv 15 5,
 x6 16 15 1,
 mv 5 16]))))))
 (.seq
 (.reg [oo 4 (.move (.c (.bool true)))])
 .ret))))
theorem ent26 : EntOK Tryz.prog 26 ⟨26, v26, [.slot 4]⟩ := fun args σ K ha h =>
 enter (own := List.range 26) Tryz.func26 (by kernel_rfl) (by kernel_rfl) (by kernel_rfl) ha h
def v28 : ACode :=
(.seq
 (.reg [oo 2 (.new 49 q1),
 oo 3 (.new 66 q0)])
 (.seq
 (.reg [mv 7 0,
 y5 8 43 7,
 oo 4 (.new 77 (.c .nilp)),
 x3 1 4 8])
 (.seq
 (.reg [oo 5 (.new 49 q1)])
 (.seq
 (.reg [x1 9 4,
 oo 10 (.mkfn (.func 45) [] [(.t 4), (.t 5)]),
 y2 11 44 9 10])
 (.seq
 (.reg [x1 12 4,
 oo 13 (.call 47 [(.t 12), (.c (.str ⟨#[125]⟩))])])
 (.seq
 (.reg [x1 14 4,
 y5 15 48 14])
 (.seq
 (.reg [x2 16 1 5,
 x1 17 16,
 oo 18 (.build [.nils, (.bool false), (.int .i64 0), (.int .i64 0), (.int .i64 0)] [(0, 1, (.t 17))]),
 y8 19 87 18,
 mv 6 19])
 (.seq
 (.seq
 (.reg [x1 20 4,
 y3 21 20,
 x2 22 2 21,
 x1 23 22,
 oo 24 (.not (.t 23))])
 (.cond (.t 24)
 (.seq
 (.reg [mv 25 6,
 x2 26 2 5,
 x1 27 26,
 y2 28 49 25 27,
 x2 29 2 5,
 x3 1 29 28])
 (.draw [] [([⟨(some 30), .load none (.t 4), none⟩], []),
 ([⟨(some 31), .load none (.t 4), none⟩], []),
 ([⟨(some 32), .move (.t 6), none⟩], []),
 ([⟨(some 33), .nilck (.t 32), none⟩], []),
 ([⟨(some 34), .faddr 1 (.t 33), none⟩], []),
 ([⟨(some 35), .load none (.t 34), none⟩], []),
 ([⟨(some 36), .move (.t 6), none⟩], []),
 ([⟨(some 37), .nilck (.t 36), none⟩], []),
 ([⟨(some 38), .faddr 2 (.t 37), none⟩], []),
 ([⟨(some 39), .load (some 3) (.t 38), none⟩], []),
 ([⟨(some 40), .nilck (.t 30), none⟩], []),
 ([⟨(some 41), .faddr 2 (.t 40), none⟩], []),
 ([x3 1 41 35], [⟨(some 31), .load none (.t 4), none⟩]),
 ([⟨(some 42), .nilck (.t 31), none⟩], []),
 ([⟨(some 43), .faddr 3 (.t 42), none⟩], []),
 ([x3 3 43 39], [])]))
 .skip))
 (.seq
 (.seq
 (.reg [x1 44 4,
 y3 45 44,
 x2 46 2 45,
 x1 47 46])
 (.cond (.t 47)
 (.seq
 (.draw [] [([⟨(some 48), .build [.nils, .nils, .nils] [], none⟩], []),
 ([⟨(some 49), .load none (.t 4), none⟩], []),
 ([⟨(some 50), .nilck (.t 49), none⟩], []),
 ([⟨(some 51), .faddr 3 (.t 50), none⟩], []),
 ([⟨(some 52), .load (some 3) (.t 51), none⟩], []),
 ([x3 3 2 48], [⟨(some 49), .load none (.t 4), none⟩, ⟨(some 51), .faddr 3 (.t 50), none⟩, ⟨(some 52), .load (some 3) (.t 51), none⟩]),
 ([x3 3 3 52], [])])
 .ret)
 .skip))
 (.seq
 (.reg [x4 53 3 5,
 oo 54 (.build [(.int .i64 0), (.int .i64 0), (.int .i64 0)] []),
 x3 3 2 53,
 x3 3 3 54])
 .ret))))))))))
theorem ent28 : EntOK Tryz.prog 28 ⟨55, v28, [.cell 2 (some 3), .cell 3 (some 3)]⟩ := fun args σ K ha h =>
 enter (own := List.range 55) Tryz.func28 (by kernel_rfl) (by kernel_rfl) (by kernel_rfl) ha h
def v29 : ACode :=
(.seq
 (.reg [y8 1 49 0,
 y9 2,
 oo 3 (.new 66 q0)])
 (.seq
 (.reg [x4 14 3 1,
 y5 15 50 14,
 mv 13 15,
 z9 16 13 0,
 z9 17 13 1,
 oo 5 (.new 66 q0),
 mv 4 16,
 x3 3 5 17])
 (.seq
 (.seq
 (.reg [x2 18 0 5,
 x1 19 18,
 oo 20 (.bin .int .neq (.t 19) (.c (.int .i64 0)))])
 (.cond (.t 20)
 (.seq
 (.reg [x4 21 3 5,
 y9 2,
 x3 3 3 21])
 .ret)
 .skip))
 (.seq
 (.reg [oo 22 (.mkmap),
 x4 23 3 1,
 y5 24 51 23,
 ⟨none, .mapset .str (.t 22) (.t 24) (.c (.bool true)), none⟩,
 mv 25 22,
 mv 6 25])
 (.seq
 (.reg [y9 7])
 (.seq
 (.seq
 (.reg [x4 26 3 1,
 y5 27 52 26,
 y1 28 27,
 x5 29 0])
 (.block 0
 (.loop
 (.seq
 (.reg [x9 30 29 28])
 (.seq
 (.cond (.t 30)
 .skip
 (.exit 0))
 (.seq
 (.block 1
 (.seq
 (.reg [x8 31 5 27 29,
 x4 32 5 31,
 oo 9 (.new 99 q6),
 x3 5 9 32])
 (.seq
 (.reg [x2 33 2 9,
 x4 34 3 33,
 y5 35 51 34,
 mv 10 35])
 (.seq
 (.seq
 (.reg [mv 36 10,
 oo 37 (.bin .str .eql (.t 36) (.c (.str ⟨#[]⟩))),
 mv 38 37,
 z5 39 38 6,
 z5 40 38 10,
 og 41 38 false (.lookup .str (.bool false) false (.t 39) (.t 40)),
 y4 42 38 41])
 (.cond (.t 42)
 (.exit 1)
 .skip))
 (.seq
 (.reg [x2 44 2 9,
 x4 45 3 44,
 y5 46 50 45,
 mv 43 46,
 z9 47 43 0,
 z9 48 43 1,
 oo 12 (.new 66 q0),
 mv 11 47,
 x3 3 12 48])
 (.seq
 (.seq
 (.reg [x2 49 0 12,
 x1 50 49,
 oo 51 (.bin .int .neq (.t 50) (.c (.int .i64 0))),
 mv 52 51,
 z5 53 52 11,
 z5 54 52 4,
 og 55 52 false (.call 53 [(.t 53), (.t 54)]),
 og 56 52 false (.not (.t 55)),
 y4 57 52 56])
 (.cond (.t 57)
 (.exit 1)
 .skip))
 (.seq
 (.reg [mv 58 6,
 mv 59 10,
 ⟨none, .mapset .str (.t 58) (.t 59) (.c (.bool true)), none⟩])
 (.seq
 (.reg [mv 60 7,
 x4 61 5 9,
 z8 62 99 5 61,
 z7 63 99 5 88 60 62,
 mv 7 63])
 (.seq
 (.reg [mv 64 7,
 y1 65 64,
 oo 66 (.bin .int .gtr (.t 65) (.c (.int .i64 512)))])
 (.cond (.t 66)
 (.seq
 (.reg [oo 67 (.build [(.int .i64 0), (.int .i64 0)] [(0, 1, (.c (.int .i64 1))), (1, 1, (.c (.int .i64 1)))]),
 oo 68 (.build [(.int .i64 0), (.int .i64 0), (.int .i64 0)] [(0, 1, (.c (.int .i64 2))), (1, 2, (.t 67))]),
 y9 2,
 x3 3 3 68])
 .ret)
 .skip))))))))))
 (.reg [x6 69 29 1,
 mv 29 69])))))))
 (.seq
 (.reg [mv 70 7,
 oo 71 (.build [(.int .i64 0), (.int .i64 0), (.int .i64 0)] []),
 mv 2 70,
 x3 3 3 71])
 .ret)))))))
theorem ent29 : EntOK Tryz.prog 29 ⟨72, v29, [.slot 2, .cell 3 (some 3)]⟩ := fun args σ K ha h =>
 enter (own := List.range 72) Tryz.func29 (by kernel_rfl) (by kernel_rfl) (by kernel_rfl) ha h
def v30 : ACode :=
(.seq
 (.reg [y8 2 49 0,
 y9 4,
 x5 5 0])
 (.seq
 (.reg [x4 19 3 2,
 y5 20 54 19,
 mv 18 20,
 z9 21 18 0,
 z9 22 18 1,
 oo 7 (.new 66 q0),
 mv 6 21,
 x3 3 7 22])
 (.seq
 (.seq
 (.reg [x2 23 0 7,
 x1 24 23,
 oo 25 (.bin .int .neq (.t 24) (.c (.int .i64 0)))])
 (.cond (.t 25)
 (.seq
 (.reg [y9 4,
 x5 5 1])
 .ret)
 .skip))
 (.seq
 (.reg [mv 26 6,
 y1 27 26,
 oo 28 (.mkslice 26 1 24 [.nils] (.t 27) (.t 27)),
 mv 8 28])
 (.seq
 (.seq
 (.reg [mv 29 1,
 y1 30 29,
 x5 31 0])
 (.block 0
 (.loop
 (.seq
 (.reg [x9 32 31 30])
 (.seq
 (.cond (.t 32)
 .skip
 (.exit 0))
 (.seq
 (.block 1
 (.seq
 (.reg [mv 33 31,
 x8 34 5 29 31,
 x4 35 5 34,
 oo 10 (.new 99 q6),
 mv 9 33,
 x3 5 10 35])
 (.seq
 (.reg [x2 37 2 10,
 x4 38 3 37,
 y5 39 54 38,
 mv 36 39,
 z9 40 36 0,
 z9 41 36 1,
 oo 12 (.new 66 q0),
 mv 11 40,
 x3 3 12 41])
 (.seq
 (.seq
 (.reg [x2 42 0 12,
 x1 43 42,
 oo 44 (.bin .int .neq (.t 43) (.c (.int .i64 0))),
 mv 45 44,
 z5 46 45 6,
 z5 47 45 11,
 og 48 45 false (.call 55 [(.t 46), (.t 47)]),
 og 49 45 false (.not (.t 48)),
 y4 50 45 49])
 (.cond (.t 50)
 (.seq
 (.reg [y9 4,
 x5 5 1])
 .ret)
 .skip))
 (.seq
 (.reg [mv 51 11,
 y1 52 51,
 x5 53 0])
 (.block 2
 (.loop
 (.seq
 (.reg [x9 54 53 52])
 (.seq
 (.cond (.t 54)
 .skip
 (.exit 2))
 (.seq
 (.block 3
 (.seq
 (.reg [mv 55 53,
 x8 56 10 51 53,
 x4 57 10 56,
 oo 14 (.new 39 (.c (.agg [(.str ⟨#[]⟩), (.int .i64 0), (.str ⟨#[]⟩), (.int .i64 0), (.int .i64 0), .nils, .nils, .nils, .nils, .nils]))),
 mv 13 55,
 x3 10 14 57])
 (.perm [([⟨(some 58), .move (.t 8), none⟩], []),
 ([⟨(some 59), .move (.t 13), none⟩], []),
 ([⟨(some 60), .iaddr 1 (.t 58) (.t 59), none⟩], []),
 ([⟨(some 61), .load none (.t 60), none⟩], []),
 ([⟨(some 62), .move (.t 9), none⟩], []),
 ([⟨(some 63), .bin .int .add (.t 62) (.c (.int .i64 1)), none⟩], []),
 ([⟨(some 64), .faddr 1 (.t 14), none⟩], []),
 ([⟨(some 65), .load (some 9) (.t 64), none⟩], []),
 ([⟨(some 66), .build [(.int .i64 0), (.int .i64 0), (.str ⟨#[]⟩), (.int .i64 0), (.int .i64 0), .nils, .nils, .nils, .nils, .nils] [(0, 1, (.t 63)), (1, 9, (.t 65))], none⟩], []),
 ([⟨(some 67), .len .slice (.t 61), none⟩], []),
 ([⟨(some 68), .lit true 36 10 [(.c (.agg [(.int .i64 0), (.int .i64 0), (.str ⟨#[]⟩), (.int .i64 0), (.int .i64 0), .nils, .nils, .nils, .nils, .nils]))], none⟩], [⟨(some 60), .iaddr 1 (.t 58) (.t 59), none⟩, ⟨(some 61), .load none (.t 60), none⟩, ⟨(some 64), .faddr 1 (.t 14), none⟩, ⟨(some 65), .load (some 9) (.t 64), none⟩]),
 ([⟨(some 69), .append 36 10 168 (.t 61) (.t 68), none⟩], []),
 ([⟨(some 70), .iaddr 10 (.t 69) (.t 67), none⟩], []),
 ([⟨(some 71), .iaddr 1 (.t 58) (.t 59), none⟩], [])] [(13, [x3 10 70 66], [⟨(some 71), .iaddr 1 (.t 58) (.t 59), none⟩]),
 (15, [x3 1 71 69], [⟨(some 70), .iaddr 10 (.t 69) (.t 67), none⟩])] [])))
 (.reg [x6 72 53 1,
 mv 53 72])))))))))))
 (.reg [x6 73 31 1,
 mv 31 73])))))))
 (.seq
 (.reg [y9 15])
 (.seq
 (.seq
 (.reg [mv 74 6,
 y1 75 74,
 x5 76 0])
 (.block 4
 (.loop
 (.seq
 (.reg [x9 77 76 75])
 (.seq
 (.cond (.t 77)
 .skip
 (.exit 4))
 (.seq
 (.block 5
 (.seq
 (.reg [mv 78 76,
 x8 79 10 74 76,
 x4 80 10 79,
 oo 17 (.new 39 (.c (.agg [(.str ⟨#[]⟩), (.int .i64 0), (.str ⟨#[]⟩), (.int .i64 0), (.int .i64 0), .nils, .nils, .nils, .nils, .nils]))),
 mv 16 78,
 x3 10 17 80])
 (.draw [] [([⟨(some 81), .move (.t 15), none⟩], []),
 ([⟨(some 82), .faddr 0 (.t 17), none⟩], []),
 ([⟨(some 83), .load none (.t 82), none⟩], []),
 ([⟨(some 84), .faddr 1 (.t 17), none⟩], []),
 ([⟨(some 85), .load (some 9) (.t 84), none⟩], []),
 ([⟨(some 86), .move (.t 8), none⟩], []),
 ([⟨(some 87), .move (.t 16), none⟩], []),
 ([⟨(some 88), .iaddr 1 (.t 86) (.t 87), none⟩], []),
 ([⟨(some 89), .load none (.t 88), none⟩], []),
 ([⟨(some 90), .call 21 [(.t 85), (.t 89)], none⟩], [⟨(some 82), .faddr 0 (.t 17), none⟩, ⟨(some 83), .load none (.t 82), none⟩]),
 ([⟨(some 91), .build [(.str ⟨#[]⟩), (.int .i64 0), (.str ⟨#[]⟩), (.int .i64 0), (.int .i64 0), .nils, .nils, .nils, .nils, .nils] [(0, 1, (.t 83)), (1, 9, (.t 90))], none⟩], []),
 ([⟨(some 92), .lit true 39 10 [(.t 91)], none⟩], []),
 ([⟨(some 93), .append 39 10 176 (.t 81) (.t 92), none⟩], []),
 ([⟨(some 15), .move (.t 93), none⟩], [])])))
 (.reg [x6 94 76 1,
 mv 76 94])))))))
 (.seq
 (.reg [mv 95 15,
 mv 4 95,
 x5 5 0])
 .ret))))))))
theorem ent30 : EntOK Tryz.prog 30 ⟨96, v30, [.slot 4, .slot 5]⟩ := fun args σ K ha h =>
 enter (own := List.range 96) Tryz.func30 (by kernel_rfl) (by kernel_rfl) (by kernel_rfl) ha h
def v31 : ACode :=
(.seq
 (.reg [x5 4 0])
 (.seq
 (.seq
 (.reg [mv 6 0,
 y1 7 6,
 x5 8 0])
 (.block 0
 (.loop
 (.seq
 (.reg [x9 9 8 7])
 (.seq
 (.cond (.t 9)
 .skip
 (.exit 0))
 (.seq
 (.block 1
 (.seq
 (.reg [mv 10 8,
 mv 5 10])
 (.seq
 (.reg [mv 11 1,
 mv 12 0,
 mv 13 5,
 x8 14 10 12 13,
 x4 15 10 14,
 oo 16 (.callv (.t 11) [(.t 15)])])
 (.cond (.t 16)
 (.seq
 (.reg [mv 17 5,
 mv 4 17])
 .ret)
 .skip))))
 (.reg [x6 18 8 1,
 mv 8 18])))))))
 (.seq
 (.reg [oo 4 (.move (.c (.int .i64 (-1))))])
 .ret)))
theorem ent31 : EntOK Tryz.prog 31 ⟨19, v31, [.slot 4]⟩ := fun args σ K ha h =>
 enter (own := List.range 19) Tryz.func31 (by kernel_rfl) (by kernel_rfl) (by kernel_rfl) ha h
def v32 : ACode :=
(.seq
 (.reg [y9 4])
 (.seq
 (.reg [y9 5])
 (.seq
 (.seq
 (.reg [mv 8 0,
 y1 9 8,
 x5 10 0])
 (.block 0
 (.loop
 (.seq
 (.reg [x9 11 10 9])
 (.seq
 (.cond (.t 11)
 .skip
 (.exit 0))
 (.seq
 (.block 1
 (.seq
 (.reg [x8 12 10 8 10,
 x4 13 10 12,
 oo 7 (.new 36 (.c (.agg [(.int .i64 0), (.int .i64 0), (.str ⟨#[]⟩), (.int .i64 0), (.int .i64 0), .nils, .nils, .nils, .nils, .nils]))),
 x3 10 7 13])
 (.seq
 (.reg [mv 14 1,
 x4 15 10 7,
 oo 16 (.callv (.t 14) [(.t 15)])])
 (.cond (.t 16)
 (.reg [mv 17 5,
 x4 18 10 7,
 z8 19 36 10 18,
 z7 20 36 10 168 17 19,
 mv 5 20])
 .skip))))
 (.reg [x6 21 10 1,
 mv 10 21])))))))
 (.seq
 (.reg [mv 22 5,
 mv 4 22])
 .ret))))
theorem ent32 : EntOK Tryz.prog 32 ⟨23, v32, [.slot 4]⟩ := fun args σ K ha h =>
 enter (own := List.range 23) Tryz.func32 (by kernel_rfl) (by kernel_rfl) (by kernel_rfl) ha h
def v33 : ACode :=
(.seq
 (.reg [y8 2 36 0,
 y6 3])
 (.seq
 (.reg [x4 4 9 1,
 x2 5 1 2,
 x4 6 9 5,
 y2 7 34 4 6,
 oo 8 (.not (.t 7)),
 mv 3 8])
 .ret))
theorem ent33 : EntOK Tryz.prog 33 ⟨9, v33, [.slot 3]⟩ := fun args σ K ha h =>
 enter (own := List.range 9) Tryz.func33 (by kernel_rfl) (by kernel_rfl) (by kernel_rfl) ha h
def v34 : ACode :=
(.seq
 (.reg [y8 2 28 0,
 y8 3 28 1,
 y6 4])
 (.seq
 (.seq
 (.reg [x4 9 9 2,
 x4 10 9 3,
 y2 11 36 9 10,
 oo 12 (.not (.t 11))])
 (.cond (.t 12)
 (.seq
 (.reg [y6 4])
 .ret)
 .skip))
 (.seq
 (.seq
 (.reg [x2 13 5 2,
 x1 14 13,
 y1 15 14,
 x5 16 0])
 (.block 0
 (.loop
 (.seq
 (.reg [x9 17 16 15])
 (.seq
 (.cond (.t 17)
 .skip
 (.exit 0))
 (.seq
 (.block 1
 (.seq
 (.reg [mv 18 16,
 mv 5 18])
 (.seq
 (.reg [x2 19 5 2,
 x1 20 19,
 mv 21 5,
 x8 22 9 20 21,
 x4 23 9 22,
 x2 24 5 3,
 x1 25 24,
 mv 26 5,
 x8 27 9 25 26,
 x4 28 9 27,
 y2 29 34 23 28,
 oo 30 (.not (.t 29))])
 (.cond (.t 30)
 (.seq
 (.reg [y6 4])
 .ret)
 .skip))))
 (.reg [x6 31 16 1,
 mv 16 31])))))))
 (.seq
 (.seq
 (.reg [x2 32 6 2,
 x1 33 32,
 y1 34 33,
 x5 35 0])
 (.block 2
 (.loop
 (.seq
 (.reg [x9 36 35 34])
 (.seq
 (.cond (.t 36)
 .skip
 (.exit 2))
 (.seq
 (.block 3
 (.seq
 (.reg [mv 37 35,
 mv 6 37])
 (.seq
 (.reg [x2 38 6 2,
 x1 39 38,
 mv 40 6,
 x8 41 13 39 40,
 x2 42 4 41,
 x4 43 9 42,
 x2 44 6 3,
 x1 45 44,
 mv 46 6,
 x8 47 13 45 46,
 x2 48 4 47,
 x4 49 9 48,
 y2 50 34 43 49,
 oo 51 (.not (.t 50))])
 (.cond (.t 51)
 (.seq
 (.reg [y6 4])
 .ret)
 .skip))))
 (.reg [x6 52 35 1,
 mv 35 52])))))))
 (.seq
 (.seq
 (.reg [x2 53 7 2,
 x1 54 53,
 y1 55 54,
 x5 56 0])
 (.block 4
 (.loop
 (.seq
 (.reg [x9 57 56 55])
 (.seq
 (.cond (.t 57)
 .skip
 (.exit 4))
 (.seq
 (.block 5
 (.seq
 (.reg [mv 58 56,
 mv 7 58])
 (.seq
 (.reg [x2 59 7 2,
 x1 60 59,
 mv 61 7,
 x8 62 10 60 61,
 x2 63 1 62,
 x4 64 9 63,
 x2 65 7 3,
 x1 66 65,
 mv 67 7,
 x8 68 10 66 67,
 x2 69 1 68,
 x4 70 9 69,
 y2 71 34 64 70,
 oo 72 (.not (.t 71))])
 (.cond (.t 72)
 (.seq
 (.reg [y6 4])
 .ret)
 .skip))))
 (.reg [x6 73 56 1,
 mv 56 73])))))))
 (.seq
 (.seq
 (.reg [x2 74 8 2,
 x1 75 74,
 y1 76 75,
 x5 77 0])
 (.block 6
 (.loop
 (.seq
 (.reg [x9 78 77 76])
 (.seq
 (.cond (.t 78)
 .skip
 (.exit 6))
 (.seq
 (.block 7
 (.seq
 (.reg [mv 79 77,
 mv 8 79])
 (.seq
 (.reg [x2 80 8 2,
 x1 81 80,
 mv 82 8,
 x8 83 10 81 82,
 x2 84 0 83,
 x1 85 84,
 x2 86 8 3,
 x1 87 86,
 mv 88 8,
 x8 89 10 87 88,
 x2 90 0 89,
 x1 91 90,
 oo 92 (.bin .int .neq (.t 85) (.t 91)),
 mv 93 92,
 z1 94 93 8 2,
 z3 95 93 94,
 z5 96 93 8,
 og 97 93 false (.iaddr 10 (.t 95) (.t 96)),
 z1 98 93 1 97,
 og 99 93 false (.load (some 9) (.t 98)),
 z1 100 93 8 3,
 z3 101 93 100,
 z5 102 93 8,
 og 103 93 false (.iaddr 10 (.t 101) (.t 102)),
 z1 104 93 1 103,
 og 105 93 false (.load (some 9) (.t 104)),
 og 106 93 false (.call 34 [(.t 99), (.t 105)]),
 og 107 93 false (.not (.t 106)),
 y4 108 93 107])
 (.cond (.t 108)
 (.seq
 (.reg [y6 4])
 .ret)
 .skip))))
 (.reg [x6 109 77 1,
 mv 77 109])))))))
 (.seq
 (.reg [oo 4 (.move (.c (.bool true)))])
 .ret)))))))
theorem ent34 : EntOK Tryz.prog 34 ⟨110, v34, [.slot 4]⟩ := fun args σ K ha h =>
 enter (own := List.range 110) Tryz.func34 (by kernel_rfl) (by kernel_rfl) (by kernel_rfl) ha h
def v35 : ACode :=
(.seq
 (.reg [y8 2 36 0,
 y6 3])
 (.seq
 (.reg [x4 4 9 1,
 x2 5 1 2,
 x4 6 9 5,
 y2 7 36 4 6,
 mv 3 7])
 .ret))
theorem ent35 : EntOK Tryz.prog 35 ⟨8, v35, [.slot 3]⟩ := fun args σ K ha h =>
 enter (own := List.range 8) Tryz.func35 (by kernel_rfl) (by kernel_rfl) (by kernel_rfl) ha h
def v36 : ACode :=
(.seq
 (.reg [y8 2 28 0,
 y8 3 28 1,
 y6 4])
 (.seq
 (.seq
 (.reg [x2 10 0 2,
 x1 11 10,
 x2 12 0 3,
 x1 13 12,
 oo 14 (.bin .int .neq (.t 11) (.t 13)),
 mv 15 14,
 z1 16 15 1 2,
 z3 17 15 16,
 z1 18 15 1 3,
 z3 19 15 18,
 og 20 15 false (.bin .str .neq (.t 17) (.t 19)),
 y4 21 15 20,
 mv 22 21,
 z1 23 22 2 2,
 z3 24 22 23,
 z1 25 22 2 3,
 z3 26 22 25,
 og 27 22 false (.bin .int .neq (.t 24) (.t 26)),
 y4 28 22 27,
 mv 29 28,
 z1 30 29 3 2,
 z3 31 29 30,
 z1 32 29 3 3,
 z3 33 29 32,
 og 34 29 false (.bin .int .neq (.t 31) (.t 33)),
 y4 35 29 34,
 mv 36 35,
 z1 37 36 4 2,
 z3 38 36 37,
 z1 39 36 4 3,
 z3 40 36 39,
 og 41 36 false (.call 56 [(.t 38), (.t 40)]),
 og 42 36 false (.not (.t 41)),
 y4 43 36 42])
 (.cond (.t 43)
 (.seq
 (.reg [y6 4])
 .ret)
 .skip))
 (.seq
 (.seq
 (.reg [x2 44 5 2,
 x1 45 44,
 y1 46 45,
 x2 47 5 3,
 x1 48 47,
 y1 49 48,
 oo 50 (.bin .int .neq (.t 46) (.t 49)),
 mv 51 50,
 z1 52 51 6 2,
 z3 53 51 52,
 og 54 51 false (.len .slice (.t 53)),
 z1 55 51 6 3,
 z3 56 51 55,
 og 57 51 false (.len .slice (.t 56)),
 og 58 51 false (.bin .int .neq (.t 54) (.t 57)),
 y4 59 51 58,
 mv 60 59,
 z1 61 60 7 2,
 z3 62 60 61,
 og 63 60 false (.len .slice (.t 62)),
 z1 64 60 7 3,
 z3 65 60 64,
 og 66 60 false (.len .slice (.t 65)),
 og 67 60 false (.bin .int .neq (.t 63) (.t 66)),
 y4 68 60 67,
 mv 69 68,
 z1 70 69 8 2,
 z3 71 69 70,
 og 72 69 false (.len .slice (.t 71)),
 z1 73 69 8 3,
 z3 74 69 73,
 og 75 69 false (.len .slice (.t 74)),
 og 76 69 false (.bin .int .neq (.t 72) (.t 75)),
 y4 77 69 76])
 (.cond (.t 77)
 (.seq
 (.reg [y6 4])
 .ret)
 .skip))
 (.seq
 (.seq
 (.reg [x2 78 6 2,
 x1 79 78,
 y1 80 79,
 x5 81 0])
 (.block 0
 (.loop
 (.seq
 (.reg [x9 82 81 80])
 (.seq
 (.cond (.t 82)
 .skip
 (.exit 0))
 (.seq
 (.block 1
 (.seq
 (.reg [mv 83 81,
 x8 84 13 79 81,
 x4 85 13 84,
 oo 6 (.new 58 (.c (.agg [(.int .i64 0), (.str ⟨#[]⟩), (.int .i64 0), .nils, (.int .i64 0), (.str ⟨#[]⟩), (.int .i64 0), (.int .i64 0), .nils, .nils, .nils, .nils, .nils]))),
 mv 5 83,
 x3 13 6 85])
 (.seq
 (.reg [x2 86 6 3,
 x1 87 86,
 mv 88 5,
 x8 89 13 87 88,
 x4 90 13 89,
 oo 7 (.new 58 (.c (.agg [(.int .i64 0), (.str ⟨#[]⟩), (.int .i64 0), .nils, (.int .i64 0), (.str ⟨#[]⟩), (.int .i64 0), (.int .i64 0), .nils, .nils, .nils, .nils, .nils]))),
 x3 13 7 90])
 (.seq
 (.reg [x2 91 0 6,
 x1 92 91,
 x2 93 0 7,
 x1 94 93,
 oo 95 (.bin .int .neq (.t 92) (.t 94)),
 mv 96 95,
 z1 97 96 1 6,
 z3 98 96 97,
 z1 99 96 1 7,
 z3 100 96 99,
 og 101 96 false (.bin .str .neq (.t 98) (.t 100)),
 y4 102 96 101,
 mv 103 102,
 z1 104 103 2 6,
 z3 105 103 104,
 z1 106 103 2 7,
 z3 107 103 106,
 og 108 103 false (.bin .int .neq (.t 105) (.t 107)),
 y4 109 103 108,
 mv 110 109,
 z1 111 110 3 6,
 z3 112 110 111,
 z1 113 110 3 7,
 z3 114 110 113,
 og 115 110 false (.call 56 [(.t 112), (.t 114)]),
 og 116 110 false (.not (.t 115)),
 y4 117 110 116])
 (.cond (.t 117)
 (.seq
 (.reg [y6 4])
 .ret)
 .skip)))))
 (.reg [x6 118 81 1,
 mv 81 118])))))))
 (.seq
 (.seq
 (.reg [x2 119 7 2,
 x1 120 119,
 y1 121 120,
 x5 122 0])
 (.block 2
 (.loop
 (.seq
 (.reg [x9 123 122 121])
 (.seq
 (.cond (.t 123)
 .skip
 (.exit 2))
 (.seq
 (.block 3
 (.seq
 (.reg [mv 124 122,
 x8 125 10 120 122,
 x4 126 10 125,
 oo 9 (.new 59 (.c (.agg [(.str ⟨#[]⟩), (.int .i64 0), (.str ⟨#[]⟩), (.int .i64 0), (.int .i64 0), .nils, .nils, .nils, .nils, .nils]))),
 mv 8 124,
 x3 10 9 126])
 (.seq
 (.reg [x2 127 0 9,
 x1 128 127,
 x2 129 7 3,
 x1 130 129,
 mv 131 8,
 x8 132 10 130 131,
 x2 133 0 132,
 x1 134 133,
 oo 135 (.bin .str .neq (.t 128) (.t 134))])
 (.cond (.t 135)
 (.seq
 (.reg [y6 4])
 .ret)
 .skip))))
 (.reg [x6 136 122 1,
 mv 122 136])))))))
 (.seq
 (.reg [oo 4 (.move (.c (.bool true)))])
 .ret))))))
theorem ent36 : EntOK Tryz.prog 36 ⟨137, v36, [.slot 4]⟩ := fun args σ K ha h =>
 enter (own := List.range 137) Tryz.func36 (by kernel_rfl) (by kernel_rfl) (by kernel_rfl) ha h
def v37 : ACode :=
(.seq
 (.reg [y8 2 36 0,
 y6 3])
 (.seq
 (.reg [x4 4 9 1,
 x2 5 1 2,
 x4 6 9 5,
 y2 7 36 4 6,
 oo 8 (.not (.t 7)),
 mv 3 8])
 .ret))
theorem ent37 : EntOK Tryz.prog 37 ⟨9, v37, [.slot 3]⟩ := fun args σ K ha h =>
 enter (own := List.range 9) Tryz.func37 (by kernel_rfl) (by kernel_rfl) (by kernel_rfl) ha h
def v38 : ACode :=
(.seq
 (.reg [y9 4])
 (.seq
 (.reg [y9 5])
 (.seq
 (.seq
 (.reg [mv 8 0,
 y1 9 8,
 x5 10 0])
 (.block 0
 (.loop
 (.seq
 (.reg [x9 11 10 9])
 (.seq
 (.cond (.t 11)
 .skip
 (.exit 0))
 (.seq
 (.block 1
 (.seq
 (.reg [x8 12 10 8 10,
 x4 13 10 12,
 oo 7 (.new 36 (.c (.agg [(.int .i64 0), (.int .i64 0), (.str ⟨#[]⟩), (.int .i64 0), (.int .i64 0), .nils, .nils, .nils, .nils, .nils]))),
 x3 10 7 13])
 (.draw [] [([⟨(some 14), .move (.t 5), none⟩], []),
 ([⟨(some 15), .faddr 0 (.t 7), none⟩], []),
 ([⟨(some 16), .load none (.t 15), none⟩], []),
 ([⟨(some 17), .move (.t 1), none⟩], []),
 ([⟨(some 18), .faddr 1 (.t 7), none⟩], []),
 ([⟨(some 19), .load (some 9) (.t 18), none⟩], []),
 ([⟨(some 20), .callv (.t 17) [(.t 19)], none⟩], [⟨(some 15), .faddr 0 (.t 7), none⟩, ⟨(some 16), .load none (.t 15), none⟩]),
 ([⟨(some 21), .build [(.int .i64 0), (.int .i64 0), (.str ⟨#[]⟩), (.int .i64 0), (.int .i64 0), .nils, .nils, .nils, .nils, .nils] [(0, 1, (.t 16)), (1, 9, (.t 20))], none⟩], []),
 ([⟨(some 22), .lit true 36 10 [(.t 21)], none⟩], []),
 ([⟨(some 23), .append 36 10 168 (.t 14) (.t 22), none⟩], []),
 ([⟨(some 5), .move (.t 23), none⟩], [])])))
 (.reg [x6 24 10 1,
 mv 10 24])))))))
 (.seq
 (.reg [mv 25 5,
 mv 4 25])
 .ret))))
theorem ent38 : EntOK Tryz.prog 38 ⟨26, v38, [.slot 4]⟩ := fun args σ K ha h =>
 enter (own := List.range 26) Tryz.func38 (by kernel_rfl) (by kernel_rfl) (by kernel_rfl) ha h
def v39 : ACode :=
(.seq
 (.reg [y8 2 28 0,
 oo 3 (.new 28 (.c (.agg [(.int .i64 0), (.str ⟨#[]⟩), (.int .i64 0), (.int .i64 0), .nils, .nils, .nils, .nils, .nils])))])
 (.seq
 (.reg [x2 4 5 2,
 x1 5 4,
 x1 6 1,
 x8 7 9 5 6,
 x4 8 9 7,
 x3 9 3 8])
 .ret))
theorem ent39 : EntOK Tryz.prog 39 ⟨9, v39, [.cell 3 (some 9)]⟩ := fun args σ K ha h =>
 enter (own := List.range 9) Tryz.func39 (by kernel_rfl) (by kernel_rfl) (by kernel_rfl) ha h
def v43 : ACode :=
(.seq
 (.reg [oo 2 (.move (.c .nilp))])
 (.seq
 (.reg [mv 7 0,
 y5 8 58 7,
 mv 6 8,
 z9 9 6 0,
 z9 10 6 1,
 oo 4 (.new 66 q0),
 mv 3 9,
 x3 3 4 10])
 (.seq
 (.reg [x2 11 0 4,
 x1 12 11,
 oo 13 (.bin .int .neq (.t 12) (.c (.int .i64 0))),
 x4 14 3 4,
 oo 15 (.build [.nils, (.int .i64 0), (.bool false), (.int .i64 0), (.int .i64 0), (.int .i64 0)] [(2, 1, (.t 13)), (3, 3, (.t 14))]),
 y8 16 90 15,
 mv 5 16])
 (.seq
 (.seq
 (.reg [mv 17 5,
 y3 18 17,
 x2 19 2 18,
 x1 20 19,
 oo 21 (.not (.t 20))])
 (.cond (.t 21)
 (.reg [mv 22 5,
 mv 23 3,
 y5 24 59 23,
 y3 25 22,
 x2 26 0 25,
 x3 1 26 24])
 .skip))
 (.seq
 (.reg [mv 27 5,
 mv 2 27])
 .ret)))))
theorem ent43 : EntOK Tryz.prog 43 ⟨28, v43, [.slot 2]⟩ := fun args σ K ha h =>
 enter (own := List.range 28) Tryz.func43 (by kernel_rfl) (by kernel_rfl) (by kernel_rfl) ha h
def v44 : ACode :=
(.seq
 (.reg [x5 4 0])
 (.scope
 (.seq
 (.reg [mv 6 0,
 oo 7 (.call 47 [(.t 6), (.c (.str ⟨#[123]⟩))])])
 (.seq
 (.reg [x5 5 0])
 (.seq
 .skip
 (.seq
 (.block 0
 (.loop
 (.seq
 (.seq
 (.reg [mv 8 0,
 y3 9 8,
 x2 10 2 9,
 x1 11 10,
 oo 12 (.not (.t 11))])
 (.cond (.t 12)
 .skip
 (.exit 0)))
 (.block 1
 (.seq
 (.block 2
 (.seq
 (.reg [mv 14 0,
 oo 15 (.call 60 [(.t 14), (.c (.str ⟨#[125]⟩))]),
 mv 13 15])
 (.cond (.t 13)
 (.exit 0)
 (.seq
 (.reg [mv 17 0,
 oo 18 (.call 60 [(.t 17), (.c (.str ⟨#[59]⟩))]),
 mv 16 18])
 (.cond (.t 16)
 (.seq
 (.reg [mv 19 0,
 y5 20 61 19])
 (.exit 1))
 .skip)))))
 (.seq
 (.reg [mv 21 1,
 oo 22 (.callv (.t 21) [])])
 (.seq
 (.reg [mv 23 5,
 x6 24 23 1,
 mv 5 24])
 (.seq
 (.reg [mv 25 0,
 oo 26 (.call 60 [(.t 25), (.c (.str ⟨#[125]⟩))]),
 oo 27 (.not (.t 26)),
 mv 28 27,
 z6 29 28 0,
 og 30 28 true (.call 60 [(.t 29), (.c (.str ⟨#[59]⟩))]),
 og 31 28 true (.not (.t 30)),
 y7 32 28 31])
 (.cond (.t 32)
 (.reg [mv 33 0,
 oo 34 (.call 62 [(.t 33), (.c (.int .i64 60))])])
 .skip)))))))))
 (.seq
 (.reg [mv 35 5,
 mv 4 35])
 .ret)))))))
theorem ent44 : EntOK Tryz.prog 44 ⟨36, v44, [.slot 4]⟩ := fun args σ K ha h =>
 enter (own := List.range 36) Tryz.func44 (by kernel_rfl) (by kernel_rfl) (by kernel_rfl) ha h
def v45 : ACode :=
(.reg [x1 2 0,
 y2 3 46 2 1])
theorem ent45 : EntOK Tryz.prog 45 ⟨4, v45, []⟩ := fun args σ K ha h =>
 enter (own := List.range 4) Tryz.func45 (by kernel_rfl) (by kernel_rfl) (by kernel_rfl) ha h
def v46 : ACode :=
(.block 0
 (.seq
 (.reg [mv 16 0,
 oo 17 (.call 60 [(.t 16), (.c (.str ⟨#[100, 97, 116, 97]⟩))]),
 mv 15 17])
 (.cond (.t 15)
 (.seq
 (.reg [mv 18 0,
 y5 19 63 18,
 oo 4 (.new 113 (.c (.agg [(.str ⟨#[]⟩), .nils, .nils, (.int .i64 0), (.int .i64 0)]))),
 x3 5 4 19])
 (.draw [] [([⟨(some 20), .move (.t 1), none⟩], []),
 ([⟨(some 21), .move (.t 1), none⟩], []),
 ([⟨(some 22), .nilck (.t 21), none⟩], []),
 ([⟨(some 23), .faddr 0 (.t 22), none⟩], []),
 ([⟨(some 24), .load none (.t 23), none⟩], []),
 ([⟨(some 25), .load (some 5) (.t 4), none⟩], []),
 ([⟨(some 26), .lit true 113 5 [(.t 25)], none⟩], [⟨(some 23), .faddr 0 (.t 22), none⟩, ⟨(some 24), .load none (.t 23), none⟩]),
 ([⟨(some 27), .append 113 5 80 (.t 24) (.t 26), none⟩], []),
 ([⟨(some 28), .nilck (.t 20), none⟩], []),
 ([⟨(some 29), .faddr 0 (.t 28), none⟩], []),
 ([x3 1 29 27], [])]))
 (.seq
 (.seq
 (.reg [mv 31 0,
 oo 32 (.call 60 [(.t 31), (.c (.str ⟨#[105, 110, 102, 105, 120, 108]⟩))]),
 mv 30 32])
 (.cond (.t 30)
 .skip
 (.seq
 (.reg [mv 33 0,
 oo 34 (.call 60 [(.t 33), (.c (.str ⟨#[105, 110, 102, 105, 120, 114]⟩))]),
 mv 30 34])
 (.cond (.t 30)
 .skip
 (.reg [mv 35 0,
 oo 36 (.call 60 [(.t 35), (.c (.str ⟨#[105, 110, 102, 105, 120]⟩))]),
 mv 30 36])))))
 (.cond (.t 30)
 (.seq
 (.reg [mv 37 0,
 y5 38 64 37,
 oo 5 (.new 116 (.c (.agg [(.str ⟨#[]⟩), (.int .i64 0), (.int .i64 0), (.int .i64 0), (.int .i64 0)]))),
 x3 5 5 38])
 (.draw [] [([⟨(some 39), .move (.t 1), none⟩], []),
 ([⟨(some 40), .move (.t 1), none⟩], []),
 ([⟨(some 41), .nilck (.t 40), none⟩], []),
 ([⟨(some 42), .faddr 1 (.t 41), none⟩], []),
 ([⟨(some 43), .load none (.t 42), none⟩], []),
 ([⟨(some 44), .load (some 5) (.t 5), none⟩], []),
 ([⟨(some 45), .lit true 116 5 [(.t 44)], none⟩], [⟨(some 42), .faddr 1 (.t 41), none⟩, ⟨(some 43), .load none (.t 42), none⟩]),
 ([⟨(some 46), .append 116 5 48 (.t 43) (.t 45), none⟩], []),
 ([⟨(some 47), .nilck (.t 39), none⟩], []),
 ([⟨(some 48), .faddr 1 (.t 47), none⟩], []),
 ([x3 1 48 46], [])]))
 (.reg [mv 6 1,
 mv 7 0,
 mv 8 1,
 y3 9 8,
 x2 10 2 9,
 x1 11 10,
 y2 12 65 7 11,
 y3 13 6,
 x2 14 2 13,
 x3 1 14 12]))))))
theorem ent46 : EntOK Tryz.prog 46 ⟨49, v46, []⟩ := fun args σ K ha h =>
 enter (own := List.range 49) Tryz.func46 (by kernel_rfl) (by kernel_rfl) (by kernel_rfl) ha h
def v47 : ACode :=
(.seq
 (.reg [oo 4 (.new 83 (.c (.agg [(.int .i64 0), (.str ⟨#[]⟩), (.int .i64 0), (.int .i64 0), (.int .i64 0), (.bool false)])))])
 (.seq
 (.seq
 (.reg [mv 5 0,
 mv 6 1,
 y2 7 60 5 6,
 oo 8 (.not (.t 7))])
 (.cond (.t 8)
 (.reg [mv 9 0,
 oo 10 (.call 62 [(.t 9), (.c (.int .i64 60))])])
 .skip))
 (.seq
 (.reg [mv 11 0,
 y5 12 61 11,
 x3 6 4 12])
 .ret)))
theorem ent47 : EntOK Tryz.prog 47 ⟨13, v47, [.cell 4 (some 6)]⟩ := fun args σ K ha h =>
 enter (own := List.range 13) Tryz.func47 (by kernel_rfl) (by kernel_rfl) (by kernel_rfl) ha h
def v48 : ACode :=
(.seq
 (.reg [mv 2 0,
 y3 3 2,
 x2 4 2 3,
 x1 5 4,
 oo 6 (.not (.t 5)),
 mv 7 6,
 z6 8 7 0,
 og 9 7 true (.nilck (.t 8)),
 z2 10 7 1 9,
 z4 11 7 10,
 z6 12 7 0,
 og 13 7 true (.nilck (.t 12)),
 z2 14 7 0 13,
 z4 15 7 14,
 og 16 7 true (.len .slice (.t 15)),
 og 17 7 true (.bin .int .lss (.t 11) (.t 16)),
 y7 18 7 17])
 (.cond (.t 18)
 (.reg [mv 19 0,
 oo 20 (.call 62 [(.t 19), (.c (.int .i64 60))])])
 .skip))
theorem ent48 : EntOK Tryz.prog 48 ⟨21, v48, []⟩ := fun args σ K ha h =>
 enter (own := List.range 21) Tryz.func48 (by kernel_rfl) (by kernel_rfl) (by kernel_rfl) ha h
def v49 : ACode :=
(.seq
 (.reg [y9 4])
 (.seq
 (.reg [y9 5])
 (.seq
 (.seq
 (.reg [mv 11 1,
 y1 12 11,
 x5 13 0])
 (.block 0
 (.loop
 (.seq
 (.reg [x9 14 13 12])
 (.seq
 (.cond (.t 14)
 .skip
 (.exit 0))
 (.seq
 (.block 1
 (.seq
 (.reg [x8 15 4 11 13,
 x4 16 4 15,
 oo 7 (.new 120 (.c (.agg [(.str ⟨#[]⟩), .nils, (.int .i64 0), (.int .i64 0)]))),
 x3 4 7 16])
 (.seq
 (.reg [y9 8])
 (.seq
 (.seq
 (.reg [x2 17 1 7,
 x1 18 17,
 y1 19 18,
 x5 20 0])
 (.block 2
 (.loop
 (.seq
 (.reg [x9 21 20 19])
 (.seq
 (.cond (.t 21)
 .skip
 (.exit 2))
 (.seq
 (.block 3
 (.seq
 (.reg [x8 22 2 18 20,
 x4 23 2 22,
 oo 10 (.new 124 q3),
 x3 2 10 23])
 (.seq
 (.reg [mv 24 0,
 x2 25 1 10,
 x1 26 25,
 y2 27 66 24 26,
 x2 28 1 10,
 x3 1 28 27])
 (.reg [mv 29 8,
 x4 30 2 10,
 z8 31 124 2 30,
 z7 32 124 2 48 29 31,
 mv 8 32]))))
 (.reg [x6 33 20 1,
 mv 20 33])))))))
 (.seq
 (.reg [mv 34 8,
 x2 35 1 7,
 x3 1 35 34])
 (.reg [mv 36 5,
 x4 37 4 7,
 z8 38 120 4 37,
 z7 39 120 4 56 36 38,
 mv 5 39]))))))
 (.reg [x6 40 13 1,
 mv 13 40])))))))
 (.seq
 (.reg [mv 41 5,
 mv 4 41])
 .ret))))
theorem ent49 : EntOK Tryz.prog 49 ⟨42, v49, [.slot 4]⟩ := fun args σ K ha h =>
 enter (own := List.range 42) Tryz.func49 (by kernel_rfl) (by kernel_rfl) (by kernel_rfl) ha h
def v50 : ACode :=
(.seq
 (.reg [y8 1 49 0,
 y9 2,
 oo 3 (.new 66 q0)])
 (.seq
 (.reg [x4 13 3 1,
 y5 14 67 13,
 mv 12 14,
 z9 15 12 0,
 z9 16 12 1,
 oo 4 (.new 128 q5),
 oo 5 (.new 66 q0),
 x3 1 4 15,
 x3 3 5 16])
 (.seq
 (.seq
 (.reg [x2 17 0 5,
 x1 18 17,
 oo 19 (.bin .int .neq (.t 18) (.c (.int .i64 0)))])
 (.cond (.t 19)
 (.seq
 (.reg [x4 20 3 5,
 y9 2,
 x3 3 3 20])
 .ret)
 .skip))
 (.seq
 (.reg [x2 21 2 1,
 x1 22 21,
 y1 23 22,
 oo 24 (.mkslice 141 5 80 [.nils, (.int .i64 0), (.int .i64 0), (.str ⟨#[]⟩), .nils] (.t 23) (.t 23)),
 mv 6 24])
 (.seq
 (.seq
 (.reg [x2 25 0 4,
 x1 26 25,
 y1 27 26,
 x5 28 0])
 (.block 0
 (.loop
 (.seq
 (.reg [x9 29 28 27])
 (.seq
 (.cond (.t 29)
 .skip
 (.exit 0))
 (.seq
 (.block 1
 (.seq
 (.reg [x8 30 4 26 28,
 x4 31 4 30,
 oo 8 (.new 135 q4),
 x3 4 8 31])
 (.seq
 (.reg [x2 32 0 8,
 x1 33 32,
 y1 34 33,
 x5 35 0])
 (.block 2
 (.loop
 (.seq
 (.reg [x9 36 35 34])
 (.seq
 (.cond (.t 36)
 .skip
 (.exit 2))
 (.seq
 (.block 3
 (.seq
 (.reg [mv 37 35,
 x8 38 1 33 35,
 x1 39 38,
 mv 9 37,
 mv 10 39])
 (.seq
 (.reg [x2 40 2 8,
 x1 41 40,
 mv 42 9,
 x8 43 4 41 42,
 x4 44 4 43,
 y5 45 68 44,
 oo 11 (.new 137 (.c (.agg [(.int .i64 0), (.int .i64 0), (.str ⟨#[]⟩), .nils]))),
 x3 4 11 45])
 (.draw [] [([⟨(some 46), .move (.t 6), none⟩], []),
 ([⟨(some 47), .move (.t 10), none⟩], []),
 ([⟨(some 48), .load (some 4) (.t 11), none⟩], []),
 ([⟨(some 50), .load (some 4) (.t 11), none⟩], []),
 ([⟨(some 49), .call 69 [(.t 48)], none⟩], [⟨(some 50), .load (some 4) (.t 11), none⟩]),
 ([⟨(some 51), .build [.nils, (.int .i64 0), (.int .i64 0), (.str ⟨#[]⟩), .nils] [(0, 1, (.t 49)), (1, 4, (.t 50))], none⟩], []),
 ([⟨(some 52), .iaddr 5 (.t 46) (.t 47), none⟩], []),
 ([x3 5 52 51], [])]))))
 (.reg [x6 53 35 1,
 mv 35 53])))))))))
 (.reg [x6 54 28 1,
 mv 28 54])))))))
 (.seq
 (.reg [mv 55 6,
 oo 56 (.build [(.int .i64 0), (.int .i64 0), (.int .i64 0)] []),
 mv 2 55,
 x3 3 3 56])
 .ret))))))
theorem ent50 : EntOK Tryz.prog 50 ⟨57, v50, [.slot 2, .cell 3 (some 3)]⟩ := fun args σ K ha h =>
 enter (own := List.range 57) Tryz.func50 (by kernel_rfl) (by kernel_rfl) (by kernel_rfl) ha h
def v51 : ACode :=
(.seq
 (.reg [y8 1 49 0,
 oo 2 (.move (.c (.str ⟨#[]⟩)))])
 (.seq
 (.seq
 (.reg [x4 8 3 1,
 y5 9 70 8,
 oo 10 (.not (.t 9))])
 (.cond (.t 10)
 (.seq
 (.reg [oo 2 (.move (.c (.str ⟨#[]⟩)))])
 .ret)
 .skip))
 (.seq
 (.reg [oo 11 (.build [.nilp, .nils] []),
 y8 12 149 11,
 mv 3 12])
 (.seq
 (.seq
 (.reg [x2 13 0 1,
 x1 14 13,
 y1 15 14,
 x5 16 0])
 (.block 0
 (.loop
 (.seq
 (.reg [x9 17 16 15])
 (.seq
 (.cond (.t 17)
 .skip
 (.exit 0))
 (.seq
 (.block 1
 (.seq
 (.reg [x8 18 5 14 16,
 x4 19 5 18,
 oo 5 (.new 113 (.c (.agg [(.str ⟨#[]⟩), .nils, .nils, (.int .i64 0), (.int .i64 0)]))),
 x3 5 5 19])
 (.reg [mv 20 3,
 x4 21 5 5,
 y2 22 71 20 21])))
 (.reg [x6 23 16 1,
 mv 16 23])))))))
 (.seq
 (.seq
 (.reg [x2 24 1 1,
 x1 25 24,
 y1 26 25,
 x5 27 0])
 (.block 2
 (.loop
 (.seq
 (.reg [x9 28 27 26])
 (.seq
 (.cond (.t 28)
 .skip
 (.exit 2))
 (.seq
 (.block 3
 (.seq
 (.reg [x8 29 5 25 27,
 x4 30 5 29,
 oo 7 (.new 116 (.c (.agg [(.str ⟨#[]⟩), (.int .i64 0), (.int .i64 0), (.int .i64 0), (.int .i64 0)]))),
 x3 5 7 30])
 (.reg [mv 31 3,
 x4 32 5 7,
 y2 33 72 31 32])))
 (.reg [x6 34 27 1,
 mv 27 34])))))))
 (.seq
 (.reg [mv 35 3,
 x2 36 2 1,
 x1 37 36,
 oo 38 (.call 73 [(.t 35), (.t 37), (.c (.str ⟨#[]⟩)), (.c (.str ⟨#[10]⟩))])])
 (.seq
 (.reg [mv 39 3,
 y3 40 39,
 x2 41 0 40,
 y5 42 74 41,
 mv 2 42])
 .ret)))))))
theorem ent51 : EntOK Tryz.prog 51 ⟨43, v51, [.slot 2]⟩ := fun args σ K ha h =>
 enter (own := List.range 43) Tryz.func51 (by kernel_rfl) (by kernel_rfl) (by kernel_rfl) ha h
def v52 : ACode :=
(.seq
 (.reg [y8 1 49 0,
 y9 2])
 (.seq
 (.reg [oo 3 (.new 50 (.c .nils))])
 (.seq
 (.seq
 (.reg [x4 7 3 1,
 y5 8 67 7,
 mv 6 8,
 z9 9 6 0,
 z9 10 6 1,
 oo 4 (.new 128 q5),
 oo 5 (.new 66 q0),
 x3 1 4 9,
 x3 3 5 10])
 (.seq
 (.reg [x2 11 0 5,
 x1 12 11,
 oo 13 (.bin .int .neq (.t 12) (.c (.int .i64 0)))])
 (.cond (.t 13)
 (.seq
 (.reg [x1 14 3,
 mv 2 14])
 .ret)
 .skip)))
 (.seq
 (.reg [x4 15 3 1,
 oo 16 (.mkfn (.func 76) [] [(.t 3)]),
 y2 17 75 15 16])
 (.seq
 (.reg [x1 18 3,
 mv 2 18])
 .ret)))))
theorem ent52 : EntOK Tryz.prog 52 ⟨19, v52, [.slot 2]⟩ := fun args σ K ha h =>
 enter (own := List.range 19) Tryz.func52 (by kernel_rfl) (by kernel_rfl) (by kernel_rfl) ha h
def v53 : ACode :=
(.seq
 (.reg [y6 4])
 (.seq
 (.seq
 (.reg [mv 6 0,
 y1 7 6,
 mv 8 1,
 y1 9 8,
 oo 10 (.bin .int .neq (.t 7) (.t 9))])
 (.cond (.t 10)
 (.seq
 (.reg [y6 4])
 .ret)
 .skip))
 (.seq
 (.seq
 (.reg [mv 11 0,
 y1 12 11,
 x5 13 0])
 (.block 0
 (.loop
 (.seq
 (.reg [x9 14 13 12])
 (.seq
 (.cond (.t 14)
 .skip
 (.exit 0))
 (.seq
 (.block 1
 (.seq
 (.reg [mv 15 13,
 mv 5 15])
 (.seq
 (.reg [mv 16 0,
 mv 17 5,
 x8 18 5 16 17,
 x2 19 0 18,
 x1 20 19,
 y1 21 20,
 mv 22 1,
 mv 23 5,
 x8 24 5 22 23,
 x2 25 0 24,
 x1 26 25,
 y1 27 26,
 oo 28 (.bin .int .neq (.t 21) (.t 27)),
 mv 29 28,
 z5 30 29 0,
 z5 31 29 5,
 og 32 29 false (.iaddr 5 (.t 30) (.t 31)),
 z1 33 29 1 32,
 og 34 29 false (.load (some 4) (.t 33)),
 z5 35 29 1,
 z5 36 29 5,
 og 37 29 false (.iaddr 5 (.t 35) (.t 36)),
 z1 38 29 1 37,
 og 39 29 false (.load (some 4) (.t 38)),
 og 40 29 false (.call 77 [(.t 34), (.t 39)]),
 og 41 29 false (.not (.t 40)),
 y4 42 29 41])
 (.cond (.t 42)
 (.seq
 (.reg [y6 4])
 .ret)
 .skip))))
 (.reg [x6 43 13 1,
 mv 13 43])))))))
 (.seq
 (.reg [oo 4 (.move (.c (.bool true)))])
 .ret))))
theorem ent53 : EntOK Tryz.prog 53 ⟨44, v53, [.slot 4]⟩ := fun args σ K ha h =>
 enter (own := List.range 44) Tryz.func53 (by kernel_rfl) (by kernel_rfl) (by kernel_rfl) ha h
def v54 : ACode :=
(.seq
 (.reg [y8 1 49 0,
 y9 2,
 oo 3 (.new 66 q0)])
 (.seq
 (.seq
 (.reg [x4 13 3 1,
 y5 14 67 13,
 mv 12 14,
 z9 15 12 0,
 z9 16 12 1,
 oo 4 (.new 128 q5),
 oo 5 (.new 66 q0),
 x3 1 4 15,
 x3 3 5 16])
 (.seq
 (.reg [x2 17 0 5,
 x1 18 17,
 oo 19 (.bin .int .neq (.t 18) (.c (.int .i64 0)))])
 (.cond (.t 19)
 (.seq
 (.reg [x4 20 3 5,
 y9 2,
 x3 3 3 20])
 .ret)
 .skip)))
 (.seq
 (.reg [x2 22 0 1,
 x1 23 22,
 y5 24 78 23,
 mv 21 24,
 z9 25 21 0,
 z9 26 21 1,
 oo 7 (.new 66 q0),
 mv 6 25,
 x3 3 7 26])
 (.seq
 (.reg [mv 27 6,
 oo 28 (.build [.nilp] [(0, 1, (.t 27))]),
 y8 29 162 28,
 mv 8 29])
 (.seq
 (.reg [y9 9])
 (.seq
 (.seq
 (.reg [x2 30 2 1,
 x1 31 30,
 y1 32 31,
 x5 33 0])
 (.block 0
 (.loop
 (.seq
 (.reg [x9 34 33 32])
 (.seq
 (.cond (.t 34)
 .skip
 (.exit 0))
 (.seq
 (.block 1
 (.seq
 (.reg [x8 35 4 31 33,
 x4 36 4 35,
 oo 11 (.new 120 (.c (.agg [(.str ⟨#[]⟩), .nils, (.int .i64 0), (.int .i64 0)]))),
 x3 4 11 36])
 (.draw [] [([⟨(some 37), .move (.t 9), none⟩], []),
 ([⟨(some 38), .faddr 0 (.t 11), none⟩], []),
 ([⟨(some 39), .load none (.t 38), none⟩], []),
 ([⟨(some 40), .move (.t 8), none⟩], []),
 ([⟨(some 41), .load (some 4) (.t 11), none⟩], []),
 ([⟨(some 42), .call 79 [(.t 40), (.t 41), (.c .nils), (.c (.int .i64 0))], none⟩], [⟨(some 38), .faddr 0 (.t 11), none⟩, ⟨(some 39), .load none (.t 38), none⟩]),
 ([⟨(some 43), .build [(.str ⟨#[]⟩), (.int .i64 0), (.str ⟨#[]⟩), (.int .i64 0), (.int .i64 0), .nils, .nils, .nils, .nils, .nils] [(0, 1, (.t 39)), (1, 9, (.t 42))], none⟩], []),
 ([⟨(some 44), .lit true 39 10 [(.t 43)], none⟩], []),
 ([⟨(some 45), .append 39 10 176 (.t 37) (.t 44), none⟩], []),
 ([⟨(some 9), .move (.t 45), none⟩], [])])))
 (.reg [x6 46 33 1,
 mv 33 46])))))))
 (.seq
 (.reg [mv 47 9,
 oo 48 (.build [(.int .i64 0), (.int .i64 0), (.int .i64 0)] []),
 mv 2 47,
 x3 3 3 48])
 .ret)))))))
theorem ent54 : EntOK Tryz.prog 54 ⟨49, v54, [.slot 2, .cell 3 (some 3)]⟩ := fun args σ K ha h =>
 enter (own := List.range 49) Tryz.func54 (by kernel_rfl) (by kernel_rfl) (by kernel_rfl) ha h
def v55 : ACode :=
(.seq
 (.reg [y6 4])
 (.seq
 (.reg [mv 5 0,
 mv 6 1,
 oo 7 (.call 80 [(.t 5), (.t 6), (.c (.fn (.func 81) [] []))]),
 mv 4 7])
 .ret))
theorem ent55 : EntOK Tryz.prog 55 ⟨8, v55, [.slot 4]⟩ := fun args σ K ha h =>
 enter (own := List.range 8) Tryz.func55 (by kernel_rfl) (by kernel_rfl) (by kernel_rfl) ha h
def v56 : ACode :=
(.seq
 (.reg [y6 4])
 (.seq
 (.seq
 (.reg [mv 6 0,
 y1 7 6,
 mv 8 1,
 y1 9 8,
 oo 10 (.bin .int .neq (.t 7) (.t 9))])
 (.cond (.t 10)
 (.seq
 (.reg [y6 4])
 .ret)
 .skip))
 (.seq
 (.seq
 (.reg [mv 11 0,
 y1 12 11,
 x5 13 0])
 (.block 0
 (.loop
 (.seq
 (.reg [x9 14 13 12])
 (.seq
 (.cond (.t 14)
 .skip
 (.exit 0))
 (.seq
 (.block 1
 (.seq
 (.reg [mv 15 13,
 mv 5 15])
 (.seq
 (.reg [mv 16 0,
 mv 17 5,
 x8 18 1 16 17,
 x1 19 18,
 mv 20 1,
 mv 21 5,
 x8 22 1 20 21,
 x1 23 22,
 oo 24 (.bin .str .neq (.t 19) (.t 23))])
 (.cond (.t 24)
 (.seq
 (.reg [y6 4])
 .ret)
 .skip))))
 (.reg [x6 25 13 1,
 mv 13 25])))))))
 (.seq
 (.reg [oo 4 (.move (.c (.bool true)))])
 .ret))))
theorem ent56 : EntOK Tryz.prog 56 ⟨26, v56, [.slot 4]⟩ := fun args σ K ha h =>
 enter (own := List.range 26) Tryz.func56 (by kernel_rfl) (by kernel_rfl) (by kernel_rfl) ha h
def v58 : ACode :=
(.seq
 (.reg [y9 2,
 oo 3 (.new 66 q0)])
 (.seq
 (.reg [oo 10 (.build [(.int .i64 0), (.int .i64 0)] [(0, 1, (.c (.int .i64 1))), (1, 1, (.c (.int .i64 1)))]),
 oo 4 (.new 64 q2),
 x3 2 4 10])
 (.seq
 (.seq
 (.reg [mv 11 0,
 oo 12 (.len .str (.t 11)),
 oo 13 (.bin .int .gtr (.t 12) (.c (.int .i64 8192)))])
 (.cond (.t 13)
 (.seq
 (.reg [x4 14 2 4,
 oo 15 (.build [(.int .i64 0), (.int .i64 0), (.int .i64 0)] [(0, 1, (.c (.int .i64 2))), (1, 2, (.t 14))]),
 y9 2,
 x3 3 3 15])
 .ret)
 .skip))
 (.seq
 (.reg [mv 16 0,
 x4 17 2 4,
 oo 18 (.build [(.str ⟨#[]⟩), (.int .i64 0), (.int .i64 0), (.int .i64 0)] [(0, 1, (.t 16)), (2, 2, (.t 17))]),
 y8 19 168 18,
 mv 5 19])
 (.seq
 (.reg [y9 6])
 (.seq
 (.block 0
 (.loop
 (.seq
 (.seq
 (.reg [mv 20 5,
 y5 21 82 20])
 (.cond (.t 21)
 .skip
 (.exit 0)))
 (.block 1
 (.seq
 (.reg [mv 22 5,
 y3 23 22,
 x2 24 2 23,
 x4 25 2 24,
 oo 7 (.new 64 q2),
 x3 2 7 25])
 (.seq
 (.reg [mv 27 5,
 y5 28 83 27,
 mv 26 28,
 z9 29 26 0,
 z9 30 26 1,
 oo 8 (.new 83 (.c (.agg [(.int .i64 0), (.str ⟨#[]⟩), (.int .i64 0), (.int .i64 0), (.int .i64 0), (.bool false)]))),
 x3 6 8 29,
 mv 9 30])
 (.seq
 (.seq
 (.reg [mv 31 9,
 x7 32 31 0,
 mv 33 32,
 z6 34 33 6,
 og 35 33 true (.len .slice (.t 34)),
 og 36 33 true (.bin .int .geq (.t 35) (.c (.int .i64 2048))),
 y7 37 33 36])
 (.cond (.t 37)
 (.reg [x5 9 2])
 .skip))
 (.seq
 (.seq
 (.reg [mv 38 9,
 oo 39 (.bin .int .neq (.t 38) (.c (.int .i64 0)))])
 (.cond (.t 39)
 (.seq
 (.reg [mv 40 9,
 x4 41 2 7,
 oo 42 (.build [(.int .i64 0), (.int .i64 0), (.int .i64 0)] [(0, 1, (.t 40)), (1, 2, (.t 41))]),
 y9 2,
 x3 3 3 42])
 .ret)
 .skip))
 (.reg [mv 43 6,
 x4 44 6 8,
 z8 45 83 6 44,
 z7 46 83 6 56 43 45,
 mv 6 46])))))))))
 (.seq
 (.reg [mv 47 6,
 oo 48 (.build [(.int .i64 0), (.int .i64 0), (.int .i64 0)] []),
 mv 2 47,
 x3 3 3 48])
 .ret)))))))
theorem ent58 : EntOK Tryz.prog 58 ⟨49, v58, [.slot 2, .cell 3 (some 3)]⟩ := fun args σ K ha h =>
 enter (own := List.range 49) Tryz.func58 (by kernel_rfl) (by kernel_rfl) (by kernel_rfl) ha h
def v59 : ACode :=
(.seq
 (.reg [y9 2])
 (.seq
 (.reg [oo 9 (.build [(.int .i64 0), (.int .i64 0)] [(0, 1, (.c (.int .i64 1))), (1, 1, (.c (.int .i64 1)))]),
 oo 10 (.build [.nils, .nils, (.bool false), (.int .i64 0), (.int .i64 0)] [(2, 1, (.c (.bool true))), (3, 2, (.t 9))]),
 y8 11 174 10,
 mv 3 11])
 (.seq
 (.reg [x5 4 0])
 (.seq
 (.seq
 (.reg [mv 12 0,
 y1 13 12,
 x5 14 0])
 (.block 0
 (.loop
 (.seq
 (.reg [x9 15 14 13])
 (.seq
 (.cond (.t 15)
 .skip
 (.exit 0))
 (.seq
 (.block 1
 (.seq
 (.reg [mv 16 14,
 x8 17 6 12 14,
 x4 18 6 17,
 oo 6 (.new 83 (.c (.agg [(.int .i64 0), (.str ⟨#[]⟩), (.int .i64 0), (.int .i64 0), (.int .i64 0), (.bool false)]))),
 mv 5 16,
 x3 6 6 18])
 (.seq
 (.reg [mv 19 3,
 x2 20 3 6,
 x4 21 2 20,
 y3 22 19,
 x2 23 3 22,
 x3 2 23 21])
 (.seq
 (.reg [mv 24 5,
 x7 25 24 0,
 mv 26 25,
 z1 27 26 3 6,
 z1 28 26 0 27,
 z3 29 26 28,
 z5 30 26 4,
 og 31 26 false (.bin .int .neq (.t 29) (.t 30)),
 y4 32 26 31,
 mv 7 32])
 (.seq
 (.reg [x2 33 3 6,
 x2 34 0 33,
 x1 35 34,
 mv 4 35])
 (.seq
 (.seq
 (.reg [mv 36 3,
 y3 37 36,
 x2 38 2 37,
 x1 39 38,
 mv 40 39,
 z6 41 40 3,
 og 42 40 true (.load (some 6) (.t 6)),
 og 43 40 true (.call 84 [(.t 41), (.t 42)]),
 y7 44 40 43])
 (.cond (.t 44)
 (.reg [y6 7])
 .skip))
 (.seq
 (.seq
 (.reg [mv 45 7])
 (.cond (.t 45)
 (.reg [mv 46 3,
 x4 47 6 6,
 y2 48 85 46 47])
 .skip))
 (.seq
 (.reg [mv 49 3,
 x4 50 6 6,
 y2 51 86 49 50])
 (.seq
 (.draw [] [([⟨(some 52), .move (.t 3), none⟩], []),
 ([⟨(some 53), .move (.t 3), none⟩], []),
 ([⟨(some 54), .nilck (.t 53), none⟩], []),
 ([⟨(some 55), .faddr 0 (.t 54), none⟩], []),
 ([⟨(some 56), .load none (.t 55), none⟩], []),
 ([⟨(some 57), .load (some 6) (.t 6), none⟩], []),
 ([⟨(some 58), .lit true 83 6 [(.t 57)], none⟩], [⟨(some 55), .faddr 0 (.t 54), none⟩, ⟨(some 56), .load none (.t 55), none⟩]),
 ([⟨(some 59), .append 83 6 56 (.t 56) (.t 58), none⟩], []),
 ([⟨(some 60), .nilck (.t 52), none⟩], []),
 ([⟨(some 61), .faddr 0 (.t 60), none⟩], []),
 ([x3 1 61 59], [])])
 (.reg [mv 62 3,
 x4 63 6 6,
 y2 64 87 62 63]))))))))))
 (.reg [x6 65 14 1,
 mv 14 65])))))))
 (.seq
 (.seq
 (.reg [mv 66 3,
 y3 67 66,
 x2 68 2 67,
 x1 69 68])
 (.cond (.t 69)
 (.seq
 (.reg [mv 70 3,
 oo 71 (.call 88 [(.t 70), (.c (.str ⟨#[123]⟩))])])
 (.reg [mv 72 3,
 oo 73 (.call 88 [(.t 72), (.c (.str ⟨#[125]⟩))])]))
 .skip))
 (.seq
 (.seq
 (.reg [mv 74 3,
 y3 75 74,
 x2 76 1 75,
 x1 77 76,
 y1 78 77,
 oo 79 (.bin .int .sub (.t 78) (.c (.int .i64 1))),
 mv 8 79])
 (.block 2
 (.loop
 (.seq
 (.seq
 (.reg [mv 80 8,
 oo 81 (.bin .int .geq (.t 80) (.c (.int .i64 0)))])
 (.cond (.t 81)
 .skip
 (.exit 2)))
 (.seq
 (.block 3
 (.seq
 (.reg [mv 84 3,
 y3 85 84,
 x2 86 1 85,
 x1 87 86,
 mv 88 8,
 x8 89 2 87 88,
 x2 90 0 89,
 x1 91 90,
 x7 92 91 0])
 (.cond (.t 92)
 (.reg [mv 93 3,
 oo 94 (.call 88 [(.t 93), (.c (.str ⟨#[125]⟩))])])
 .skip)))
 (.reg [mv 82 8,
 oo 83 (.bin .int .sub (.t 82) (.c (.int .i64 1))),
 mv 8 83]))))))
 (.seq
 (.reg [mv 95 3,
 y3 96 95,
 x2 97 0 96,
 x1 98 97,
 mv 2 98])
 .ret)))))))
theorem ent59 : EntOK Tryz.prog 59 ⟨99, v59, [.slot 2]⟩ := fun args σ K ha h =>
 enter (own := List.range 99) Tryz.func59 (by kernel_rfl) (by kernel_rfl) (by kernel_rfl) ha h
def v60 : ACode :=
(.seq
 (.reg [y6 4])
 (.seq
 (.reg [mv 6 0,
 y5 7 89 6,
 oo 5 (.new 83 (.c (.agg [(.int .i64 0), (.str ⟨#[]⟩), (.int .i64 0), (.int .i64 0), (.int .i64 0), (.bool false)]))),
 x3 6 5 7])
 (.seq
 (.reg [x2 8 0 5,
 x1 9 8,
 x7 10 9 5,
 mv 11 10,
 z1 12 11 0 5,
 z3 13 11 12,
 og 14 11 false (.bin .int .eql (.t 13) (.c (.int .i64 6))),
 y4 15 11 14,
 mv 16 15,
 z2 17 16 1 5,
 z4 18 16 17,
 z6 19 16 1,
 og 20 16 true (.bin .str .eql (.t 18) (.t 19)),
 y7 21 16 20,
 mv 4 21])
 .ret)))
theorem ent60 : EntOK Tryz.prog 60 ⟨22, v60, [.slot 4]⟩ := fun args σ K ha h =>
 enter (own := List.range 22) Tryz.func60 (by kernel_rfl) (by kernel_rfl) (by kernel_rfl) ha h
def v61 : ACode :=
(.seq
 (.reg [oo 2 (.new 83 (.c (.agg [(.int .i64 0), (.str ⟨#[]⟩), (.int .i64 0), (.int .i64 0), (.int .i64 0), (.bool false)])))])
 (.seq
 (.reg [mv 4 0,
 y5 5 89 4,
 oo 3 (.new 83 (.c (.agg [(.int .i64 0), (.str ⟨#[]⟩), (.int .i64 0), (.int .i64 0), (.int .i64 0), (.bool false)]))),
 x3 6 3 5])
 (.seq
 (.seq
 (.reg [mv 6 0,
 y3 7 6,
 x2 8 2 7,
 x1 9 8,
 oo 10 (.not (.t 9)),
 mv 11 10,
 z6 12 11 0,
 og 13 11 true (.nilck (.t 12)),
 z2 14 11 1 13,
 z4 15 11 14,
 z6 16 11 0,
 og 17 11 true (.nilck (.t 16)),
 z2 18 11 0 17,
 z4 19 11 18,
 og 20 11 true (.len .slice (.t 19)),
 og 21 11 true (.bin .int .lss (.t 15) (.t 20)),
 y7 22 11 21])
 (.cond (.t 22)
 (.reg [mv 23 0,
 y3 24 23,
 x2 25 1 24,
 x1 26 25,
 x6 27 26 1,
 y3 28 23,
 x2 29 1 28,
 x3 1 29 27])
 .skip))
 (.seq
 (.reg [x4 30 6 3,
 x3 6 2 30])
 .ret))))
theorem ent61 : EntOK Tryz.prog 61 ⟨31, v61, [.cell 2 (some 6)]⟩ := fun args σ K ha h =>
 enter (own := List.range 31) Tryz.func61 (by kernel_rfl) (by kernel_rfl) (by kernel_rfl) ha h
def v65 : ACode :=
(.seq
 (.reg [y9 4])
 (.seq
 (.reg [oo 8 (.build [(.int .i64 0), (.str ⟨#[]⟩), (.int .i64 0), (.int .i64 0), (.int .i64 0), (.bool false)] []),
 oo 5 (.new 83 (.c (.agg [(.int .i64 0), (.str ⟨#[]⟩), (.int .i64 0), (.int .i64 0), (.int .i64 0), (.bool false)]))),
 x3 6 5 8])
 (.seq
 (.seq
 (.reg [mv 9 0,
 oo 10 (.call 60 [(.t 9), (.c (.str ⟨#[40]⟩))])])
 (.cond (.t 10)
 (.seq
 (.reg [mv 11 0,
 y5 12 61 11])
 (.seq
 (.reg [mv 13 0,
 oo 14 (.call 90 [(.t 13), (.c (.int .i64 3))]),
 x3 6 5 14])
 (.reg [mv 15 0,
 oo 16 (.call 47 [(.t 15), (.c (.str ⟨#[41]⟩))])])))
 (.reg [mv 17 0,
 oo 18 (.call 90 [(.t 17), (.c (.int .i64 1))]),
 x3 6 5 18])))
 (.seq
 (.reg [oo 19 (.build [.nils, .nils] []),
 oo 6 (.new 124 q3),
 x3 2 6 19])
 (.seq
 (.block 0
 (.loop
 (.seq
 (.seq
 (.reg [mv 20 0,
 y5 21 93 20])
 (.cond (.t 21)
 .skip
 (.exit 0)))
 (.block 1
 (.draw [] [([⟨(some 22), .faddr 0 (.t 6), none⟩], []),
 ([⟨(some 23), .load none (.t 22), none⟩], []),
 ([⟨(some 24), .move (.t 0), none⟩], []),
 ([⟨(some 25), .call 94 [(.t 24)], none⟩], [⟨(some 22), .faddr 0 (.t 6), none⟩, ⟨(some 23), .load none (.t 22), none⟩]),
 ([⟨(some 26), .lit true 187 6 [(.t 25)], none⟩], [⟨(some 22), .faddr 0 (.t 6), none⟩, ⟨(some 23), .load none (.t 22), none⟩]),
 ([⟨(some 27), .append 187 6 72 (.t 23) (.t 26), none⟩], []),
 ([⟨(some 28), .faddr 0 (.t 6), none⟩], []),
 ([x3 1 28 27], [])])))))
 (.seq
 (.reg [mv 29 0,
 oo 30 (.call 95 [(.t 29), (.c (.str ⟨#[61]⟩))]),
 x2 31 1 6,
 x3 1 31 30])
 (.seq
 (.seq
 (.reg [mv 32 1,
 y1 33 32,
 mv 7 33])
 (.seq
 (.reg [mv 34 7,
 oo 35 (.bin .int .gtr (.t 34) (.c (.int .i64 0))),
 mv 36 35,
 z6 37 36 1,
 z6 38 36 7,
 og 39 36 true (.bin .int .sub (.t 38) (.c (.int .i64 1))),
 og 40 36 true (.iaddr 4 (.t 37) (.t 39)),
 z2 41 36 0 40,
 z4 42 36 41,
 z2 43 36 1 5,
 z4 44 36 43,
 og 45 36 true (.bin .str .eql (.t 42) (.t 44)),
 y7 46 36 45])
 (.cond (.t 46)
 (.seq
 (.draw [] [([⟨(some 47), .move (.t 1), none⟩], []),
 ([⟨(some 48), .move (.t 7), none⟩], []),
 ([⟨(some 49), .bin .int .sub (.t 48) (.c (.int .i64 1)), none⟩], []),
 ([⟨(some 50), .move (.t 1), none⟩], []),
 ([⟨(some 51), .move (.t 7), none⟩], []),
 ([⟨(some 52), .bin .int .sub (.t 51) (.c (.int .i64 1)), none⟩], []),
 ([⟨(some 53), .iaddr 4 (.t 50) (.t 52), none⟩], []),
 ([⟨(some 54), .faddr 1 (.t 53), none⟩], []),
 ([⟨(some 55), .load none (.t 54), none⟩], []),
 ([⟨(some 56), .load (some 2) (.t 6), none⟩], []),
 ([⟨(some 57), .lit true 124 2 [(.t 56)], none⟩], [⟨(some 53), .iaddr 4 (.t 50) (.t 52), none⟩, ⟨(some 54), .faddr 1 (.t 53), none⟩, ⟨(some 55), .load none (.t 54), none⟩]),
 ([⟨(some 58), .append 124 2 48 (.t 55) (.t 57), none⟩], []),
 ([⟨(some 59), .iaddr 4 (.t 47) (.t 49), none⟩], []),
 ([⟨(some 60), .faddr 1 (.t 59), none⟩], []),
 ([x3 1 60 58], [])])
 (.seq
 (.reg [mv 61 1,
 mv 4 61])
 .ret))
 .skip)))
 (.seq
 (.reg [mv 62 1,
 x2 63 1 5,
 x1 64 63,
 x4 65 2 6,
 z8 66 124 2 65,
 x2 67 3 5,
 x4 68 2 67,
 oo 69 (.build [(.str ⟨#[]⟩), .nils, (.int .i64 0), (.int .i64 0)] [(0, 1, (.t 64)), (1, 1, (.t 66)), (2, 2, (.t 68))]),
 z8 70 120 4 69,
 z7 71 120 4 56 62 70,
 mv 4 71])
 .ret))))))))
theorem ent65 : EntOK Tryz.prog 65 ⟨72, v65, [.slot 4]⟩ := fun args σ K ha h =>
 enter (own := List.range 72) Tryz.func65 (by kernel_rfl) (by kernel_rfl) (by kernel_rfl) ha h
def v66 : ACode :=
(.seq
 (.reg [y9 4])
 (.seq
 (.reg [y9 5])
 (.seq
 (.seq
 (.reg [mv 11 1,
 y1 12 11,
 x5 13 0])
 (.block 0
 (.loop
 (.seq
 (.reg [x9 14 13 12])
 (.seq
 (.cond (.t 14)
 .skip
 (.exit 0))
 (.seq
 (.block 1
 (.seq
 (.reg [x8 15 10 11 13,
 x4 16 10 15,
 oo 7 (.new 195 (.c (.agg [.nils, (.int .i64 0), (.str ⟨#[]⟩), (.int .i64 0), .nils, .nils, .nils, .nils, (.int .i64 0), (.int .i64 0)]))),
 x3 10 7 16])
 (.seq
 (.reg [y9 8])
 (.seq
 (.seq
 (.reg [x2 17 0 7,
 x1 18 17,
 y1 19 18,
 x5 20 0])
 (.block 2
 (.loop
 (.seq
 (.reg [x9 21 20 19])
 (.seq
 (.cond (.t 21)
 .skip
 (.exit 2))
 (.seq
 (.block 3
 (.seq
 (.reg [x8 22 9 18 20,
 x4 23 9 22,
 oo 10 (.new 193 (.c (.agg [(.int .i64 0), (.str ⟨#[]⟩), (.int .i64 0), .nils, .nils, .nils, .nils, (.int .i64 0), (.int .i64 0)]))),
 x3 9 10 23])
 (.reg [mv 24 8,
 mv 25 0,
 x4 26 9 10,
 y2 27 96 25 26,
 z8 28 193 9 27,
 z7 29 193 9 144 24 28,
 mv 8 29])))
 (.reg [x6 30 20 1,
 mv 20 30])))))))
 (.seq
 (.reg [mv 31 8,
 x2 32 0 7,
 x3 1 32 31])
 (.seq
 (.reg [mv 33 0,
 x2 34 1 7,
 x4 35 9 34,
 y2 36 96 33 35,
 x2 37 1 7,
 x3 9 37 36])
 (.reg [mv 38 5,
 x4 39 10 7,
 z8 40 195 10 39,
 z7 41 195 10 168 38 40,
 mv 5 41])))))))
 (.reg [x6 42 13 1,
 mv 13 42])))))))
 (.seq
 (.reg [mv 43 5,
 mv 4 43])
 .ret))))
theorem ent66 : EntOK Tryz.prog 66 ⟨44, v66, [.slot 4]⟩ := fun args σ K ha h =>
 enter (own := List.range 44) Tryz.func66 (by kernel_rfl) (by kernel_rfl) (by kernel_rfl) ha h
def v67 : ACode :=
(.seq
 (.reg [y8 1 49 0,
 oo 2 (.new 128 q5),
 oo 3 (.new 66 q0)])
 (.seq
 (.seq
 (.reg [x4 10 3 1,
 y5 11 97 10,
 oo 4 (.new 66 q0),
 x3 3 4 11])
 (.seq
 (.reg [x2 12 0 4,
 x1 13 12,
 oo 14 (.bin .int .neq (.t 13) (.c (.int .i64 0)))])
 (.cond (.t 14)
 (.seq
 (.draw [] [([⟨(some 15), .build [.nils] [], none⟩], []),
 ([⟨(some 16), .load (some 3) (.t 4), none⟩], []),
 ([x3 1 2 15], [⟨(some 16), .load (some 3) (.t 4), none⟩]),
 ([x3 3 3 16], [])])
 .ret)
 .skip)))
 (.seq
 (.reg [x2 18 0 1,
 x1 19 18,
 y5 20 78 19,
 mv 17 20,
 z9 21 17 0,
 z9 22 17 1,
 oo 6 (.new 66 q0),
 mv 5 21,
 x3 3 6 22])
 (.seq
 (.reg [oo 23 (.call 98 []),
 mv 24 5,
 oo 25 (.build [.nilp, .nilp, .nils, (.bool false), (.int .i64 0), (.int .i64 0), (.int .i64 0)] [(0, 1, (.t 23)), (1, 1, (.t 24))]),
 y8 26 203 25,
 mv 7 26])
 (.seq
 (.reg [mv 27 7,
 x2 28 2 1,
 x1 29 28,
 oo 30 (.call 99 [(.t 27), (.t 29), (.c (.fn (.func 100) [] []))]),
 mv 8 30])
 (.seq
 (.reg [mv 31 7,
 mv 32 8,
 y2 33 101 31 32,
 mv 9 33])
 (.seq
 (.seq
 (.reg [mv 34 7,
 y3 35 34,
 x2 36 3 35,
 x1 37 36])
 (.cond (.t 37)
 (.seq
 (.draw [] [([⟨(some 38), .build [.nils] [], none⟩], []),
 ([⟨(some 39), .move (.t 7), none⟩], []),
 ([⟨(some 40), .nilck (.t 39), none⟩], []),
 ([⟨(some 41), .faddr 4 (.t 40), none⟩], []),
 ([⟨(some 42), .load (some 3) (.t 41), none⟩], []),
 ([x3 1 2 38], [⟨(some 41), .faddr 4 (.t 40), none⟩, ⟨(some 42), .load (some 3) (.t 41), none⟩]),
 ([x3 3 3 42], [])])
 .ret)
 .skip))
 (.seq
 (.reg [mv 43 9,
 oo 44 (.build [.nils] [(0, 1, (.t 43))]),
 oo 45 (.build [(.int .i64 0), (.int .i64 0), (.int .i64 0)] []),
 x3 1 2 44,
 x3 3 3 45])
 .ret))))))))
theorem ent67 : EntOK Tryz.prog 67 ⟨46, v67, [.cell 2 (some 1), .cell 3 (some 3)]⟩ := fun args σ K ha h =>
 enter (own := List.range 46) Tryz.func67 (by kernel_rfl) (by kernel_rfl) (by kernel_rfl) ha h
def v68 : ACode :=
(.seq
 (.reg [y8 1 137 0,
 oo 2 (.new 137 (.c (.agg [(.int .i64 0), (.int .i64 0), (.str ⟨#[]⟩), .nils])))])
 (.seq
 (.reg [x4 6 4 1,
 y5 7 69 6,
 mv 3 7])
 (.seq
 (.reg [y9 4])
 (.seq
 (.seq
 (.reg [mv 8 3,
 y1 9 8,
 x5 10 0])
 (.block 0
 (.loop
 (.seq
 (.reg [x9 11 10 9])
 (.seq
 (.cond (.t 11)
 .skip
 (.exit 0))
 (.seq
 (.block 1
 (.seq
 (.reg [mv 12 10,
 mv 5 12])
 (.reg [mv 13 4,
 mv 14 5,
 y5 15 102 14,
 z8 16 137 4 15,
 z7 17 137 4 56 13 16,
 mv 4 17])))
 (.reg [x6 18 10 1,
 mv 10 18])))))))
 (.seq
 (.reg [x4 19 4 1,
 mv 20 3,
 mv 21 4,
 oo 22 (.call 103 [(.t 19), (.t 20), (.t 21)]),
 x3 4 2 22])
 .ret)))))
theorem ent68 : EntOK Tryz.prog 68 ⟨23, v68, [.cell 2 (some 4)]⟩ := fun args σ K ha h =>
 enter (own := List.range 23) Tryz.func68 (by kernel_rfl) (by kernel_rfl) (by kernel_rfl) ha h
def v69 : ACode :=
(.seq
 (.reg [y8 1 137 0,
 y9 2])
 (.seq
 (.seq
 (.reg [x4 3 4 1,
 y5 4 104 3,
 oo 5 (.not (.t 4))])
 (.cond (.t 5)
 (.seq
 (.reg [y9 2])
 .ret)
 .skip))
 (.seq
 (.reg [x4 6 4 1,
 oo 7 (.call 105 [(.t 6), (.c .nils)]),
 mv 2 7])
 .ret)))
theorem ent69 : EntOK Tryz.prog 69 ⟨8, v69, [.slot 2]⟩ := fun args σ K ha h =>
 enter (own := List.range 8) Tryz.func69 (by kernel_rfl) (by kernel_rfl) (by kernel_rfl) ha h
def v70 : ACode :=
(.seq
 (.reg [y8 1 49 0,
 y6 2])
 (.seq
 (.reg [x2 3 0 1,
 x1 4 3,
 oo 5 (.call 106 [(.t 4), (.c (.fn (.func 107) [] []))]),
 mv 6 5,
 z2 7 6 1 1,
 z4 8 6 7,
 og 9 6 true (.call 108 [(.t 8), (.c (.fn (.func 109) [] []))]),
 y7 10 6 9,
 mv 11 10,
 z2 12 11 2 1,
 z4 13 11 12,
 og 14 11 true (.call 110 [(.t 13)]),
 y7 15 11 14,
 mv 2 15])
 .ret))
theorem ent70 : EntOK Tryz.prog 70 ⟨16, v70, [.slot 2]⟩ := fun args σ K ha h =>
 enter (own := List.range 16) Tryz.func70 (by kernel_rfl) (by kernel_rfl) (by kernel_rfl) ha h
def v73 : ACode :=
(.seq
 (.reg [oo 8 (.move (.c (.bool true)))])
 (.seq
 (.reg [mv 13 1,
 y1 14 13,
 x5 15 0])
 (.block 0
 (.loop
 (.seq
 (.reg [x9 16 15 14])
 (.seq
 (.cond (.t 16)
 .skip
 (.exit 0))
 (.seq
 (.block 1
 (.seq
 (.reg [x8 17 4 13 15,
 x4 18 4 17,
 oo 10 (.new 120 (.c (.agg [(.str ⟨#[]⟩), .nils, (.int .i64 0), (.int .i64 0)]))),
 x3 4 10 18])
 (.seq
 (.reg [x2 19 1 10,
 x1 20 19,
 y1 21 20,
 x5 22 0])
 (.block 2
 (.loop
 (.seq
 (.reg [x9 23 22 21])
 (.seq
 (.cond (.t 23)
 .skip
 (.exit 2))
 (.seq
 (.block 3
 (.seq
 (.reg [x8 24 2 20 22,
 x4 25 2 24,
 oo 12 (.new 124 q3),
 x3 2 12 25])
 (.seq
 (.seq
 (.reg [mv 26 8,
 oo 27 (.not (.t 26))])
 (.cond (.t 27)
 (.reg [mv 28 0,
 mv 29 2,
 z8 30 9 1 29,
 y2 31 111 28 30])
 .skip))
 (.seq
 (.reg [y6 8])
 (.seq
 (.reg [mv 32 0,
 x2 33 0 10,
 x1 34 33,
 y2 35 116 32 34])
 (.seq
 (.reg [mv 36 0,
 x2 37 0 12,
 x1 38 37,
 y2 39 117 36 38])
 (.seq
 (.reg [mv 40 0,
 x2 41 1 12,
 x1 42 41,
 oo 43 (.call 118 [(.t 40), (.t 42), (.c (.str ⟨#[32, 61, 32]⟩))])])
 (.reg [mv 44 0,
 mv 45 3,
 z8 46 9 1 45,
 y2 47 111 44 46]))))))))
 (.reg [x6 48 22 1,
 mv 22 48])))))))))
 (.reg [x6 49 15 1,
 mv 15 49]))))))))
theorem ent73 : EntOK Tryz.prog 73 ⟨50, v73, []⟩ := fun args σ K ha h =>
 enter (own := List.range 50) Tryz.func73 (by kernel_rfl) (by kernel_rfl) (by kernel_rfl) ha h
def v74 : ACode :=
(.seq
 (.reg [oo 2 (.move (.c (.str ⟨#[]⟩)))])
 (.seq
 (.reg [mv 3 0,
 y3 4 3,
 x2 5 1 4,
 x1 6 5,
 oo 7 (.sdata 1 (.t 6)),
 mv 8 0,
 y3 9 8,
 x2 10 1 9,
 x1 11 10,
 y1 12 11,
 oo 13 (.ustr 5 (.t 7) (.t 12)),
 mv 2 13])
 .ret))
theorem ent74 : EntOK Tryz.prog 74 ⟨14, v74, [.slot 2]⟩ := fun args σ K ha h =>
 enter (own := List.range 14) Tryz.func74 (by kernel_rfl) (by kernel_rfl) (by kernel_rfl) ha h
def v75 : ACode :=
(.seq
 (.reg [y8 2 49 0,
 y8 3 155 1,
 x5 4 0])
 (.seq
 (.reg [x2 9 0 2,
 x1 10 9,
 y5 11 78 10,
 mv 8 11,
 z9 12 8 0,
 z9 13 8 1,
 oo 6 (.new 66 q0),
 mv 5 12,
 x3 3 6 13])
 (.seq
 (.reg [mv 14 5,
 oo 15 (.build [.nilp, (.int .i64 0), .nilf] [(0, 1, (.t 14))]),
 y8 16 226 15,
 oo 7 (.new 223 (.c .nilp)),
 x3 1 7 16])
 (.seq
 (.reg [x1 17 7,
 oo 18 (.mkfn (.func 119) [] [(.t 3), (.t 7)]),
 y3 19 17,
 x2 20 2 19,
 x3 1 20 18])
 (.seq
 (.reg [x1 21 7,
 x4 22 3 2,
 y2 23 120 21 22])
 (.seq
 (.reg [x1 24 7,
 y3 25 24,
 x2 26 1 25,
 x1 27 26,
 mv 4 27])
 .ret))))))
theorem ent75 : EntOK Tryz.prog 75 ⟨28, v75, [.slot 4]⟩ := fun args σ K ha h =>
 enter (own := List.range 28) Tryz.func75 (by kernel_rfl) (by kernel_rfl) (by kernel_rfl) ha h
def v76 : ACode :=
(.seq
 (.reg [y8 2 99 0])
 (.reg [x1 3 1,
 x4 4 5 2,
 z8 5 99 5 4,
 z7 6 99 5 88 3 5,
 x3 1 1 6]))
theorem ent76 : EntOK Tryz.prog 76 ⟨7, v76, []⟩ := fun args σ K ha h =>
 enter (own := List.range 7) Tryz.func76 (by kernel_rfl) (by kernel_rfl) (by kernel_rfl) ha h
def v77 : ACode :=
(.seq
 (.reg [y8 2 137 0,
 y8 3 137 1,
 y6 4])
 (.seq
 (.seq
 (.reg [x2 6 0 2,
 x1 7 6,
 x2 8 0 3,
 x1 9 8,
 oo 10 (.bin .int .neq (.t 7) (.t 9)),
 mv 11 10,
 z1 12 11 1 2,
 z3 13 11 12,
 z1 14 11 1 3,
 z3 15 11 14,
 og 16 11 false (.bin .int .neq (.t 13) (.t 15)),
 y4 17 11 16,
 mv 18 17,
 z1 19 18 2 2,
 z3 20 18 19,
 z1 21 18 2 3,
 z3 22 18 21,
 og 23 18 false (.bin .str .neq (.t 20) (.t 22)),
 y4 24 18 23,
 mv 25 24,
 z1 26 25 3 2,
 z3 27 25 26,
 og 28 25 false (.len .slice (.t 27)),
 z1 29 25 3 3,
 z3 30 25 29,
 og 31 25 false (.len .slice (.t 30)),
 og 32 25 false (.bin .int .neq (.t 28) (.t 31)),
 y4 33 25 32])
 (.cond (.t 33)
 (.seq
 (.reg [y6 4])
 .ret)
 .skip))
 (.seq
 (.seq
 (.reg [x2 34 3 2,
 x1 35 34,
 y1 36 35,
 x5 37 0])
 (.block 0
 (.loop
 (.seq
 (.reg [x9 38 37 36])
 (.seq
 (.cond (.t 38)
 .skip
 (.exit 0))
 (.seq
 (.block 1
 (.seq
 (.reg [mv 39 37,
 mv 5 39])
 (.seq
 (.reg [x2 40 3 2,
 x1 41 40,
 mv 42 5,
 x8 43 4 41 42,
 x4 44 4 43,
 x2 45 3 3,
 x1 46 45,
 mv 47 5,
 x8 48 4 46 47,
 x4 49 4 48,
 y2 50 77 44 49,
 oo 51 (.not (.t 50))])
 (.cond (.t 51)
 (.seq
 (.reg [y6 4])
 .ret)
 .skip))))
 (.reg [x6 52 37 1,
 mv 37 52])))))))
 (.seq
 (.reg [oo 4 (.move (.c (.bool true)))])
 .ret))))
theorem ent77 : EntOK Tryz.prog 77 ⟨53, v77, [.slot 4]⟩ := fun args σ K ha h =>
 enter (own := List.range 53) Tryz.func77 (by kernel_rfl) (by kernel_rfl) (by kernel_rfl) ha h
def v78 : ACode :=
(.seq
 (.reg [oo 2 (.move (.c .nilp)),
 oo 3 (.new 66 q0)])
 (.seq
 (.reg [oo 13 (.call 121 []),
 mv 4 13])
 (.seq
 (.seq
 (.reg [mv 14 0,
 y1 15 14,
 x5 16 0])
 (.block 0
 (.loop
 (.seq
 (.reg [x9 17 16 15])
 (.seq
 (.cond (.t 17)
 .skip
 (.exit 0))
 (.seq
 (.block 1
 (.seq
 (.reg [x8 18 5 14 16,
 x4 19 5 18,
 oo 6 (.new 113 (.c (.agg [(.str ⟨#[]⟩), .nils, .nils, (.int .i64 0), (.int .i64 0)]))),
 x3 5 6 19])
 (.seq
 (.reg [mv 20 4,
 x4 21 5 6,
 y2 22 122 20 21,
 mv 7 22])
 (.seq
 (.reg [mv 23 7,
 oo 24 (.bin .int .neq (.t 23) (.c (.int .i64 0)))])
 (.cond (.t 24)
 (.seq
 (.reg [mv 25 7,
 x2 26 3 6,
 x4 27 2 26,
 oo 28 (.build [(.int .i64 0), (.int .i64 0), (.int .i64 0)] [(0, 1, (.t 25)), (1, 2, (.t 27))]),
 oo 2 (.move (.c .nilp)),
 x3 3 3 28])
 .ret)
 .skip)))))
 (.reg [x6 29 16 1,
 mv 16 29])))))))
 (.seq
 (.seq
 (.reg [mv 30 0,
 y1 31 30,
 x5 32 0])
 (.block 2
 (.loop
 (.seq
 (.reg [x9 33 32 31])
 (.seq
 (.cond (.t 33)
 .skip
 (.exit 2))
 (.seq
 (.block 3
 (.seq
 (.reg [x8 34 5 30 32,
 x4 35 5 34,
 oo 9 (.new 113 (.c (.agg [(.str ⟨#[]⟩), .nils, .nils, (.int .i64 0), (.int .i64 0)]))),
 x3 5 9 35])
 (.seq
 (.reg [x2 36 2 9,
 x1 37 36,
 y1 38 37,
 x5 39 0])
 (.block 4
 (.loop
 (.seq
 (.reg [x9 40 39 38])
 (.seq
 (.cond (.t 40)
 .skip
 (.exit 4))
 (.seq
 (.block 5
 (.seq
 (.reg [mv 41 39,
 x8 42 4 37 39,
 x4 43 4 42,
 oo 11 (.new 184 (.c (.agg [(.str ⟨#[]⟩), .nils, (.int .i64 0), (.int .i64 0)]))),
 mv 10 41,
 x3 4 11 43])
 (.seq
 (.reg [mv 44 4,
 x4 45 5 9,
 mv 46 10,
 x4 47 4 11,
 oo 48 (.call 123 [(.t 44), (.t 45), (.t 46), (.t 47)]),
 mv 12 48])
 (.seq
 (.reg [mv 49 12,
 oo 50 (.bin .int .neq (.t 49) (.c (.int .i64 0)))])
 (.cond (.t 50)
 (.seq
 (.reg [mv 51 12,
 x2 52 2 11,
 x4 53 2 52,
 oo 54 (.build [(.int .i64 0), (.int .i64 0), (.int .i64 0)] [(0, 1, (.t 51)), (1, 2, (.t 53))]),
 oo 2 (.move (.c .nilp)),
 x3 3 3 54])
 .ret)
 .skip)))))
 (.reg [x6 55 39 1,
 mv 39 55])))))))))
 (.reg [x6 56 32 1,
 mv 32 56])))))))
 (.seq
 (.reg [mv 57 4,
 oo 58 (.build [(.int .i64 0), (.int .i64 0), (.int .i64 0)] []),
 mv 2 57,
 x3 3 3 58])
 .ret)))))
theorem ent78 : EntOK Tryz.prog 78 ⟨59, v78, [.slot 2, .cell 3 (some 3)]⟩ := fun args σ K ha h =>
 enter (own := List.range 59) Tryz.func78 (by kernel_rfl) (by kernel_rfl) (by kernel_rfl) ha h
def v79 : ACode :=
(.seq
 (.reg [y8 5 120 1,
 oo 8 (.new 28 (.c (.agg [(.int .i64 0), (.str ⟨#[]⟩), (.int .i64 0), (.int .i64 0), .nils, .nils, .nils, .nils, .nils])))])
 (.seq
 (.reg [x2 14 1 5,
 x1 15 14,
 oo 16 (.iaddr 2 (.t 15) (.c (.int .i64 0))),
 x2 17 0 16,
 x1 18 17,
 y1 19 18,
 mv 9 19])
 (.seq
 (.seq
 (.reg [mv 20 9,
 x7 21 20 0])
 (.cond (.t 21)
 (.seq
 (.reg [mv 22 0,
 x2 23 1 5,
 x1 24 23,
 oo 25 (.iaddr 2 (.t 24) (.c (.int .i64 0))),
 x2 26 1 25,
 x1 27 26,
 mv 28 2,
 mv 29 3,
 oo 30 (.call 124 [(.t 22), (.t 27), (.t 28), (.t 29), (.c (.fn (.func 125) [] []))]),
 x3 9 8 30])
 .ret)
 .skip))
 (.seq
 (.reg [mv 31 3,
 mv 32 9,
 y2 33 126 31 32,
 mv 10 33])
 (.seq
 (.reg [y9 11])
 (.seq
 (.seq
 (.reg [x2 34 1 5,
 x1 35 34,
 y1 36 35,
 x5 37 0])
 (.block 0
 (.loop
 (.seq
 (.reg [x9 38 37 36])
 (.seq
 (.cond (.t 38)
 .skip
 (.exit 0))
 (.seq
 (.block 1
 (.seq
 (.reg [x8 39 2 35 37,
 x4 40 2 39,
 oo 13 (.new 124 q3),
 x3 2 13 40])
 (.reg [mv 41 11,
 x2 42 0 13,
 x1 43 42,
 x2 44 1 13,
 x1 45 44,
 mv 46 2,
 oo 47 (.build [.nils, .nils, .nils] [(0, 1, (.t 43)), (1, 1, (.t 45)), (2, 1, (.t 46))]),
 z8 48 238 3 47,
 z7 49 238 3 72 41 48,
 mv 11 49])))
 (.reg [x6 50 37 1,
 mv 37 50])))))))
 (.seq
 (.reg [mv 51 10,
 mv 52 0,
 mv 53 10,
 mv 54 11,
 oo 55 (.call 125 []),
 mv 56 3,
 mv 57 9,
 oo 58 (.bin .int .add (.t 56) (.t 57)),
 oo 59 (.call 127 [(.t 52), (.t 53), (.t 54), (.t 55), (.t 58)]),
 z8 60 28 9 59,
 oo 61 (.build [(.int .i64 0), (.str ⟨#[]⟩), (.int .i64 0), (.int .i64 0), .nils, .nils, .nils, .nils, .nils] [(0, 1, (.c (.int .i64 6))), (4, 1, (.t 51)), (5, 1, (.t 60))]),
 x3 9 8 61])
 .ret)))))))
theorem ent79 : EntOK Tryz.prog 79 ⟨62, v79, [.cell 8 (some 9)]⟩ := fun args σ K ha h =>
 enter (own := List.range 62) Tryz.func79 (by kernel_rfl) (by kernel_rfl) (by kernel_rfl) ha h
def v80 : ACode :=
(.seq
 (.reg [y6 6])
 (.seq
 (.seq
 (.reg [mv 10 0,
 y1 11 10,
 mv 12 1,
 y1 13 12,
 oo 14 (.bin .int .neq (.t 11) (.t 13))])
 (.cond (.t 14)
 (.seq
 (.reg [y6 6])
 .ret)
 .skip))
 (.seq
 (.seq
 (.reg [mv 15 0,
 y1 16 15,
 x5 17 0])
 (.block 0
 (.loop
 (.seq
 (.reg [x9 18 17 16])
 (.seq
 (.cond (.t 18)
 .skip
 (.exit 0))
 (.seq
 (.block 1
 (.seq
 (.reg [mv 19 17,
 x8 20 10 15 17,
 x4 21 10 20,
 oo 8 (.new 39 (.c (.agg [(.str ⟨#[]⟩), (.int .i64 0), (.str ⟨#[]⟩), (.int .i64 0), (.int .i64 0), .nils, .nils, .nils, .nils, .nils]))),
 mv 7 19,
 x3 10 8 21])
 (.seq
 (.reg [mv 22 1,
 mv 23 7,
 x8 24 10 22 23,
 x4 25 10 24,
 oo 9 (.new 39 (.c (.agg [(.str ⟨#[]⟩), (.int .i64 0), (.str ⟨#[]⟩), (.int .i64 0), (.int .i64 0), .nils, .nils, .nils, .nils, .nils]))),
 x3 10 9 25])
 (.seq
 (.reg [mv 26 2,
 x4 27 10 8,
 x4 28 10 9,
 oo 29 (.callv (.t 26) [(.t 27), (.t 28)]),
 oo 30 (.not (.t 29))])
 (.cond (.t 30)
 (.seq
 (.reg [y6 6])
 .ret)
 .skip)))))
 (.reg [x6 31 17 1,
 mv 17 31])))))))
 (.seq
 (.reg [oo 6 (.move (.c (.bool true)))])
 .ret))))
theorem ent80 : EntOK Tryz.prog 80 ⟨32, v80, [.slot 6]⟩ := fun args σ K ha h =>
 enter (own := List.range 32) Tryz.func80 (by kernel_rfl) (by kernel_rfl) (by kernel_rfl) ha h
def v81 : ACode :=
(.seq
 (.reg [y8 2 39 0,
 y8 3 39 1,
 y6 4])
 (.seq
 (.reg [x2 5 0 2,
 x1 6 5,
 x2 7 0 3,
 x1 8 7,
 oo 9 (.bin .str .eql (.t 6) (.t 8)),
 mv 4 9])
 .ret))
theorem ent81 : EntOK Tryz.prog 81 ⟨10, v81, [.slot 4]⟩ := fun args σ K ha h =>
 enter (own := List.range 10) Tryz.func81 (by kernel_rfl) (by kernel_rfl) (by kernel_rfl) ha h
def v82 : ACode :=
(.seq
 (.reg [y6 2])
 (.scope
 (.seq
 .skip
 (.seq
 (.block 0
 (.loop
 (.seq
 (.seq
 (.reg [mv 4 0,
 y3 5 4,
 x2 6 1 5,
 x1 7 6,
 mv 8 0,
 y3 9 8,
 x2 10 0 9,
 x1 11 10,
 oo 12 (.len .str (.t 11)),
 x9 13 7 12])
 (.cond (.t 13)
 .skip
 (.exit 0)))
 (.block 1
 (.seq
 (.reg [mv 14 0,
 y3 15 14,
 x2 16 0 15,
 x1 17 16,
 mv 18 0,
 y3 19 18,
 x2 20 1 19,
 x1 21 20,
 oo 22 (.index (.t 17) (.t 21)),
 mv 3 22])
 (.block 2
 (.seq
 (.reg [mv 24 3,
 oo 25 (.bin .int .eql (.t 24) (.c (.int .u8 32))),
 mv 23 25])
 (.cond (.t 23)
 (.seq
 (.reg [mv 26 0,
 y3 27 26,
 x2 28 1 27,
 x1 29 28,
 x6 30 29 1,
 y3 31 26,
 x2 32 1 31,
 x3 1 32 30])
 (.reg [mv 33 0,
 y3 34 33,
 x2 35 2 34,
 x2 36 1 35,
 x1 37 36,
 x6 38 37 1,
 y3 39 33,
 x2 40 2 39,
 x2 41 1 40,
 x3 1 41 38]))
 (.seq
 (.reg [mv 43 3,
 oo 44 (.bin .int .eql (.t 43) (.c (.int .u8 10))),
 mv 42 44])
 (.cond (.t 42)
 (.seq
 (.reg [mv 45 0,
 y3 46 45,
 x2 47 1 46,
 x1 48 47,
 x6 49 48 1,
 y3 50 45,
 x2 51 1 50,
 x3 1 51 49])
 (.reg [mv 52 0,
 mv 53 0,
 y3 54 53,
 x2 55 2 54,
 x2 56 0 55,
 x1 57 56,
 x6 58 57 1,
 oo 59 (.build [(.int .i64 0), (.int .i64 0)] [(0, 1, (.t 58)), (1, 1, (.c (.int .i64 1)))]),
 y3 60 52,
 x2 61 2 60,
 x3 2 61 59]))
 (.seq
 (.reg [mv 63 3,
 oo 64 (.bin .int .eql (.t 63) (.c (.int .u8 45))),
 mv 65 64,
 z6 66 65 0,
 og 67 65 true (.nilck (.t 66)),
 z2 68 65 1 67,
 z4 69 65 68,
 og 70 65 true (.bin .int .add (.t 69) (.c (.int .i64 1))),
 z6 71 65 0,
 og 72 65 true (.nilck (.t 71)),
 z2 73 65 0 72,
 z4 74 65 73,
 og 75 65 true (.len .str (.t 74)),
 og 76 65 true (.bin .int .lss (.t 70) (.t 75)),
 y7 77 65 76,
 mv 78 77,
 z6 79 78 0,
 og 80 78 true (.nilck (.t 79)),
 z2 81 78 0 80,
 z4 82 78 81,
 z6 83 78 0,
 og 84 78 true (.nilck (.t 83)),
 z2 85 78 1 84,
 z4 86 78 85,
 og 87 78 true (.bin .int .add (.t 86) (.c (.int .i64 1))),
 og 88 78 true (.index (.t 82) (.t 87)),
 og 89 78 true (.bin .int .eql (.t 88) (.c (.int .u8 45))),
 y7 90 78 89,
 mv 62 90])
 (.cond (.t 62)
 (.seq
 (.reg [mv 91 0,
 y5 92 128 91])
 (.exit 1))
 (.exit 0)))))))))))))
 (.seq
 (.reg [mv 93 0,
 y3 94 93,
 x2 95 1 94,
 x1 96 95,
 mv 97 0,
 y3 98 97,
 x2 99 0 98,
 x1 100 99,
 oo 101 (.len .str (.t 100)),
 x9 102 96 101,
 mv 2 102])
 .ret)))))
theorem ent82 : EntOK Tryz.prog 82 ⟨103, v82, [.slot 2]⟩ := fun args σ K ha h =>
 enter (own := List.range 103) Tryz.func82 (by kernel_rfl) (by kernel_rfl) (by kernel_rfl) ha h
def v83 : ACode :=
(.seq
 (.reg [oo 2 (.new 83 (.c (.agg [(.int .i64 0), (.str ⟨#[]⟩), (.int .i64 0), (.int .i64 0), (.int .i64 0), (.bool false)]))),
 x5 3 0])
 (.seq
 (.reg [mv 8 0,
 y3 9 8,
 x2 10 0 9,
 x1 11 10,
 mv 12 0,
 y3 13 12,
 x2 14 1 13,
 x1 15 14,
 oo 16 (.index (.t 11) (.t 15)),
 y5 17 129 16,
 mv 4 17])
 (.seq
 (.seq
 (.reg [mv 18 4,
 x7 19 18 0])
 (.cond (.t 19)
 (.seq
 (.reg [oo 20 (.build [(.int .i64 0), (.str ⟨#[]⟩), (.int .i64 0), (.int .i64 0), (.int .i64 0), (.bool false)] []),
 x3 6 2 20,
 x5 3 20])
 .ret)
 .skip))
 (.seq
 (.reg [mv 21 0,
 y3 22 21,
 x2 23 1 22,
 x1 24 23,
 mv 5 24])
 (.seq
 (.reg [mv 25 0,
 y3 26 25,
 x2 27 2 26,
 x4 28 2 27,
 oo 29 (.build [(.int .i64 0), (.str ⟨#[]⟩), (.int .i64 0), (.int .i64 0), (.int .i64 0), (.bool false)] [(3, 2, (.t 28))]),
 oo 6 (.new 83 (.c (.agg [(.int .i64 0), (.str ⟨#[]⟩), (.int .i64 0), (.int .i64 0), (.int .i64 0), (.bool false)]))),
 x3 6 6 29])
 (.seq
 (.reg [mv 30 0,
 y3 31 30,
 x2 32 1 31,
 x1 33 32,
 x6 34 33 1,
 y3 35 30,
 x2 36 1 35,
 x3 1 36 34])
 (.seq
 (.block 0
 (.loop
 (.seq
 (.seq
 (.reg [mv 37 0,
 y3 38 37,
 x2 39 1 38,
 x1 40 39,
 mv 41 0,
 y3 42 41,
 x2 43 0 42,
 x1 44 43,
 oo 45 (.len .str (.t 44)),
 x9 46 40 45,
 mv 47 46,
 z6 48 47 4,
 z6 49 47 0,
 og 50 47 true (.nilck (.t 49)),
 z2 51 47 0 50,
 z4 52 47 51,
 z6 53 47 0,
 og 54 47 true (.nilck (.t 53)),
 z2 55 47 1 54,
 z4 56 47 55,
 og 57 47 true (.index (.t 52) (.t 56)),
 og 58 47 true (.call 130 [(.t 48), (.t 57)]),
 y7 59 47 58])
 (.cond (.t 59)
 .skip
 (.exit 0)))
 (.block 1
 (.reg [mv 60 0,
 y3 61 60,
 x2 62 1 61,
 x1 63 62,
 x6 64 63 1,
 y3 65 60,
 x2 66 1 65,
 x3 1 66 64])))))
 (.seq
 (.reg [mv 67 0,
 y3 68 67,
 x2 69 0 68,
 x1 70 69,
 mv 71 5,
 mv 72 0,
 y3 73 72,
 x2 74 1 73,
 x1 75 74,
 oo 76 (.cut .str 1 (.t 70) (some (.t 71)) (some (.t 75))),
 x2 77 1 6,
 x3 1 77 76])
 (.seq
 (.reg [mv 78 0,
 y3 79 78,
 x2 80 2 79,
 x2 81 1 80,
 x1 82 81,
 mv 83 0,
 y3 84 83,
 x2 85 1 84,
 x1 86 85,
 mv 87 5,
 oo 88 (.bin .int .sub (.t 86) (.t 87)),
 oo 89 (.bin .int .add (.t 82) (.t 88)),
 y3 90 78,
 x2 91 2 90,
 x2 92 1 91,
 x3 1 92 89])
 (.seq
 (.reg [mv 93 4,
 x2 94 1 6,
 x1 95 94,
 y2 96 131 93 95,
 x2 97 0 6,
 x3 1 97 96])
 (.seq
 (.seq
 (.reg [x2 98 0 6,
 x1 99 98,
 oo 100 (.bin .int .neq (.t 99) (.c (.int .i64 4))),
 mv 101 100,
 z2 102 101 1 6,
 z4 103 101 102,
 og 104 101 true (.len .str (.t 103)),
 og 105 101 true (.bin .int .gtr (.t 104) (.c (.int .i64 32))),
 y7 106 101 105])
 (.cond (.t 106)
 (.seq
 (.reg [oo 107 (.build [(.int .i64 0), (.str ⟨#[]⟩), (.int .i64 0), (.int .i64 0), (.int .i64 0), (.bool false)] []),
 x3 6 2 107,
 x5 3 2])
 .ret)
 .skip))
 (.seq
 (.reg [x5 7 0])
 (.seq
 (.seq
 (.reg [x2 108 0 6,
 x1 109 108,
 x7 110 109 4])
 (.cond (.t 110)
 (.reg [x2 112 1 6,
 x1 113 112,
 y5 114 132 113,
 mv 111 114,
 z9 115 111 0,
 z9 116 111 1,
 x2 117 2 6,
 x3 1 117 115,
 mv 7 116])
 .skip))
 (.seq
 (.seq
 (.reg [mv 118 7,
 oo 119 (.bin .int .neq (.t 118) (.c (.int .i64 0)))])
 (.cond (.t 119)
 (.seq
 (.reg [oo 120 (.build [(.int .i64 0), (.str ⟨#[]⟩), (.int .i64 0), (.int .i64 0), (.int .i64 0), (.bool false)] []),
 mv 121 7,
 x3 6 2 120,
 mv 3 121])
 .ret)
 .skip))
 (.seq
 (.reg [x4 122 6 6,
 x3 6 2 122,
 x5 3 0])
 .ret)))))))))))))))
theorem ent83 : EntOK Tryz.prog 83 ⟨123, v83, [.cell 2 (some 6), .slot 3]⟩ := fun args σ K ha h =>
 enter (own := List.range 123) Tryz.func83 (by kernel_rfl) (by kernel_rfl) (by kernel_rfl) ha h
def v84 : ACode :=
(.seq
 (.reg [y8 3 83 1,
 y6 4])
 (.seq
 (.reg [mv 5 0,
 y3 6 5,
 x2 7 2 6,
 ⟨none, .store 1 (.t 7) (.c (.bool false)), none⟩])
 (.seq
 (.seq
 (.reg [x2 8 0 3,
 x1 9 8,
 x7 10 9 5,
 mv 11 10,
 z2 12 11 1 3,
 z4 13 11 12,
 og 14 11 true (.bin .str .eql (.t 13) (.c (.str ⟨#[123]⟩))),
 y7 15 11 14])
 (.cond (.t 15)
 (.seq
 (.reg [oo 4 (.move (.c (.bool true)))])
 .ret)
 .skip))
 (.seq
 (.seq
 (.draw [] [([⟨(some 16), .faddr 3 (.t 3), none⟩], []),
 ([⟨(some 17), .faddr 1 (.t 16), none⟩], []),
 ([⟨(some 18), .load none (.t 17), none⟩], []),
 ([⟨(some 19), .move (.t 0), none⟩], []),
 ([⟨(some 20), .call 133 [(.t 19)], none⟩], [⟨(some 16), .faddr 3 (.t 3), none⟩, ⟨(some 17), .faddr 1 (.t 16), none⟩, ⟨(some 18), .load none (.t 17), none⟩]),
 ([⟨(some 21), .bin .int .gtr (.t 18) (.t 20), none⟩], [])])
 (.cond (.t 21)
 (.seq
 (.reg [mv 22 0,
 oo 23 (.call 88 [(.t 22), (.c (.str ⟨#[123]⟩))])])
 (.seq
 (.reg [mv 24 0,
 x2 25 3 3,
 x2 26 1 25,
 x1 27 26,
 oo 28 (.call 134 [(.t 24), (.c (.int .i64 0)), (.t 27)])])
 (.seq
 (.reg [oo 4 (.move (.c (.bool true)))])
 .ret)))
 .skip))
 (.seq
 (.reg [mv 29 0,
 oo 30 (.call 88 [(.t 29), (.c (.str ⟨#[123]⟩))])])
 (.seq
 (.reg [mv 31 0,
 oo 32 (.call 88 [(.t 31), (.c (.str ⟨#[125]⟩))])])
 (.seq
 (.reg [y6 4])
 .ret)))))))
theorem ent84 : EntOK Tryz.prog 84 ⟨33, v84, [.slot 4]⟩ := fun args σ K ha h =>
 enter (own := List.range 33) Tryz.func84 (by kernel_rfl) (by kernel_rfl) (by kernel_rfl) ha h
def v86 : ACode :=
(.seq
 (.reg [y8 3 83 1])
 (.seq
 (.reg [oo 4 (.move (.c (.int .i64 (-1))))])
 (.seq
 (.block 0
 (.seq
 (.reg [x2 6 0 3,
 x1 7 6,
 x7 8 7 5,
 mv 9 8,
 z2 10 9 1 3,
 z4 11 9 10,
 og 12 9 true (.bin .str .eql (.t 11) (.c (.str ⟨#[41]⟩))),
 y7 13 9 12,
 mv 5 13])
 (.cond (.t 5)
 (.reg [mv 14 0,
 oo 15 (.lit true 178 1 [(.c (.int .i64 1))]),
 oo 16 (.call 137 [(.t 14), (.c (.int .i64 2)), (.t 15)]),
 mv 4 16])
 (.seq
 (.reg [x2 18 0 3,
 x1 19 18,
 x7 20 19 5,
 mv 21 20,
 z2 22 21 1 3,
 z4 23 21 22,
 og 24 21 true (.bin .str .eql (.t 23) (.c (.str ⟨#[125]⟩))),
 y7 25 21 24,
 mv 17 25])
 (.cond (.t 17)
 (.reg [mv 26 0,
 oo 27 (.call 137 [(.t 26), (.c (.int .i64 1)), (.c .nils)]),
 mv 4 27])
 (.seq
 (.reg [x2 29 0 3,
 x1 30 29,
 oo 31 (.bin .int .neq (.t 30) (.c (.int .i64 6))),
 mv 28 31])
 (.cond (.t 28)
 .skip
 (.seq
 (.reg [x2 33 1 3,
 x1 34 33,
 oo 35 (.bin .str .eql (.t 34) (.c (.str ⟨#[105, 110]⟩))),
 mv 32 35])
 (.cond (.t 32)
 (.reg [mv 36 0,
 oo 37 (.lit true 178 1 [(.c (.int .i64 1)), (.c (.int .i64 2))]),
 oo 38 (.call 137 [(.t 36), (.c (.int .i64 3)), (.t 37)]),
 mv 4 38])
 (.seq
 (.reg [x2 40 1 3,
 x1 41 40,
 oo 42 (.bin .str .eql (.t 41) (.c (.str ⟨#[111, 102]⟩))),
 mv 39 42])
 (.cond (.t 39)
 (.reg [mv 43 0,
 oo 44 (.lit true 178 1 [(.c (.int .i64 1)), (.c (.int .i64 2))]),
 oo 45 (.call 137 [(.t 43), (.c (.int .i64 4)), (.t 44)]),
 mv 4 45])
 (.seq
 (.reg [x2 47 1 3,
 x1 48 47,
 oo 49 (.bin .str .eql (.t 48) (.c (.str ⟨#[116, 104, 101, 110]⟩))),
 mv 46 49])
 (.cond (.t 46)
 (.reg [mv 50 0,
 oo 51 (.lit true 178 1 [(.c (.int .i64 1)), (.c (.int .i64 2))]),
 oo 52 (.call 137 [(.t 50), (.c (.int .i64 5)), (.t 51)]),
 mv 4 52])
 (.seq
 (.reg [x2 54 1 3,
 x1 55 54,
 oo 56 (.bin .str .eql (.t 55) (.c (.str ⟨#[101, 108, 115, 101]⟩))),
 mv 53 56])
 (.cond (.t 53)
 (.reg [mv 57 0,
 oo 58 (.lit true 178 1 [(.c (.int .i64 1)), (.c (.int .i64 2))]),
 oo 59 (.call 137 [(.t 57), (.c (.int .i64 6)), (.t 58)]),
 mv 4 59])
 .skip)))))))))))))))
 (.seq
 (.reg [mv 60 4,
 oo 61 (.bin .int .geq (.t 60) (.c (.int .i64 0)))])
 (.cond (.t 61)
 (.reg [mv 62 0,
 mv 63 4,
 y2 64 138 62 63])
 .skip)))))
theorem ent86 : EntOK Tryz.prog 86 ⟨65, v86, []⟩ := fun args σ K ha h =>
 enter (own := List.range 65) Tryz.func86 (by kernel_rfl) (by kernel_rfl) (by kernel_rfl) ha h
def v87 : ACode :=
(.seq
 (.reg [y8 3 83 1])
 (.block 0
 (.seq
 (.reg [x2 5 0 3,
 x1 6 5,
 x7 7 6 5,
 mv 8 7,
 z2 9 8 1 3,
 z4 10 8 9,
 og 11 8 true (.bin .str .eql (.t 10) (.c (.str ⟨#[40]⟩))),
 y7 12 8 11,
 mv 4 12])
 (.cond (.t 4)
 (.reg [mv 13 0,
 oo 14 (.call 134 [(.t 13), (.c (.int .i64 2)), (.c (.int .i64 0))])])
 (.seq
 (.reg [x2 16 0 3,
 x1 17 16,
 x7 18 17 5,
 mv 19 18,
 z2 20 19 1 3,
 z4 21 19 20,
 og 22 19 true (.bin .str .eql (.t 21) (.c (.str ⟨#[123]⟩))),
 y7 23 19 22,
 mv 15 23])
 (.cond (.t 15)
 (.reg [mv 24 0,
 oo 25 (.call 134 [(.t 24), (.c (.int .i64 1)), (.c (.int .i64 0))])])
 (.seq
 (.reg [x2 27 0 3,
 x1 28 27,
 oo 29 (.bin .int .neq (.t 28) (.c (.int .i64 6))),
 mv 26 29])
 (.cond (.t 26)
 .skip
 (.seq
 (.reg [x2 31 1 3,
 x1 32 31,
 oo 33 (.bin .str .eql (.t 32) (.c (.str ⟨#[108, 101, 116]⟩))),
 mv 30 33])
 (.cond (.t 30)
 (.seq
 (.reg [mv 34 0,
 oo 35 (.call 134 [(.t 34), (.c (.int .i64 3)), (.c (.int .i64 0))])])
 (.reg [mv 36 0,
 y3 37 36,
 x2 38 2 37,
 ⟨none, .store 1 (.t 38) (.c (.bool true)), none⟩]))
 (.seq
 (.reg [x2 40 1 3,
 x1 41 40,
 oo 42 (.bin .str .eql (.t 41) (.c (.str ⟨#[99, 97, 115, 101]⟩))),
 mv 39 42])
 (.cond (.t 39)
 (.reg [mv 43 0,
 oo 44 (.call 134 [(.t 43), (.c (.int .i64 4)), (.c (.int .i64 0))])])
 (.seq
 (.reg [x2 46 1 3,
 x1 47 46,
 oo 48 (.bin .str .eql (.t 47) (.c (.str ⟨#[111, 102]⟩))),
 mv 45 48])
 (.cond (.t 45)
 (.reg [mv 49 0,
 y3 50 49,
 x2 51 2 50,
 ⟨none, .store 1 (.t 51) (.c (.bool true)), none⟩])
 (.seq
 (.reg [x2 53 1 3,
 x1 54 53,
 oo 55 (.bin .str .eql (.t 54) (.c (.str ⟨#[105, 102]⟩))),
 mv 52 55])
 (.cond (.t 52)
 (.reg [mv 56 0,
 oo 57 (.call 134 [(.t 56), (.c (.int .i64 5)), (.c (.int .i64 0))])])
 (.seq
 (.reg [x2 59 1 3,
 x1 60 59,
 oo 61 (.bin .str .eql (.t 60) (.c (.str ⟨#[116, 104, 101, 110]⟩))),
 mv 58 61])
 (.cond (.t 58)
 (.reg [mv 62 0,
 oo 63 (.call 134 [(.t 62), (.c (.int .i64 6)), (.c (.int .i64 0))])])
 .skip))))))))))))))))))
theorem ent87 : EntOK Tryz.prog 87 ⟨64, v87, []⟩ := fun args σ K ha h =>
 enter (own := List.range 64) Tryz.func87 (by kernel_rfl) (by kernel_rfl) (by kernel_rfl) ha h
def v88 : ACode :=
(.draw [] [([⟨(some 4), .move (.t 0), none⟩], []),
 ([⟨(some 5), .move (.t 0), none⟩], []),
 ([⟨(some 6), .nilck (.t 5), none⟩], []),
 ([⟨(some 7), .faddr 0 (.t 6), none⟩], []),
 ([⟨(some 8), .load none (.t 7), none⟩], []),
 ([⟨(some 9), .move (.t 1), none⟩], []),
 ([⟨(some 10), .move (.t 0), none⟩], []),
 ([⟨(some 11), .nilck (.t 10), none⟩], []),
 ([⟨(some 12), .faddr 3 (.t 11), none⟩], []),
 ([⟨(some 13), .load (some 2) (.t 12), none⟩], []),
 ([⟨(some 14), .build [(.int .i64 0), (.str ⟨#[]⟩), (.int .i64 0), (.int .i64 0), (.int .i64 0), (.bool false)] [(0, 1, (.c (.int .i64 5))), (1, 1, (.t 9)), (3, 2, (.t 13)), (5, 1, (.c (.bool true)))], none⟩], []),
 ([⟨(some 15), .lit true 83 6 [(.t 14)], none⟩], [⟨(some 7), .faddr 0 (.t 6), none⟩, ⟨(some 8), .load none (.t 7), none⟩]),
 ([⟨(some 16), .append 83 6 56 (.t 8) (.t 15), none⟩], []),
 ([⟨(some 17), .nilck (.t 4), none⟩], []),
 ([⟨(some 18), .faddr 0 (.t 17), none⟩], []),
 ([x3 1 18 16], [])])
theorem ent88 : EntOK Tryz.prog 88 ⟨19, v88, []⟩ := fun args σ K ha h =>
 enter (own := List.range 19) Tryz.func88 (by kernel_rfl) (by kernel_rfl) (by kernel_rfl) ha h
def v89 : ACode :=
(.seq
 (.reg [oo 2 (.new 83 (.c (.agg [(.int .i64 0), (.str ⟨#[]⟩), (.int .i64 0), (.int .i64 0), (.int .i64 0), (.bool false)])))])
 (.seq
 (.seq
 (.reg [mv 3 0,
 y3 4 3,
 x2 5 2 4,
 x1 6 5,
 mv 7 6,
 z5 8 7 0,
 og 9 7 false (.nilck (.t 8)),
 z1 10 7 1 9,
 z3 11 7 10,
 z5 12 7 0,
 og 13 7 false (.nilck (.t 12)),
 z1 14 7 0 13,
 z3 15 7 14,
 og 16 7 false (.len .slice (.t 15)),
 og 17 7 false (.bin .int .geq (.t 11) (.t 16)),
 y4 18 7 17])
 (.cond (.t 18)
 (.seq
 (.reg [oo 19 (.build [(.int .i64 0), (.str ⟨#[]⟩), (.int .i64 0), (.int .i64 0), (.int .i64 0), (.bool false)] []),
 x3 6 2 19])
 .ret)
 .skip))
 (.seq
 (.reg [mv 20 0,
 y3 21 20,
 x2 22 0 21,
 x1 23 22,
 mv 24 0,
 y3 25 24,
 x2 26 1 25,
 x1 27 26,
 x8 28 6 23 27,
 x4 29 6 28,
 x3 6 2 29])
 .ret)))
theorem ent89 : EntOK Tryz.prog 89 ⟨30, v89, [.cell 2 (some 6)]⟩ := fun args σ K ha h =>
 enter (own := List.range 30) Tryz.func89 (by kernel_rfl) (by kernel_rfl) (by kernel_rfl) ha h
def v90 : ACode :=
(.seq
 (.reg [oo 4 (.new 83 (.c (.agg [(.int .i64 0), (.str ⟨#[]⟩), (.int .i64 0), (.int .i64 0), (.int .i64 0), (.bool false)])))])
 (.seq
 (.seq
 (.reg [mv 5 0,
 mv 6 1,
 y2 7 91 5 6,
 oo 8 (.not (.t 7))])
 (.cond (.t 8)
 (.reg [mv 9 0,
 oo 10 (.call 62 [(.t 9), (.c (.int .i64 60))])])
 .skip))
 (.seq
 (.reg [mv 11 0,
 y5 12 61 11,
 x3 6 4 12])
 .ret)))
theorem ent90 : EntOK Tryz.prog 90 ⟨13, v90, [.cell 4 (some 6)]⟩ := fun args σ K ha h =>
 enter (own := List.range 13) Tryz.func90 (by kernel_rfl) (by kernel_rfl) (by kernel_rfl) ha h
def v91 : ACode :=
(.seq
 (.reg [y6 4])
 (.seq
 (.reg [mv 5 0,
 y5 6 89 5,
 oo 7 (.field 0 none (.t 6)),
 mv 8 1,
 oo 9 (.bin .int .eql (.t 7) (.t 8)),
 mv 4 9])
 .ret))
theorem ent91 : EntOK Tryz.prog 91 ⟨10, v91, [.slot 4]⟩ := fun args σ K ha h =>
 enter (own := List.range 10) Tryz.func91 (by kernel_rfl) (by kernel_rfl) (by kernel_rfl) ha h
def v93 : ACode :=
(.seq
 (.reg [y6 2])
 (.seq
 (.reg [mv 3 0,
 oo 4 (.call 91 [(.t 3), (.c (.int .i64 1))]),
 mv 5 4,
 z5 6 5 0,
 og 7 5 false (.call 91 [(.t 6), (.c (.int .i64 2))]),
 y4 8 5 7,
 mv 9 8,
 z5 10 9 0,
 og 11 9 false (.call 91 [(.t 10), (.c (.int .i64 4))]),
 y4 12 9 11,
 mv 13 12,
 z5 14 13 0,
 og 15 13 false (.call 60 [(.t 14), (.c (.str ⟨#[95]⟩))]),
 y4 16 13 15,
 mv 17 16,
 z5 18 17 0,
 og 19 17 false (.call 60 [(.t 18), (.c (.str ⟨#[40]⟩))]),
 y4 20 17 19,
 mv 2 20])
 .ret))
theorem ent93 : EntOK Tryz.prog 93 ⟨21, v93, [.slot 2]⟩ := fun args σ K ha h =>
 enter (own := List.range 21) Tryz.func93 (by kernel_rfl) (by kernel_rfl) (by kernel_rfl) ha h
def v94 : ACode :=
(.seq
 (.reg [oo 2 (.new 187 (.c (.agg [(.int .i64 0), (.str ⟨#[]⟩), (.int .i64 0), .nils, (.int .i64 0), (.int .i64 0)])))])
 (.seq
 (.reg [mv 9 0,
 y5 10 89 9,
 oo 3 (.new 83 (.c (.agg [(.int .i64 0), (.str ⟨#[]⟩), (.int .i64 0), (.int .i64 0), (.int .i64 0), (.bool false)]))),
 x3 6 3 10])
 (.seq
 (.block 0
 (.seq
 (.reg [x2 12 0 3,
 x1 13 12,
 x7 14 13 1,
 mv 11 14])
 (.cond (.t 11)
 (.seq
 (.reg [mv 15 0,
 y5 16 61 15])
 (.seq
 (.reg [x2 17 1 3,
 x1 18 17,
 x2 19 3 3,
 x4 20 2 19,
 oo 21 (.build [(.int .i64 0), (.str ⟨#[]⟩), (.int .i64 0), .nils, (.int .i64 0), (.int .i64 0)] [(0, 1, (.c (.int .i64 2))), (1, 1, (.t 18)), (4, 2, (.t 20))]),
 x3 6 2 21])
 .ret))
 (.seq
 (.reg [x2 23 0 3,
 x1 24 23,
 x7 25 24 2,
 mv 22 25])
 (.cond (.t 22)
 (.seq
 (.reg [mv 26 0,
 y5 27 61 26])
 (.seq
 (.reg [x2 28 1 3,
 x1 29 28,
 x2 30 3 3,
 x4 31 2 30,
 oo 32 (.build [(.int .i64 0), (.str ⟨#[]⟩), (.int .i64 0), .nils, (.int .i64 0), (.int .i64 0)] [(0, 1, (.c (.int .i64 4))), (1, 1, (.t 29)), (4, 2, (.t 31))]),
 x3 6 2 32])
 .ret))
 (.seq
 (.reg [x2 34 0 3,
 x1 35 34,
 x7 36 35 4,
 mv 33 36])
 (.cond (.t 33)
 (.seq
 (.reg [mv 38 0,
 y5 39 141 38,
 mv 37 39,
 z9 40 37 0,
 z9 41 37 1,
 oo 5 (.new 64 q2),
 mv 4 40,
 x3 2 5 41])
 (.seq
 (.reg [mv 42 4,
 x4 43 2 5,
 oo 44 (.build [(.int .i64 0), (.str ⟨#[]⟩), (.int .i64 0), .nils, (.int .i64 0), (.int .i64 0)] [(0, 1, (.c (.int .i64 3))), (2, 1, (.t 42)), (4, 2, (.t 43))]),
 x3 6 2 44])
 .ret))
 (.seq
 (.reg [mv 46 0,
 oo 47 (.call 60 [(.t 46), (.c (.str ⟨#[95]⟩))]),
 mv 45 47])
 (.cond (.t 45)
 (.seq
 (.reg [mv 48 0,
 y5 49 61 48])
 (.seq
 (.reg [x2 50 3 3,
 x4 51 2 50,
 oo 52 (.build [(.int .i64 0), (.str ⟨#[]⟩), (.int .i64 0), .nils, (.int .i64 0), (.int .i64 0)] [(0, 1, (.c (.int .i64 1))), (4, 2, (.t 51))]),
 x3 6 2 52])
 .ret))
 (.seq
 (.reg [mv 54 0,
 oo 55 (.call 142 [(.t 54), (.c (.str ⟨#[45]⟩)), (.c (.int .i64 4))]),
 mv 53 55])
 (.cond (.t 53)
 (.seq
 (.reg [mv 57 0,
 y5 58 143 57,
 mv 56 58,
 z9 59 56 0,
 z9 60 56 1,
 oo 7 (.new 64 q2),
 mv 6 59,
 x3 2 7 60])
 (.seq
 (.reg [mv 61 6,
 x4 62 2 7,
 oo 63 (.build [(.int .i64 0), (.str ⟨#[]⟩), (.int .i64 0), .nils, (.int .i64 0), (.int .i64 0)] [(0, 1, (.c (.int .i64 3))), (2, 1, (.t 61)), (4, 2, (.t 62))]),
 x3 6 2 63])
 .ret))
 .skip)))))))))))
 (.seq
 (.reg [mv 64 0,
 oo 65 (.call 47 [(.t 64), (.c (.str ⟨#[40]⟩))])])
 (.seq
 (.seq
 (.reg [mv 66 0,
 oo 67 (.call 91 [(.t 66), (.c (.int .i64 3))])])
 (.cond (.t 67)
 (.reg [mv 68 0,
 y5 69 144 68])
 .skip))
 (.seq
 (.seq
 (.reg [mv 70 0,
 y3 71 70,
 x2 72 2 71,
 x1 73 72])
 (.cond (.t 73)
 (.seq
 (.reg [oo 74 (.build [(.int .i64 0), (.str ⟨#[]⟩), (.int .i64 0), .nils, (.int .i64 0), (.int .i64 0)] []),
 x3 6 2 74])
 .ret)
 .skip))
 (.seq
 (.reg [mv 75 0,
 y5 76 145 75,
 oo 8 (.new 187 (.c (.agg [(.int .i64 0), (.str ⟨#[]⟩), (.int .i64 0), .nils, (.int .i64 0), (.int .i64 0)]))),
 x3 6 8 76])
 (.seq
 (.reg [mv 77 0,
 oo 78 (.call 47 [(.t 77), (.c (.str ⟨#[41]⟩))])])
 (.seq
 (.reg [x4 79 6 8,
 x3 6 2 79])
 .ret)))))))))
theorem ent94 : EntOK Tryz.prog 94 ⟨80, v94, [.cell 2 (some 6)]⟩ := fun args σ K ha h =>
 enter (own := List.range 80) Tryz.func94 (by kernel_rfl) (by kernel_rfl) (by kernel_rfl) ha h
def v95 : ACode :=
(.seq
 (.reg [y9 4])
 (.seq
 (.reg [y9 5])
 (.seq
 (.seq
 (.reg [mv 7 0,
 oo 8 (.call 60 [(.t 7), (.c (.str ⟨#[124]⟩))]),
 oo 9 (.not (.t 8))])
 (.cond (.t 9)
 (.seq
 (.reg [mv 10 0,
 mv 11 1,
 y2 12 47 10 11])
 (.seq
 (.reg [mv 13 5,
 mv 14 0,
 y5 15 146 14,
 oo 16 (.build [.nils, (.int .i64 0), (.str ⟨#[]⟩), (.int .i64 0), .nils, .nils, .nils, .nils, (.int .i64 0), (.int .i64 0)] [(1, 9, (.t 15))]),
 oo 17 (.lit false 195 10 [(.t 16)]),
 z7 18 195 10 168 13 17,
 mv 4 18])
 .ret))
 .skip))
 (.seq
 (.block 0
 (.loop
 (.seq
 (.seq
 (.reg [mv 19 0,
 oo 20 (.call 60 [(.t 19), (.c (.str ⟨#[124]⟩))])])
 (.cond (.t 20)
 .skip
 (.exit 0)))
 (.block 1
 (.seq
 (.reg [mv 21 0,
 y5 22 61 21])
 (.seq
 (.reg [mv 23 0,
 y5 24 146 23,
 oo 6 (.new 193 (.c (.agg [(.int .i64 0), (.str ⟨#[]⟩), (.int .i64 0), .nils, .nils, .nils, .nils, (.int .i64 0), (.int .i64 0)]))),
 x3 9 6 24])
 (.seq
 (.reg [mv 25 0,
 mv 26 1,
 y2 27 47 25 26])
 (.draw [] [([⟨(some 28), .move (.t 5), none⟩], []),
 ([⟨(some 29), .load (some 9) (.t 6), none⟩], []),
 ([⟨(some 30), .lit false 193 9 [(.t 29)], none⟩], []),
 ([⟨(some 31), .move (.t 0), none⟩], []),
 ([⟨(some 32), .call 146 [(.t 31)], none⟩], [⟨(some 29), .load (some 9) (.t 6), none⟩]),
 ([⟨(some 33), .build [.nils, (.int .i64 0), (.str ⟨#[]⟩), (.int .i64 0), .nils, .nils, .nils, .nils, (.int .i64 0), (.int .i64 0)] [(0, 1, (.t 30)), (1, 9, (.t 32))], none⟩], []),
 ([⟨(some 34), .lit false 195 10 [(.t 33)], none⟩], []),
 ([⟨(some 35), .append 195 10 168 (.t 28) (.t 34), none⟩], []),
 ([⟨(some 5), .move (.t 35), none⟩], [])]))))))))
 (.seq
 (.reg [mv 36 5,
 mv 4 36])
 .ret)))))
theorem ent95 : EntOK Tryz.prog 95 ⟨37, v95, [.slot 4]⟩ := fun args σ K ha h =>
 enter (own := []) Tryz.func95 (by kernel_rfl) (by kernel_rfl) (by kernel_rfl) ha h
def v96 : ACode :=
(.seq
 (.reg [y8 3 193 1,
 oo 4 (.new 193 (.c (.agg [(.int .i64 0), (.str ⟨#[]⟩), (.int .i64 0), .nils, .nils, .nils, .nils, (.int .i64 0), (.int .i64 0)])))])
 (.seq
 (.seq
 (.reg [mv 11 0,
 y3 12 11,
 x2 13 1 12,
 x1 14 13])
 (.cond (.t 14)
 (.seq
 (.reg [x4 15 9 3,
 x3 9 4 15])
 .ret)
 .skip))
 (.seq
 (.seq
 (.reg [x2 16 0 3,
 x1 17 16,
 oo 18 (.bin .int .eql (.t 17) (.c (.int .i64 (-1))))])
 (.cond (.t 18)
 (.seq
 (.reg [mv 19 0,
 x4 20 9 3,
 y2 21 147 19 20,
 x3 9 4 21])
 .ret)
 .skip))
 (.seq
 (.reg [mv 22 0,
 x2 23 6 3,
 x1 24 23,
 y2 25 49 22 24,
 x2 26 6 3,
 x3 1 26 25])
 (.seq
 (.reg [y9 5])
 (.seq
 (.seq
 (.reg [x2 27 4 3,
 x1 28 27,
 y1 29 28,
 x5 30 0])
 (.block 0
 (.loop
 (.seq
 (.reg [x9 31 30 29])
 (.seq
 (.cond (.t 31)
 .skip
 (.exit 0))
 (.seq
 (.block 1
 (.seq
 (.reg [x8 32 9 28 30,
 x4 33 9 32,
 oo 7 (.new 193 (.c (.agg [(.int .i64 0), (.str ⟨#[]⟩), (.int .i64 0), .nils, .nils, .nils, .nils, (.int .i64 0), (.int .i64 0)]))),
 x3 9 7 33])
 (.reg [mv 34 5,
 mv 35 0,
 x4 36 9 7,
 y2 37 96 35 36,
 z8 38 193 9 37,
 z7 39 193 9 144 34 38,
 mv 5 39])))
 (.reg [x6 40 30 1,
 mv 30 40])))))))
 (.seq
 (.reg [mv 41 5,
 x2 42 4 3,
 x3 1 42 41])
 (.seq
 (.seq
 (.reg [x2 43 0 3,
 x1 44 43,
 x7 45 44 4])
 (.cond (.t 45)
 (.reg [mv 46 5,
 oo 47 (.iaddr 9 (.t 46) (.c (.int .i64 0))),
 x2 48 7 47,
 x4 49 2 48,
 x2 50 7 3,
 x3 2 50 49])
 .skip))
 (.seq
 (.reg [y9 8])
 (.seq
 (.seq
 (.reg [x2 51 5 3,
 x1 52 51,
 y1 53 52,
 x5 54 0])
 (.block 2
 (.loop
 (.seq
 (.reg [x9 55 54 53])
 (.seq
 (.cond (.t 55)
 .skip
 (.exit 2))
 (.seq
 (.block 3
 (.seq
 (.reg [x8 56 7 52 54,
 x4 57 7 56,
 oo 10 (.new 255 (.c (.agg [(.int .i64 0), (.str ⟨#[]⟩), (.int .i64 0), .nils, (.int .i64 0), (.int .i64 0), .nils]))),
 x3 7 10 57])
 (.seq
 (.reg [mv 58 0,
 x2 59 6 10,
 x1 60 59,
 y2 61 66 58 60,
 x2 62 6 10,
 x3 1 62 61])
 (.reg [mv 63 8,
 x4 64 7 10,
 z8 65 255 7 64,
 z7 66 255 7 96 63 65,
 mv 8 66]))))
 (.reg [x6 67 54 1,
 mv 54 67])))))))
 (.seq
 (.reg [mv 68 8,
 x2 69 5 3,
 x3 1 69 68])
 (.seq
 (.reg [x4 70 9 3,
 x3 9 4 70])
 .ret))))))))))))
theorem ent96 : EntOK Tryz.prog 96 ⟨71, v96, [.cell 4 (some 9)]⟩ := fun args σ K ha h =>
 enter (own := List.range 71) Tryz.func96 (by kernel_rfl) (by kernel_rfl) (by kernel_rfl) ha h
def v97 : ACode :=
(.seq
 (.reg [y8 1 49 0,
 oo 2 (.new 66 q0)])
 (.seq
 (.seq
 (.reg [x4 9 3 1,
 y5 10 70 9,
 oo 11 (.not (.t 10))])
 (.cond (.t 11)
 (.seq
 (.reg [oo 12 (.build [(.int .i64 0), (.int .i64 0), (.int .i64 0)] [(0, 1, (.c (.int .i64 1)))]),
 x3 3 2 12])
 .ret)
 .skip))
 (.seq
 (.reg [x2 14 0 1,
 x1 15 14,
 y5 16 78 15,
 mv 13 16,
 z9 17 13 0,
 z9 18 13 1,
 oo 4 (.new 66 q0),
 mv 3 17,
 x3 3 4 18])
 (.seq
 (.seq
 (.reg [x2 19 0 4,
 x1 20 19,
 oo 21 (.bin .int .neq (.t 20) (.c (.int .i64 0)))])
 (.cond (.t 21)
 (.seq
 (.reg [x4 22 3 4,
 x3 3 2 22])
 .ret)
 .skip))
 (.seq
 (.reg [mv 23 3,
 oo 24 (.build [.nilp, .nils, (.int .i64 0), (.int .i64 0), (.int .i64 0), (.bool false)] [(0, 1, (.t 23))]),
 y8 25 258 24,
 mv 5 25])
 (.seq
 (.reg [y9 6])
 (.seq
 (.seq
 (.reg [x2 26 1 1,
 x1 27 26,
 y1 28 27,
 x5 29 0])
 (.block 0
 (.loop
 (.seq
 (.reg [x9 30 29 28])
 (.seq
 (.cond (.t 30)
 .skip
 (.exit 0))
 (.seq
 (.block 1
 (.seq
 (.reg [x8 31 5 27 29,
 x4 32 5 31,
 oo 8 (.new 116 (.c (.agg [(.str ⟨#[]⟩), (.int .i64 0), (.int .i64 0), (.int .i64 0), (.int .i64 0)]))),
 x3 5 8 32])
 (.seq
 (.seq
 (.reg [mv 33 6,
 x2 34 0 8,
 x1 35 34,
 y2 36 148 33 35])
 (.cond (.t 36)
 (.reg [mv 37 5,
 x2 38 3 8,
 x4 39 2 38,
 oo 40 (.call 149 [(.t 37), (.c (.int .i64 80)), (.t 39)])])
 .skip))
 (.reg [mv 41 6,
 x2 42 0 8,
 x1 43 42,
 z8 44 9 1 43,
 z7 45 9 1 16 41 44,
 mv 6 45]))))
 (.reg [x6 46 29 1,
 mv 29 46])))))))
 (.seq
 (.reg [mv 47 5,
 x2 48 2 1,
 x1 49 48,
 oo 50 (.call 150 [(.t 47), (.t 49), (.c (.fn (.func 151) [] []))])])
 (.seq
 (.reg [mv 51 5,
 y3 52 51,
 x2 53 2 52,
 x4 54 3 53,
 x3 3 2 54])
 .ret)))))))))
theorem ent97 : EntOK Tryz.prog 97 ⟨55, v97, [.cell 2 (some 3)]⟩ := fun args σ K ha h =>
 enter (own := List.range 55) Tryz.func97 (by kernel_rfl) (by kernel_rfl) (by kernel_rfl) ha h
def v98 : ACode :=
(.seq
 (.reg [oo 0 (.move (.c .nilp))])
 (.seq
 (.reg [oo 1 (.mkmap),
 oo 2 (.build [.nilm, (.int .i64 0), .nils, .nilm] [(0, 1, (.t 1))]),
 y8 3 265 2,
 mv 0 3])
 .ret))
theorem ent98 : EntOK Tryz.prog 98 ⟨4, v98, [.slot 0]⟩ := fun args σ K ha h =>
 enter (own := List.range 4) Tryz.func98 (by kernel_rfl) (by kernel_rfl) (by kernel_rfl) ha h
def v99 : ACode :=
(.seq
 (.reg [y9 6])
 (.seq
 (.reg [mv 11 0,
 y3 12 11,
 x2 13 2 12,
 x1 14 13,
 y1 15 14,
 mv 7 15])
 (.seq
 (.reg [y9 8])
 (.seq
 (.seq
 (.reg [mv 16 1,
 y5 17 152 16,
 y1 18 17,
 x5 19 0])
 (.block 0
 (.loop
 (.seq
 (.reg [x9 20 19 18])
 (.seq
 (.cond (.t 20)
 .skip
 (.exit 0))
 (.seq
 (.block 1
 (.seq
 (.reg [x8 21 1 17 19,
 x1 22 21,
 mv 10 22])
 (.seq
 (.seq
 (.reg [mv 23 0,
 y3 24 23,
 x2 25 3 24,
 x1 26 25])
 (.cond (.t 26)
 (.exit 0)
 .skip))
 (.reg [mv 27 8,
 mv 28 0,
 mv 29 1,
 mv 30 10,
 oo 31 (.call 153 [(.t 28), (.t 29), (.t 30)]),
 z8 32 135 4 31,
 z7 33 135 4 96 27 32,
 mv 8 33]))))
 (.reg [x6 34 19 1,
 mv 19 34])))))))
 (.seq
 (.reg [mv 35 2,
 oo 36 (.callv (.t 35) [])])
 (.seq
 (.reg [mv 37 0,
 mv 38 0,
 y3 39 38,
 x2 40 2 39,
 x1 41 40,
 mv 42 7,
 oo 43 (.cut .slice 7 (.t 41) none (some (.t 42))),
 y3 44 37,
 x2 45 2 44,
 x3 1 45 43])
 (.seq
 (.reg [mv 46 8,
 mv 6 46])
 .ret)))))))
theorem ent99 : EntOK Tryz.prog 99 ⟨47, v99, [.slot 6]⟩ := fun args σ K ha h =>
 enter (own := List.range 47) Tryz.func99 (by kernel_rfl) (by kernel_rfl) (by kernel_rfl) ha h
def v100 : ACode :=
.skip
theorem ent100 : EntOK Tryz.prog 100 ⟨0, v100, []⟩ := fun args σ K ha h =>
 enter (own := List.range 0) Tryz.func100 (by kernel_rfl) (by kernel_rfl) (by kernel_rfl) ha h
def v101 : ACode :=
(.seq
 (.reg [y9 4])
 (.seq
 (.reg [y9 5])
 (.seq
 (.seq
 (.reg [mv 14 1,
 y1 15 14,
 x5 16 0])
 (.block 0
 (.loop
 (.seq
 (.reg [x9 17 16 15])
 (.seq
 (.cond (.t 17)
 .skip
 (.exit 0))
 (.seq
 (.block 1
 (.seq
 (.reg [x8 18 4 14 16,
 x4 19 4 18,
 oo 7 (.new 135 q4),
 x3 4 7 19])
 (.seq
 (.reg [mv 20 0,
 x2 21 2 7,
 x1 22 21,
 y2 23 154 20 22,
 x2 24 2 7,
 x3 1 24 23])
 (.seq
 (.reg [y9 8])
 (.seq
 (.seq
 (.reg [x2 25 3 7,
 x1 26 25,
 y1 27 26,
 x5 28 0])
 (.block 2
 (.loop
 (.seq
 (.reg [x9 29 28 27])
 (.seq
 (.cond (.t 29)
 .skip
 (.exit 2))
 (.seq
 (.block 3
 (.seq
 (.reg [x8 30 1 26 28,
 x4 31 1 30,
 oo 10 (.new 272 q5),
 x3 1 10 31])
 (.seq
 (.reg [y9 11])
 (.seq
 (.seq
 (.reg [x2 32 0 10,
 x1 33 32,
 y1 34 33,
 x5 35 0])
 (.block 4
 (.loop
 (.seq
 (.reg [x9 36 35 34])
 (.seq
 (.cond (.t 36)
 .skip
 (.exit 4))
 (.seq
 (.block 5
 (.seq
 (.reg [x8 37 2 33 35,
 x4 38 2 37,
 oo 13 (.new 276 q3),
 x3 2 13 38])
 (.draw [] [([⟨(some 39), .move (.t 11), none⟩], []),
 ([⟨(some 40), .move (.t 0), none⟩], []),
 ([⟨(some 41), .faddr 0 (.t 13), none⟩], []),
 ([⟨(some 42), .load none (.t 41), none⟩], []),
 ([⟨(some 44), .move (.t 0), none⟩], []),
 ([⟨(some 45), .faddr 1 (.t 13), none⟩], []),
 ([⟨(some 46), .load none (.t 45), none⟩], []),
 ([⟨(some 43), .call 155 [(.t 40), (.t 42)], none⟩], [⟨(some 45), .faddr 1 (.t 13), none⟩, ⟨(some 46), .load none (.t 45), none⟩]),
 ([⟨(some 47), .call 156 [(.t 44), (.t 46)], none⟩], []),
 ([⟨(some 48), .build [.nils, .nils] [(0, 1, (.t 43)), (1, 1, (.t 47))], none⟩], []),
 ([⟨(some 49), .lit true 276 2 [(.t 48)], none⟩], []),
 ([⟨(some 50), .append 276 2 48 (.t 39) (.t 49), none⟩], []),
 ([⟨(some 11), .move (.t 50), none⟩], [])])))
 (.reg [x6 51 35 1,
 mv 35 51])))))))
 (.reg [mv 52 8,
 mv 53 11,
 oo 54 (.build [.nils] [(0, 1, (.t 53))]),
 z8 55 272 1 54,
 z7 56 272 1 24 52 55,
 mv 8 56])))))
 (.reg [x6 57 28 1,
 mv 28 57])))))))
 (.seq
 (.reg [mv 58 8,
 x2 59 3 7,
 x3 1 59 58])
 (.reg [mv 60 5,
 x4 61 4 7,
 z8 62 135 4 61,
 z7 63 135 4 96 60 62,
 mv 5 63])))))))
 (.reg [x6 64 16 1,
 mv 16 64])))))))
 (.seq
 (.reg [mv 65 5,
 mv 4 65])
 .ret))))
theorem ent101 : EntOK Tryz.prog 101 ⟨66, v101, [.slot 4]⟩ := fun args σ K ha h =>
 enter (own := List.range 66) Tryz.func101 (by kernel_rfl) (by kernel_rfl) (by kernel_rfl) ha h
def v102 : ACode :=
(.seq
 (.reg [oo 2 (.new 137 (.c (.agg [(.int .i64 0), (.int .i64 0), (.str ⟨#[]⟩), .nils])))])
 (.seq
 (.reg [mv 3 0,
 oo 4 (.build [(.int .i64 0), (.int .i64 0), (.str ⟨#[]⟩), .nils] [(0, 1, (.c (.int .i64 1))), (1, 1, (.t 3))]),
 x3 4 2 4])
 .ret))
theorem ent102 : EntOK Tryz.prog 102 ⟨5, v102, [.cell 2 (some 4)]⟩ := fun args σ K ha h =>
 enter (own := List.range 5) Tryz.func102 (by kernel_rfl) (by kernel_rfl) (by kernel_rfl) ha h
def v103 : ACode :=
(.seq
 (.reg [y8 3 137 0,
 oo 6 (.new 137 (.c (.agg [(.int .i64 0), (.int .i64 0), (.str ⟨#[]⟩), .nils])))])
 (.seq
 (.seq
 (.reg [x4 7 4 3,
 y5 8 104 7,
 oo 9 (.not (.t 8))])
 (.cond (.t 9)
 (.seq
 (.reg [oo 10 (.build [(.int .i64 0), (.int .i64 0), (.str ⟨#[]⟩), .nils] []),
 x3 4 6 10])
 .ret)
 .skip))
 (.seq
 (.reg [x4 11 4 3,
 mv 12 1,
 mv 13 2,
 oo 14 (.call 157 [(.t 11), (.t 12), (.t 13)]),
 x3 4 6 14])
 .ret)))
theorem ent103 : EntOK Tryz.prog 103 ⟨15, v103, [.cell 6 (some 4)]⟩ := fun args σ K ha h =>
 enter (own := List.range 15) Tryz.func103 (by kernel_rfl) (by kernel_rfl) (by kernel_rfl) ha h
def v104 : ACode :=
(.seq
 (.reg [y8 1 137 0,
 y6 2])
 (.seq
 (.seq
 (.reg [x2 5 0 1,
 x1 6 5])
 (.block 0
 (.seq
 (.reg [x7 8 6 1,
 mv 7 8])
 (.cond (.t 7)
 (.seq
 (.reg [x2 9 1 1,
 x1 10 9,
 oo 11 (.bin .int .geq (.t 10) (.c (.int .i64 0))),
 mv 12 11,
 z2 13 12 1 1,
 z4 14 12 13,
 og 15 12 true (.bin .int .leq (.t 14) (.c (.int .i64 1073741824))),
 y7 16 12 15,
 mv 17 16,
 z2 18 17 2 1,
 z4 19 17 18,
 og 20 17 true (.bin .str .eql (.t 19) (.c (.str ⟨#[]⟩))),
 y7 21 17 20,
 mv 22 21,
 z2 23 22 3 1,
 z4 24 22 23,
 og 25 22 true (.len .slice (.t 24)),
 og 26 22 true (.bin .int .eql (.t 25) (.c (.int .i64 0))),
 y7 27 22 26,
 mv 2 27])
 .ret)
 (.seq
 (.reg [x7 29 6 2,
 mv 28 29])
 (.cond (.t 28)
 (.seq
 (.reg [x2 30 2 1,
 x1 31 30,
 oo 32 (.bin .str .eql (.t 31) (.c (.str ⟨#[]⟩))),
 mv 33 32,
 z1 34 33 1 1,
 z3 35 33 34,
 og 36 33 false (.bin .int .neq (.t 35) (.c (.int .i64 0))),
 y4 37 33 36])
 (.cond (.t 37)
 (.seq
 (.reg [y6 2])
 .ret)
 .skip))
 (.seq
 (.reg [x7 39 6 3,
 mv 38 39])
 (.cond (.t 38)
 (.seq
 (.reg [x2 40 2 1,
 x1 41 40,
 oo 42 (.bin .str .neq (.t 41) (.c (.str ⟨#[]⟩))),
 mv 43 42,
 z1 44 43 1 1,
 z3 45 43 44,
 og 46 43 false (.bin .int .neq (.t 45) (.c (.int .i64 0))),
 y4 47 43 46,
 mv 48 47,
 z1 49 48 3 1,
 z3 50 48 49,
 og 51 48 false (.len .slice (.t 50)),
 og 52 48 false (.bin .int .neq (.t 51) (.c (.int .i64 2))),
 y4 53 48 52])
 (.cond (.t 53)
 (.seq
 (.reg [y6 2])
 .ret)
 .skip))
 (.seq
 (.reg [y6 2])
 .ret)))))))))
 (.seq
 (.seq
 (.reg [x2 54 3 1,
 x1 55 54,
 y1 56 55,
 x5 57 0])
 (.block 1
 (.loop
 (.seq
 (.reg [x9 58 57 56])
 (.seq
 (.cond (.t 58)
 .skip
 (.exit 1))
 (.seq
 (.block 2
 (.seq
 (.reg [x8 59 4 55 57,
 x4 60 4 59,
 oo 4 (.new 137 (.c (.agg [(.int .i64 0), (.int .i64 0), (.str ⟨#[]⟩), .nils]))),
 x3 4 4 60])
 (.seq
 (.reg [x4 61 4 4,
 y5 62 104 61,
 oo 63 (.not (.t 62))])
 (.cond (.t 63)
 (.seq
 (.reg [y6 2])
 .ret)
 .skip))))
 (.reg [x6 64 57 1,
 mv 57 64])))))))
 (.seq
 (.reg [oo 2 (.move (.c (.bool true)))])
 .ret))))
theorem ent104 : EntOK Tryz.prog 104 ⟨65, v104, [.slot 2]⟩ := fun args σ K ha h =>
 enter (own := List.range 65) Tryz.func104 (by kernel_rfl) (by kernel_rfl) (by kernel_rfl) ha h
def v105 : ACode :=
(.seq
 (.reg [y8 2 137 0,
 y9 4])
 (.seq
 (.seq
 (.reg [x2 7 0 2,
 x1 8 7,
 x7 9 8 1,
 mv 10 9,
 z6 11 10 1,
 z2 12 10 1 2,
 z4 13 10 12,
 og 14 10 true (.call 158 [(.t 11), (.t 13)]),
 og 15 10 true (.not (.t 14)),
 y7 16 10 15])
 (.cond (.t 16)
 (.reg [mv 17 1,
 x2 18 1 2,
 x1 19 18,
 z8 20 3 1 19,
 z7 21 3 1 8 17 20,
 mv 1 21])
 .skip))
 (.seq
 (.seq
 (.reg [x2 22 3 2,
 x1 23 22,
 y1 24 23,
 x5 25 0])
 (.block 0
 (.loop
 (.seq
 (.reg [x9 26 25 24])
 (.seq
 (.cond (.t 26)
 .skip
 (.exit 0))
 (.seq
 (.block 1
 (.seq
 (.reg [x8 27 4 23 25,
 x4 28 4 27,
 oo 6 (.new 137 (.c (.agg [(.int .i64 0), (.int .i64 0), (.str ⟨#[]⟩), .nils]))),
 x3 4 6 28])
 (.reg [x4 29 4 6,
 mv 30 1,
 y2 31 105 29 30,
 mv 1 31])))
 (.reg [x6 32 25 1,
 mv 25 32])))))))
 (.seq
 (.reg [mv 33 1,
 mv 4 33])
 .ret))))
theorem ent105 : EntOK Tryz.prog 105 ⟨34, v105, [.slot 4]⟩ := fun args σ K ha h =>
 enter (own := List.range 34) Tryz.func105 (by kernel_rfl) (by kernel_rfl) (by kernel_rfl) ha h
def v106 : ACode :=
(.seq
 (.reg [y6 4])
 (.seq
 (.seq
 (.reg [mv 7 0,
 y1 8 7,
 x5 9 0])
 (.block 0
 (.loop
 (.seq
 (.reg [x9 10 9 8])
 (.seq
 (.cond (.t 10)
 .skip
 (.exit 0))
 (.seq
 (.block 1
 (.seq
 (.reg [x8 11 5 7 9,
 x4 12 5 11,
 oo 6 (.new 113 (.c (.agg [(.str ⟨#[]⟩), .nils, .nils, (.int .i64 0), (.int .i64 0)]))),
 x3 5 6 12])
 (.seq
 (.reg [mv 13 1,
 x4 14 5 6,
 oo 15 (.callv (.t 13) [(.t 14)]),
 oo 16 (.not (.t 15))])
 (.cond (.t 16)
 (.seq
 (.reg [y6 4])
 .ret)
 .skip))))
 (.reg [x6 17 9 1,
 mv 9 17])))))))
 (.seq
 (.reg [oo 4 (.move (.c (.bool true)))])
 .ret)))
theorem ent106 : EntOK Tryz.prog 106 ⟨18, v106, [.slot 4]⟩ := fun args σ K ha h =>
 enter (own := List.range 18) Tryz.func106 (by kernel_rfl) (by kernel_rfl) (by kernel_rfl) ha h
def v108 : ACode :=
(.seq
 (.reg [y6 4])
 (.seq
 (.seq
 (.reg [mv 7 0,
 y1 8 7,
 x5 9 0])
 (.block 0
 (.loop
 (.seq
 (.reg [x9 10 9 8])
 (.seq
 (.cond (.t 10)
 .skip
 (.exit 0))
 (.seq
 (.block 1
 (.seq
 (.reg [x8 11 5 7 9,
 x4 12 5 11,
 oo 6 (.new 116 (.c (.agg [(.str ⟨#[]⟩), (.int .i64 0), (.int .i64 0), (.int .i64 0), (.int .i64 0)]))),
 x3 5 6 12])
 (.seq
 (.reg [mv 13 1,
 x4 14 5 6,
 oo 15 (.callv (.t 13) [(.t 14)]),
 oo 16 (.not (.t 15))])
 (.cond (.t 16)
 (.seq
 (.reg [y6 4])
 .ret)
 .skip))))
 (.reg [x6 17 9 1,
 mv 9 17])))))))
 (.seq
 (.reg [oo 4 (.move (.c (.bool true)))])
 .ret)))
theorem ent108 : EntOK Tryz.prog 108 ⟨18, v108, [.slot 4]⟩ := fun args σ K ha h =>
 enter (own := List.range 18) Tryz.func108 (by kernel_rfl) (by kernel_rfl) (by kernel_rfl) ha h
def v110 : ACode :=
(.seq
 (.reg [y6 2])
 (.seq
 (.seq
 (.reg [mv 7 0,
 y1 8 7,
 x5 9 0])
 (.block 0
 (.loop
 (.seq
 (.reg [x9 10 9 8])
 (.seq
 (.cond (.t 10)
 .skip
 (.exit 0))
 (.seq
 (.block 1
 (.seq
 (.reg [mv 11 9,
 x8 12 4 7 9,
 x4 13 4 12,
 oo 4 (.new 120 (.c (.agg [(.str ⟨#[]⟩), .nils, (.int .i64 0), (.int .i64 0)]))),
 mv 3 11,
 x3 4 4 13])
 (.seq
 (.seq
 (.reg [mv 14 3,
 oo 15 (.bin .int .gtr (.t 14) (.c (.int .i64 0))),
 mv 16 15,
 z6 17 16 0,
 z6 18 16 3,
 og 19 16 true (.bin .int .sub (.t 18) (.c (.int .i64 1))),
 og 20 16 true (.iaddr 4 (.t 17) (.t 19)),
 z2 21 16 0 20,
 z4 22 16 21,
 z2 23 16 0 4,
 z4 24 16 23,
 og 25 16 true (.bin .str .eql (.t 22) (.t 24)),
 y7 26 16 25,
 mv 27 26,
 z1 28 27 0 4,
 z3 29 27 28,
 og 30 27 false (.call 166 [(.t 29)]),
 og 31 27 false (.not (.t 30)),
 y4 32 27 31,
 mv 33 32,
 z1 34 33 1 4,
 z3 35 33 34,
 og 36 33 false (.len .slice (.t 35)),
 og 37 33 false (.bin .int .eql (.t 36) (.c (.int .i64 0))),
 y4 38 33 37])
 (.cond (.t 38)
 (.seq
 (.reg [y6 2])
 .ret)
 .skip))
 (.seq
 (.reg [x2 39 1 4,
 x1 40 39,
 y1 41 40,
 x5 42 0])
 (.block 2
 (.loop
 (.seq
 (.reg [x9 43 42 41])
 (.seq
 (.cond (.t 43)
 .skip
 (.exit 2))
 (.seq
 (.block 3
 (.seq
 (.reg [x8 44 2 40 42,
 x4 45 2 44,
 oo 6 (.new 124 q3),
 x3 2 6 45])
 (.seq
 (.reg [x2 46 0 6,
 x1 47 46,
 oo 48 (.call 167 [(.t 47), (.c (.fn (.func 168) [] []))]),
 oo 49 (.not (.t 48)),
 mv 50 49,
 z1 51 50 1 6,
 z3 52 50 51,
 og 53 50 false (.call 169 [(.t 52)]),
 og 54 50 false (.not (.t 53)),
 y4 55 50 54])
 (.cond (.t 55)
 (.seq
 (.reg [y6 2])
 .ret)
 .skip))))
 (.reg [x6 56 42 1,
 mv 42 56]))))))))))
 (.reg [x6 57 9 1,
 mv 9 57])))))))
 (.seq
 (.reg [oo 2 (.move (.c (.bool true)))])
 .ret)))
theorem ent110 : EntOK Tryz.prog 110 ⟨58, v110, [.slot 2]⟩ := fun args σ K ha h =>
 enter (own := List.range 58) Tryz.func110 (by kernel_rfl) (by kernel_rfl) (by kernel_rfl) ha h
def v111 : ACode :=
(.seq
 (.reg [mv 6 1,
 y1 7 6,
 x5 8 0])
 (.block 0
 (.loop
 (.seq
 (.reg [x9 9 8 7])
 (.seq
 (.cond (.t 9)
 .skip
 (.exit 0))
 (.seq
 (.block 1
 (.seq
 (.reg [x8 10 1 6 8,
 x1 11 10,
 mv 5 11])
 (.reg [mv 12 0,
 y3 13 12,
 x2 14 0 13,
 mv 15 5,
 y2 16 170 14 15])))
 (.reg [x6 17 8 1,
 mv 8 17])))))))
theorem ent111 : EntOK Tryz.prog 111 ⟨18, v111, []⟩ := fun args σ K ha h =>
 enter (own := List.range 18) Tryz.func111 (by kernel_rfl) (by kernel_rfl) (by kernel_rfl) ha h
def v115 : ACode :=
(.seq
 (.reg [oo 2 (.move (.c (.str ⟨#[]⟩)))])
 (.seq
 (.reg [mv 7 0,
 oo 8 (.conv .u64 (.t 7)),
 mv 3 8])
 (.seq
 (.seq
 (.reg [mv 9 0,
 oo 10 (.bin .int .lss (.t 9) (.c (.int .i64 0)))])
 (.cond (.t 10)
 (.reg [mv 11 3,
 oo 12 (.neg (.t 11)),
 mv 3 12])
 .skip))
 (.seq
 (.reg [y9 4])
 (.seq
 (.block 0
 (.loop
 (.seq
 (.seq
 (.reg [mv 13 3,
 oo 14 (.bin .int .gtr (.t 13) (.c (.int .u64 0))),
 mv 15 14,
 z5 16 15 4,
 og 17 15 false (.len .slice (.t 16)),
 og 18 15 false (.bin .int .eql (.t 17) (.c (.int .i64 0))),
 y4 19 15 18])
 (.cond (.t 19)
 .skip
 (.exit 0)))
 (.block 1
 (.seq
 (.reg [mv 20 4,
 mv 21 3,
 oo 22 (.bin .int .rem (.t 21) (.c (.int .u64 10))),
 oo 23 (.bin .int .add (.c (.int .u64 48)) (.t 22)),
 oo 24 (.conv .u8 (.t 23)),
 z8 25 5 1 24,
 z7 26 5 1 1 20 25,
 mv 4 26])
 (.reg [mv 27 3,
 oo 28 (.bin .int .quo (.t 27) (.c (.int .u64 10))),
 mv 3 28]))))))
 (.seq
 (.seq
 (.reg [mv 29 0,
 oo 30 (.bin .int .lss (.t 29) (.c (.int .i64 0)))])
 (.cond (.t 30)
 (.reg [mv 31 4,
 oo 32 (.lit true 5 1 [(.c (.int .u8 45))]),
 z7 33 5 1 1 31 32,
 mv 4 33])
 .skip))
 (.seq
 (.seq
 (.reg [mv 34 4,
 y1 35 34,
 oo 36 (.bin .int .sub (.t 35) (.c (.int .i64 1))),
 x5 5 0,
 mv 6 36])
 (.block 2
 (.loop
 (.seq
 (.seq
 (.reg [mv 37 5,
 mv 38 6,
 x9 39 37 38])
 (.cond (.t 39)
 .skip
 (.exit 2)))
 (.seq
 (.block 3
 (.reg [mv 44 4,
 mv 45 5,
 mv 46 4,
 mv 47 6,
 mv 48 4,
 mv 49 6,
 x8 50 1 48 49,
 x1 51 50,
 mv 52 4,
 mv 53 5,
 x8 54 1 52 53,
 x1 55 54,
 x8 56 1 44 45,
 x3 1 56 51,
 x8 57 1 46 47,
 x3 1 57 55]))
 (.reg [mv 40 5,
 x6 41 40 1,
 mv 42 6,
 oo 43 (.bin .int .sub (.t 42) (.c (.int .i64 1))),
 mv 5 41,
 mv 6 43]))))))
 (.seq
 (.reg [mv 58 4,
 oo 59 (.bstr (.t 58)),
 mv 2 59])
 .ret))))))))
theorem ent115 : EntOK Tryz.prog 115 ⟨60, v115, [.slot 2]⟩ := fun args σ K ha h =>
 enter (own := List.range 60) Tryz.func115 (by kernel_rfl) (by kernel_rfl) (by kernel_rfl) ha h
def v116 : ACode :=
(.seq
 (.reg [y8 2 143 0,
 y8 3 9 1])
 (.seq
 (.seq
 (.reg [x1 4 3,
 y5 5 173 4])
 (.cond (.t 5)
 (.seq
 (.reg [x1 6 2,
 oo 7 (.mkfn (.func 174) [] [(.t 2), (.t 3)]),
 y2 8 171 6 7])
 .ret)
 .skip))
 (.reg [x1 9 2,
 x1 10 3,
 z8 11 9 1 10,
 y2 12 111 9 11])))
theorem ent116 : EntOK Tryz.prog 116 ⟨13, v116, []⟩ := fun args σ K ha h =>
 enter (own := List.range 13) Tryz.func116 (by kernel_rfl) (by kernel_rfl) (by kernel_rfl) ha h
def v117 : ACode :=
(.seq
 (.reg [y8 2 143 0])
 (.seq
 (.reg [mv 6 1,
 y1 7 6,
 x5 8 0])
 (.block 0
 (.loop
 (.seq
 (.reg [x9 9 8 7])
 (.seq
 (.cond (.t 9)
 .skip
 (.exit 0))
 (.seq
 (.block 1
 (.seq
 (.reg [x8 10 6 6 8,
 x4 11 6 10,
 oo 5 (.new 187 (.c (.agg [(.int .i64 0), (.str ⟨#[]⟩), (.int .i64 0), .nils, (.int .i64 0), (.int .i64 0)]))),
 x3 6 5 11])
 (.seq
 (.reg [x1 12 2,
 oo 13 (.lit true 9 1 [(.c (.str ⟨#[32]⟩))]),
 y2 14 111 12 13])
 (.seq
 (.reg [x2 15 3 5,
 x1 16 15,
 y1 17 16,
 oo 18 (.bin .int .gtr (.t 17) (.c (.int .i64 0)))])
 (.cond (.t 18)
 (.reg [x1 19 2,
 oo 20 (.mkfn (.func 175) [] [(.t 2), (.t 5)]),
 y2 21 171 19 20])
 (.reg [x1 22 2,
 x4 23 6 5,
 y2 24 176 22 23]))))))
 (.reg [x6 25 8 1,
 mv 8 25]))))))))
theorem ent117 : EntOK Tryz.prog 117 ⟨26, v117, []⟩ := fun args σ K ha h =>
 enter (own := List.range 26) Tryz.func117 (by kernel_rfl) (by kernel_rfl) (by kernel_rfl) ha h
def v118 : ACode :=
(.seq
 (.reg [mv 8 1,
 y1 9 8,
 x5 10 0])
 (.block 0
 (.loop
 (.seq
 (.reg [x9 11 10 9])
 (.seq
 (.cond (.t 11)
 .skip
 (.exit 0))
 (.seq
 (.block 1
 (.seq
 (.reg [x8 12 10 8 10,
 x4 13 10 12,
 oo 7 (.new 195 (.c (.agg [.nils, (.int .i64 0), (.str ⟨#[]⟩), (.int .i64 0), .nils, .nils, .nils, .nils, (.int .i64 0), (.int .i64 0)]))),
 x3 10 7 13])
 (.seq
 (.seq
 (.reg [x2 14 0 7,
 x1 15 14,
 y1 16 15,
 oo 17 (.bin .int .gtr (.t 16) (.c (.int .i64 0)))])
 (.cond (.t 17)
 (.seq
 (.reg [mv 18 0,
 oo 19 (.lit true 9 1 [(.c (.str ⟨#[32, 124, 32]⟩))]),
 y2 20 111 18 19])
 (.reg [mv 21 0,
 x2 22 0 7,
 x1 23 22,
 oo 24 (.iaddr 9 (.t 23) (.c (.int .i64 0))),
 x4 25 9 24,
 y2 26 177 21 25]))
 .skip))
 (.seq
 (.reg [mv 27 0,
 mv 28 2,
 z8 29 9 1 28,
 y2 30 111 27 29])
 (.reg [mv 31 0,
 x2 32 1 7,
 x4 33 9 32,
 y2 34 177 31 33])))))
 (.reg [x6 35 10 1,
 mv 10 35])))))))
theorem ent118 : EntOK Tryz.prog 118 ⟨36, v118, []⟩ := fun args σ K ha h =>
 enter (own := List.range 36) Tryz.func118 (by kernel_rfl) (by kernel_rfl) (by kernel_rfl) ha h
def v119 : ACode :=
(.seq
 (.reg [y8 5 49 1])
 (.reg [x1 6 2,
 x1 7 3,
 y3 8 7,
 x2 9 1 8,
 x1 10 9,
 oo 11 (.bin .int .sub (.t 10) (.c (.int .i64 1))),
 mv 12 0,
 x4 13 3 5,
 oo 14 (.build [(.int .i64 0), (.int .i64 0), .nils, .nils, .nils] [(0, 1, (.t 11)), (1, 1, (.t 12)), (2, 3, (.t 13))]),
 oo 15 (.callv (.t 6) [(.t 14)])]))
theorem ent119 : EntOK Tryz.prog 119 ⟨16, v119, []⟩ := fun args σ K ha h =>
 enter (own := List.range 16) Tryz.func119 (by kernel_rfl) (by kernel_rfl) (by kernel_rfl) ha h
def v120 : ACode :=
(.seq
 (.reg [y8 3 49 1])
 (.reg [mv 4 0,
 x2 5 2 3,
 x1 6 5,
 oo 7 (.mkfn (.func 179) [] [(.t 3)]),
 oo 8 (.call 178 [(.t 4), (.t 6), (.t 7)])]))
theorem ent120 : EntOK Tryz.prog 120 ⟨9, v120, []⟩ := fun args σ K ha h =>
 enter (own := List.range 9) Tryz.func120 (by kernel_rfl) (by kernel_rfl) (by kernel_rfl) ha h
end Go.Proofs.YtgjcnkcepdoedaaGreat

/- A part of the proof of the claim: the abstract layer, the contracts of the functions, the law (no condition of its own). -/
import Derived.Test.YtojfdejpoideaaaGreatV1
set_option linter.unusedVariables false
namespace Go.Proofs.YtojfdejpoideaaaGreat
open Go.AL
def v75 : ACode :=
(.seq
 (.reg [oo 4 (.new 28 (.t 1)),
 oo 6 (.move (.c (.bool false)))])
 (.seq
 (.reg [oo 15 (.faddr 0 (.t 4)),
 oo 16 (.load none (.t 15)),
 oo 17 (.bin .int .eql (.t 16) (.c (.int .i64 1))),
 mv 18 17,
 og 19 18 false (.faddr 0 (.t 4)),
 og 20 18 false (.load none (.t 19)),
 og 21 18 false (.bin .int .eql (.t 20) (.c (.int .i64 2))),
 oo 22 (.pick (.t 18) (.c (.bool true)) (.t 21)),
 mv 23 22,
 og 24 23 false (.faddr 0 (.t 4)),
 og 25 23 false (.load none (.t 24)),
 og 26 23 false (.bin .int .eql (.t 25) (.c (.int .i64 4))),
 oo 27 (.pick (.t 23) (.c (.bool true)) (.t 26)),
 mv 7 27])
 (.seq
 (.reg [oo 28 (.faddr 0 (.t 4)),
 oo 29 (.load none (.t 28)),
 oo 30 (.bin .int .eql (.t 29) (.c (.int .i64 3))),
 mv 31 30,
 og 32 31 false (.faddr 0 (.t 4)),
 og 33 31 false (.load none (.t 32)),
 og 34 31 false (.bin .int .eql (.t 33) (.c (.int .i64 4))),
 oo 35 (.pick (.t 31) (.c (.bool true)) (.t 34)),
 mv 36 35,
 og 37 36 false (.faddr 0 (.t 4)),
 og 38 36 false (.load none (.t 37)),
 og 39 36 false (.bin .int .eql (.t 38) (.c (.int .i64 9))),
 oo 40 (.pick (.t 36) (.c (.bool true)) (.t 39)),
 mv 8 40])
 (.seq
 (.seq
 (.reg [mv 41 7,
 oo 42 (.not (.t 41)),
 mv 43 42,
 og 44 43 true (.faddr 1 (.t 4)),
 og 45 43 true (.load none (.t 44)),
 og 46 43 true (.bin .str .neq (.t 45) (.c (.str ⟨#[]⟩))),
 oo 47 (.pick (.t 43) (.t 46) (.c (.bool false))),
 mv 48 47,
 og 49 48 false (.move (.t 8)),
 og 50 48 false (.not (.t 49)),
 og 51 48 false (.move (.t 50)),
 og 52 51 true (.faddr 2 (.t 4)),
 og 53 51 true (.load none (.t 52)),
 og 54 51 true (.bin .int .neq (.t 53) (.c (.int .i64 0))),
 og 55 48 false (.pick (.t 51) (.t 54) (.c (.bool false))),
 oo 56 (.pick (.t 48) (.c (.bool true)) (.t 55)),
 mv 57 56,
 og 58 57 false (.faddr 0 (.t 4)),
 og 59 57 false (.load none (.t 58)),
 og 60 57 false (.bin .int .neq (.t 59) (.c (.int .i64 4))),
 og 61 57 false (.move (.t 60)),
 og 62 61 true (.faddr 3 (.t 4)),
 og 63 61 true (.load none (.t 62)),
 og 64 61 true (.bin .int .neq (.t 63) (.c (.int .i64 0))),
 og 65 57 false (.pick (.t 61) (.t 64) (.c (.bool false))),
 oo 66 (.pick (.t 57) (.c (.bool true)) (.t 65))])
 (.cond (.t 66)
 (.seq
 (.reg [oo 6 (.move (.c (.bool false)))])
 .ret)
 .skip))
 (.seq
 (.reg [oo 67 (.faddr 4 (.t 4)),
 oo 68 (.load none (.t 67)),
 oo 69 (.len .slice (.t 68)),
 oo 70 (.faddr 5 (.t 4)),
 oo 71 (.load none (.t 70)),
 oo 72 (.len .slice (.t 71)),
 oo 73 (.faddr 6 (.t 4)),
 oo 74 (.load none (.t 73)),
 oo 75 (.len .slice (.t 74)),
 oo 76 (.faddr 7 (.t 4)),
 oo 77 (.load none (.t 76)),
 oo 78 (.len .slice (.t 77)),
 oo 79 (.faddr 8 (.t 4)),
 oo 80 (.load none (.t 79)),
 oo 81 (.len .slice (.t 80)),
 oo 82 (.build [(.int .i64 0), (.int .i64 0), (.int .i64 0), (.int .i64 0), (.int .i64 0)] [(0, 1, (.t 69)), (1, 1, (.t 72)), (2, 1, (.t 75)), (3, 1, (.t 78)), (4, 1, (.t 81))]),
 oo 9 (.new 258 (.c (.agg [(.int .i64 0), (.int .i64 0), (.int .i64 0), (.int .i64 0), (.int .i64 0)]))),
 ⟨none, .store 5 (.t 9) (.t 82), none⟩])
 (.seq
 (.reg [mv 83 2,
 mv 10 83])
 (.seq
 (.seq
 (.reg [oo 84 (.faddr 0 (.t 4)),
 oo 85 (.load none (.t 84))])
 (.block 0
 (.seq
 (.reg [oo 87 (.bin .int .eql (.t 85) (.c (.int .i64 1))),
 mv 86 87])
 (.cond (.t 86)
 (.seq
 (.reg [oo 88 (.load (some 5) (.t 9)),
 oo 89 (.build [(.int .i64 0), (.int .i64 0), (.int .i64 0), (.int .i64 0), (.int .i64 0)] []),
 oo 90 (.bin (.row [.int, .int, .int, .int, .int]) .eql (.t 88) (.t 89)),
 mv 91 90,
 og 92 91 true (.move (.t 2)),
 og 93 91 true (.faddr 1 (.t 4)),
 og 94 91 true (.load none (.t 93)),
 og 95 91 true (.call 72 [(.t 92), (.t 94)]),
 oo 96 (.pick (.t 91) (.t 95) (.c (.bool false))),
 mv 6 96])
 .ret)
 (.seq
 (.reg [oo 98 (.bin .int .eql (.t 85) (.c (.int .i64 2))),
 mv 97 98])
 (.cond (.t 97)
 (.seq
 (.reg [oo 99 (.load (some 5) (.t 9)),
 oo 100 (.build [(.int .i64 0), (.int .i64 0), (.int .i64 0), (.int .i64 0), (.int .i64 0)] []),
 oo 101 (.bin (.row [.int, .int, .int, .int, .int]) .eql (.t 99) (.t 100)),
 mv 102 101,
 og 103 102 true (.move (.t 0)),
 og 104 102 true (.nilck (.t 103)),
 og 105 102 true (.faddr 0 (.t 104)),
 og 106 102 true (.load none (.t 105)),
 og 107 102 true (.faddr 1 (.t 4)),
 og 108 102 true (.load none (.t 107)),
 og 109 102 true (.call 72 [(.t 106), (.t 108)]),
 og 110 102 true (.move (.t 109)),
 og 111 110 false (.faddr 1 (.t 4)),
 og 112 110 false (.load none (.t 111)),
 og 113 110 false (.call 71 [(.t 112)]),
 og 114 110 false (.bin .int .gtr (.t 113) (.c (.int .i64 0))),
 og 115 102 true (.pick (.t 110) (.c (.bool true)) (.t 114)),
 oo 116 (.pick (.t 102) (.t 115) (.c (.bool false))),
 mv 6 116])
 .ret)
 (.seq
 (.seq
 (.reg [oo 118 (.bin .int .eql (.t 85) (.c (.int .i64 3))),
 mv 117 118])
 (.cond (.t 117)
 .skip
 (.reg [oo 119 (.bin .int .eql (.t 85) (.c (.int .i64 10))),
 mv 117 119])))
 (.cond (.t 117)
 (.seq
 (.reg [oo 120 (.load (some 5) (.t 9)),
 oo 121 (.build [(.int .i64 0), (.int .i64 0), (.int .i64 0), (.int .i64 0), (.int .i64 0)] []),
 oo 122 (.bin (.row [.int, .int, .int, .int, .int]) .eql (.t 120) (.t 121)),
 mv 6 122])
 .ret)
 (.seq
 (.reg [oo 124 (.bin .int .eql (.t 85) (.c (.int .i64 4))),
 mv 123 124])
 (.cond (.t 123)
 (.seq
 (.reg [oo 125 (.load (some 5) (.t 9)),
 oo 126 (.build [(.int .i64 0), (.int .i64 0), (.int .i64 0), (.int .i64 0), (.int .i64 0)] []),
 oo 127 (.bin (.row [.int, .int, .int, .int, .int]) .eql (.t 125) (.t 126)),
 mv 128 127,
 og 129 128 true (.faddr 1 (.t 4)),
 og 130 128 true (.load none (.t 129)),
 og 131 128 true (.bin .str .neq (.t 130) (.c (.str ⟨#[]⟩))),
 oo 132 (.pick (.t 128) (.t 131) (.c (.bool false))),
 mv 133 132,
 og 134 133 true (.faddr 2 (.t 4)),
 og 135 133 true (.load none (.t 134)),
 og 136 133 true (.bin .int .geq (.t 135) (.c (.int .i64 0))),
 oo 137 (.pick (.t 133) (.t 136) (.c (.bool false))),
 mv 138 137,
 og 139 138 true (.faddr 3 (.t 4)),
 og 140 138 true (.load none (.t 139)),
 og 141 138 true (.bin .int .geq (.t 140) (.c (.int .i64 0))),
 oo 142 (.pick (.t 138) (.t 141) (.c (.bool false))),
 mv 6 142])
 .ret)
 (.seq
 (.reg [oo 144 (.bin .int .eql (.t 85) (.c (.int .i64 5))),
 mv 143 144])
 (.cond (.t 143)
 (.seq
 (.reg [oo 145 (.load (some 5) (.t 9)),
 oo 146 (.build [(.int .i64 0), (.int .i64 0), (.int .i64 0), (.int .i64 0), (.int .i64 0)] [(1, 1, (.c (.int .i64 2)))]),
 oo 147 (.bin (.row [.int, .int, .int, .int, .int]) .neq (.t 145) (.t 146))])
 (.cond (.t 147)
 (.seq
 (.reg [oo 6 (.move (.c (.bool false)))])
 .ret)
 .skip))
 (.seq
 (.reg [oo 149 (.bin .int .eql (.t 85) (.c (.int .i64 9))),
 mv 148 149])
 (.cond (.t 148)
 (.seq
 (.reg [oo 150 (.load (some 5) (.t 9)),
 oo 151 (.build [(.int .i64 0), (.int .i64 0), (.int .i64 0), (.int .i64 0), (.int .i64 0)] [(1, 1, (.c (.int .i64 2)))]),
 oo 152 (.bin (.row [.int, .int, .int, .int, .int]) .neq (.t 150) (.t 151)),
 mv 153 152,
 og 154 153 false (.faddr 2 (.t 4)),
 og 155 153 false (.load none (.t 154)),
 og 156 153 false (.bin .int .lss (.t 155) (.c (.int .i64 1))),
 oo 157 (.pick (.t 153) (.c (.bool true)) (.t 156)),
 mv 158 157,
 og 159 158 false (.faddr 2 (.t 4)),
 og 160 158 false (.load none (.t 159)),
 og 161 158 false (.bin .int .gtr (.t 160) (.c (.int .i64 11))),
 oo 162 (.pick (.t 158) (.c (.bool true)) (.t 161))])
 (.cond (.t 162)
 (.seq
 (.reg [oo 6 (.move (.c (.bool false)))])
 .ret)
 .skip))
 (.seq
 (.reg [oo 164 (.bin .int .eql (.t 85) (.c (.int .i64 6))),
 mv 163 164])
 (.cond (.t 163)
 (.seq
 (.seq
 (.reg [oo 165 (.load (some 5) (.t 9)),
 oo 166 (.faddr 0 (.t 9)),
 oo 167 (.load none (.t 166)),
 oo 168 (.build [(.int .i64 0), (.int .i64 0), (.int .i64 0), (.int .i64 0), (.int .i64 0)] [(0, 1, (.t 167)), (1, 1, (.c (.int .i64 1)))]),
 oo 169 (.bin (.row [.int, .int, .int, .int, .int]) .neq (.t 165) (.t 168)),
 mv 170 169,
 og 171 170 false (.faddr 0 (.t 9)),
 og 172 170 false (.load none (.t 171)),
 og 173 170 false (.bin .int .eql (.t 172) (.c (.int .i64 0))),
 oo 174 (.pick (.t 170) (.c (.bool true)) (.t 173)),
 mv 175 174,
 og 176 175 false (.faddr 4 (.t 4)),
 og 177 175 false (.load none (.t 176)),
 og 178 175 false (.call 73 [(.t 177)]),
 og 179 175 false (.not (.t 178)),
 oo 180 (.pick (.t 175) (.c (.bool true)) (.t 179))])
 (.cond (.t 180)
 (.seq
 (.reg [oo 6 (.move (.c (.bool false)))])
 .ret)
 .skip))
 (.reg [mv 181 2,
 oo 182 (.faddr 4 (.t 4)),
 oo 183 (.load none (.t 182)),
 oo 184 (.call 126 [(.t 181), (.t 183)]),
 mv 10 184]))
 (.seq
 (.reg [oo 186 (.bin .int .eql (.t 85) (.c (.int .i64 7))),
 mv 185 186])
 (.cond (.t 185)
 (.seq
 (.seq
 (.reg [oo 187 (.load (some 5) (.t 9)),
 oo 188 (.faddr 3 (.t 9)),
 oo 189 (.load none (.t 188)),
 oo 190 (.build [(.int .i64 0), (.int .i64 0), (.int .i64 0), (.int .i64 0), (.int .i64 0)] [(1, 1, (.c (.int .i64 1))), (3, 1, (.t 189))]),
 oo 191 (.bin (.row [.int, .int, .int, .int, .int]) .neq (.t 187) (.t 190)),
 mv 192 191,
 og 193 192 false (.faddr 3 (.t 9)),
 og 194 192 false (.load none (.t 193)),
 og 195 192 false (.bin .int .eql (.t 194) (.c (.int .i64 0))),
 oo 196 (.pick (.t 192) (.c (.bool true)) (.t 195)),
 mv 197 196,
 og 198 197 false (.faddr 7 (.t 4)),
 og 199 197 false (.load none (.t 198)),
 og 200 197 false (.call 127 [(.t 199)]),
 og 201 197 false (.call 73 [(.t 200)]),
 og 202 197 false (.not (.t 201)),
 oo 203 (.pick (.t 197) (.c (.bool true)) (.t 202))])
 (.cond (.t 203)
 (.seq
 (.reg [oo 6 (.move (.c (.bool false)))])
 .ret)
 .skip))
 (.reg [mv 204 2,
 oo 205 (.faddr 7 (.t 4)),
 oo 206 (.load none (.t 205)),
 oo 207 (.call 127 [(.t 206)]),
 oo 208 (.call 126 [(.t 204), (.t 207)]),
 mv 10 208]))
 (.seq
 (.reg [oo 210 (.bin .int .eql (.t 85) (.c (.int .i64 8))),
 mv 209 210])
 (.cond (.t 209)
 (.seq
 (.reg [oo 211 (.load (some 5) (.t 9)),
 oo 212 (.faddr 2 (.t 9)),
 oo 213 (.load none (.t 212)),
 oo 214 (.build [(.int .i64 0), (.int .i64 0), (.int .i64 0), (.int .i64 0), (.int .i64 0)] [(1, 1, (.c (.int .i64 1))), (2, 1, (.t 213))]),
 oo 215 (.bin (.row [.int, .int, .int, .int, .int]) .neq (.t 211) (.t 214)),
 mv 216 215,
 og 217 216 false (.move (.t 0)),
 og 218 216 false (.faddr 6 (.t 4)),
 og 219 216 false (.load none (.t 218)),
 og 220 216 false (.move (.t 2)),
 og 221 216 false (.call 128 [(.t 217), (.t 219), (.t 220)]),
 og 222 216 false (.not (.t 221)),
 oo 223 (.pick (.t 216) (.c (.bool true)) (.t 222))])
 (.cond (.t 223)
 (.seq
 (.reg [oo 6 (.move (.c (.bool false)))])
 .ret)
 .skip))
 (.seq
 (.reg [oo 225 (.bin .int .eql (.t 85) (.c (.int .i64 11))),
 mv 224 225])
 (.cond (.t 224)
 (.seq
 (.reg [oo 226 (.load (some 5) (.t 9)),
 oo 227 (.faddr 4 (.t 9)),
 oo 228 (.load none (.t 227)),
 oo 229 (.build [(.int .i64 0), (.int .i64 0), (.int .i64 0), (.int .i64 0), (.int .i64 0)] [(1, 1, (.c (.int .i64 1))), (4, 1, (.t 228))]),
 oo 230 (.bin (.row [.int, .int, .int, .int, .int]) .neq (.t 226) (.t 229)),
 mv 231 230,
 og 232 231 false (.move (.t 0)),
 og 233 231 false (.faddr 8 (.t 4)),
 og 234 231 false (.load none (.t 233)),
 og 235 231 false (.move (.t 2)),
 og 236 231 false (.call 129 [(.t 232), (.t 234), (.t 235)]),
 og 237 231 false (.not (.t 236)),
 oo 238 (.pick (.t 231) (.c (.bool true)) (.t 237))])
 (.cond (.t 238)
 (.seq
 (.reg [oo 6 (.move (.c (.bool false)))])
 .ret)
 .skip))
 (.seq
 (.reg [oo 6 (.move (.c (.bool false)))])
 .ret)))))))))))))))))))))))
 (.seq
 (.seq
 (.reg [oo 239 (.faddr 5 (.t 4)),
 oo 240 (.load none (.t 239)),
 oo 241 (.len .slice (.t 240)),
 oo 242 (.move (.c (.int .i64 0)))])
 (.block 1
 (.loop
 (.seq
 (.reg [oo 243 (.bin .int .lss (.t 242) (.t 241))])
 (.seq
 (.cond (.t 243)
 .skip
 (.exit 1))
 (.seq
 (.block 2
 (.seq
 (.reg [oo 244 (.iaddr 9 (.t 240) (.t 242)),
 oo 245 (.load (some 9) (.t 244)),
 oo 12 (.new 28 (.c (.agg [(.int .i64 0), (.str ⟨#[]⟩), (.int .i64 0), (.int .i64 0), .nils, .nils, .nils, .nils, .nils]))),
 ⟨none, .store 9 (.t 12) (.t 245), none⟩])
 (.seq
 (.reg [mv 246 0,
 oo 247 (.load (some 9) (.t 12)),
 mv 248 10,
 oo 249 (.call 75 [(.t 246), (.t 247), (.t 248)]),
 oo 250 (.not (.t 249))])
 (.cond (.t 250)
 (.seq
 (.reg [oo 6 (.move (.c (.bool false)))])
 .ret)
 .skip))))
 (.reg [oo 251 (.bin .int .add (.t 242) (.c (.int .i64 1))),
 mv 242 251])))))))
 (.seq
 (.seq
 (.reg [oo 252 (.faddr 7 (.t 4)),
 oo 253 (.load none (.t 252)),
 oo 254 (.len .slice (.t 253)),
 oo 255 (.move (.c (.int .i64 0)))])
 (.block 3
 (.loop
 (.seq
 (.reg [oo 256 (.bin .int .lss (.t 255) (.t 254))])
 (.seq
 (.cond (.t 256)
 .skip
 (.exit 3))
 (.seq
 (.block 4
 (.seq
 (.reg [oo 257 (.iaddr 10 (.t 253) (.t 255)),
 oo 258 (.load (some 10) (.t 257)),
 oo 14 (.new 191 (.c (.agg [(.str ⟨#[]⟩), (.int .i64 0), (.str ⟨#[]⟩), (.int .i64 0), (.int .i64 0), .nils, .nils, .nils, .nils, .nils]))),
 ⟨none, .store 10 (.t 14) (.t 258), none⟩])
 (.seq
 (.reg [mv 259 0,
 oo 260 (.faddr 1 (.t 14)),
 oo 261 (.load (some 9) (.t 260)),
 mv 262 10,
 oo 263 (.call 75 [(.t 259), (.t 261), (.t 262)]),
 oo 264 (.not (.t 263))])
 (.cond (.t 264)
 (.seq
 (.reg [oo 6 (.move (.c (.bool false)))])
 .ret)
 .skip))))
 (.reg [oo 265 (.bin .int .add (.t 255) (.c (.int .i64 1))),
 mv 255 265])))))))
 (.seq
 (.reg [oo 6 (.move (.c (.bool true)))])
 .ret))))))))))
theorem ent75 : EntOK Tryz.prog 75 ⟨266, v75, [.slot 6]⟩ := fun args σ K ha h =>
 enter (own := List.range 266) Tryz.func75 (by kernel_rfl) (by kernel_rfl) (by kernel_rfl) ha h
def v76 : ACode :=
(.seq
 (.reg [oo 6 (.move (.c (.bool false)))])
 (.seq
 (.reg [mv 10 0,
 oo 11 (.nilck (.t 10)),
 oo 12 (.faddr 1 (.t 11)),
 oo 13 (.load none (.t 12)),
 mv 14 1,
 oo 15 (.lookup .str (.int .i64 0) true (.t 13) (.t 14)),
 mv 9 15,
 oo 16 (.extract (.t 9) 0),
 oo 17 (.extract (.t 9) 1),
 mv 7 16,
 mv 8 17])
 (.seq
 (.reg [mv 18 8,
 mv 19 18,
 og 20 19 true (.move (.t 0)),
 og 21 19 true (.nilck (.t 20)),
 og 22 19 true (.faddr 2 (.t 21)),
 og 23 19 true (.load none (.t 22)),
 og 24 19 true (.move (.t 7)),
 og 25 19 true (.iaddr 1 (.t 23) (.t 24)),
 og 26 19 true (.load none (.t 25)),
 og 27 19 true (.move (.t 2)),
 og 28 19 true (.bin .int .eql (.t 26) (.t 27)),
 oo 29 (.pick (.t 19) (.t 28) (.c (.bool false))),
 mv 6 29])
 .ret)))
theorem ent76 : EntOK Tryz.prog 76 ⟨30, v76, [.slot 6]⟩ := fun args σ K ha h =>
 enter (own := List.range 30) Tryz.func76 (by kernel_rfl) (by kernel_rfl) (by kernel_rfl) ha h
def v77 : ACode :=
(.seq
 (.reg [oo 4 (.move (.c (.int .i64 0)))])
 (.seq
 (.seq
 (.reg [mv 6 0,
 oo 7 (.len .slice (.t 6)),
 oo 8 (.bin .int .sub (.t 7) (.c (.int .i64 1))),
 mv 5 8])
 (.block 0
 (.loop
 (.seq
 (.seq
 (.reg [mv 9 5,
 oo 10 (.bin .int .geq (.t 9) (.c (.int .i64 0)))])
 (.cond (.t 10)
 .skip
 (.exit 0)))
 (.seq
 (.block 1
 (.seq
 (.reg [mv 13 0,
 mv 14 5,
 oo 15 (.iaddr 2 (.t 13) (.t 14)),
 oo 16 (.faddr 0 (.t 15)),
 oo 17 (.load none (.t 16)),
 mv 18 1,
 oo 19 (.bin .str .eql (.t 17) (.t 18))])
 (.cond (.t 19)
 (.seq
 (.reg [mv 20 0,
 mv 21 5,
 oo 22 (.iaddr 2 (.t 20) (.t 21)),
 oo 23 (.faddr 1 (.t 22)),
 oo 24 (.load none (.t 23)),
 mv 4 24])
 .ret)
 .skip)))
 (.reg [mv 11 5,
 oo 12 (.bin .int .sub (.t 11) (.c (.int .i64 1))),
 mv 5 12]))))))
 (.seq
 (.reg [oo 4 (.move (.c (.int .i64 0)))])
 .ret)))
theorem ent77 : EntOK Tryz.prog 77 ⟨25, v77, [.slot 4]⟩ := fun args σ K ha h =>
 enter (own := List.range 25) Tryz.func77 (by kernel_rfl) (by kernel_rfl) (by kernel_rfl) ha h
def v78 : ACode :=
(.seq
 (.reg [oo 4 (.move (.c (.int .i64 0)))])
 (.seq
 (.seq
 (.reg [mv 8 0,
 oo 9 (.nilck (.t 8)),
 oo 10 (.faddr 0 (.t 9)),
 oo 11 (.load none (.t 10)),
 oo 12 (.nilck (.t 11)),
 oo 13 (.faddr 0 (.t 12)),
 oo 14 (.load none (.t 13)),
 mv 15 1,
 oo 16 (.lookup .str (.int .i64 0) true (.t 14) (.t 15)),
 mv 7 16,
 oo 17 (.extract (.t 7) 0),
 oo 18 (.extract (.t 7) 1),
 mv 5 17,
 mv 6 18])
 (.seq
 (.reg [mv 19 6])
 (.cond (.t 19)
 (.seq
 (.reg [mv 20 5,
 mv 4 20])
 .ret)
 .skip)))
 (.seq
 (.reg [mv 21 0,
 mv 22 1,
 oo 23 (.call 71 [(.t 22)]),
 oo 24 (.call 80 [(.t 21), (.t 23)]),
 mv 4 24])
 .ret)))
theorem ent78 : EntOK Tryz.prog 78 ⟨25, v78, [.slot 4]⟩ := fun args σ K ha h =>
 enter (own := List.range 25) Tryz.func78 (by kernel_rfl) (by kernel_rfl) (by kernel_rfl) ha h
def v79 : ACode :=
(.reg [mv 6 0,
 mv 7 0,
 oo 8 (.nilck (.t 7)),
 oo 9 (.faddr 1 (.t 8)),
 oo 10 (.load none (.t 9)),
 mv 11 1,
 mv 12 2,
 oo 13 (.build [(.int .i64 0), (.int .i64 0), (.int .i64 0), .nils] [(0, 1, (.t 11)), (2, 1, (.t 12))]),
 oo 14 (.lit true 122 4 [(.t 13)]),
 oo 15 (.append 122 4 48 (.t 10) (.t 14)),
 oo 16 (.nilck (.t 6)),
 oo 17 (.faddr 1 (.t 16)),
 ⟨none, .store 1 (.t 17) (.t 15), none⟩])
theorem ent79 : EntOK Tryz.prog 79 ⟨18, v79, []⟩ := fun args σ K ha h =>
 enter (own := List.range 18) Tryz.func79 (by kernel_rfl) (by kernel_rfl) (by kernel_rfl) ha h
def v82 : ACode :=
(.seq
 (.reg [oo 4 (.move (.c (.bool false)))])
 (.seq
 (.reg [mv 5 1,
 oo 6 (.bin .int .geq (.t 5) (.c (.int .i64 0))),
 mv 7 6,
 og 8 7 true (.move (.t 1)),
 og 9 7 true (.move (.t 0)),
 og 10 7 true (.nilck (.t 9)),
 og 11 7 true (.faddr 1 (.t 10)),
 og 12 7 true (.load none (.t 11)),
 og 13 7 true (.len .slice (.t 12)),
 og 14 7 true (.bin .int .lss (.t 8) (.t 13)),
 oo 15 (.pick (.t 7) (.t 14) (.c (.bool false))),
 mv 16 15,
 og 17 16 true (.move (.t 0)),
 og 18 16 true (.nilck (.t 17)),
 og 19 16 true (.faddr 1 (.t 18)),
 og 20 16 true (.load none (.t 19)),
 og 21 16 true (.move (.t 1)),
 og 22 16 true (.iaddr 5 (.t 20) (.t 21)),
 og 23 16 true (.faddr 3 (.t 22)),
 og 24 16 true (.load none (.t 23)),
 oo 25 (.pick (.t 16) (.t 24) (.c (.bool false))),
 mv 4 25])
 .ret))
theorem ent82 : EntOK Tryz.prog 82 ⟨26, v82, [.slot 4]⟩ := fun args σ K ha h =>
 enter (own := List.range 26) Tryz.func82 (by kernel_rfl) (by kernel_rfl) (by kernel_rfl) ha h
def v83 : ACode :=
(.seq
 (.reg [oo 4 (.new 77 (.c (.agg [(.int .i64 0), (.int .i64 0), .nils]))),
 oo 5 (.move (.c (.bool false)))])
 (.seq
 (.seq
 (.reg [mv 6 0,
 oo 7 (.call 38 [(.t 6)]),
 oo 8 (.not (.t 7)),
 mv 9 8,
 og 10 9 false (.move (.t 0)),
 og 11 9 false (.move (.t 1)),
 og 12 9 false (.call 82 [(.t 10), (.t 11)]),
 og 13 9 false (.not (.t 12)),
 oo 14 (.pick (.t 9) (.c (.bool true)) (.t 13))])
 (.cond (.t 14)
 (.seq
 (.reg [oo 15 (.build [(.int .i64 0), (.int .i64 0), .nils] []),
 ⟨none, .store 3 (.t 4) (.t 15), none⟩,
 oo 5 (.move (.c (.bool false)))])
 .ret)
 .skip))
 (.seq
 (.reg [mv 16 0,
 oo 17 (.nilck (.t 16)),
 oo 18 (.faddr 1 (.t 17)),
 oo 19 (.load none (.t 18)),
 mv 20 1,
 oo 21 (.iaddr 5 (.t 19) (.t 20)),
 oo 22 (.faddr 0 (.t 21)),
 oo 23 (.load (some 3) (.t 22)),
 oo 24 (.call 40 [(.t 23)]),
 ⟨none, .store 3 (.t 4) (.t 24), none⟩,
 oo 5 (.move (.c (.bool true)))])
 .ret)))
theorem ent83 : EntOK Tryz.prog 83 ⟨25, v83, [.cell 4 (some 3), .slot 5]⟩ := fun args σ K ha h =>
 enter (own := List.range 25) Tryz.func83 (by kernel_rfl) (by kernel_rfl) (by kernel_rfl) ha h
def v84 : ACode :=
(.seq
 (.reg [oo 2 (.move (.c (.bool false)))])
 (.seq
 (.seq
 (.reg [mv 3 0,
 oo 4 (.nilck (.t 3)),
 oo 5 (.faddr 12 (.t 4)),
 oo 6 (.load none (.t 5)),
 oo 7 (.len .slice (.t 6)),
 mv 8 0,
 oo 9 (.nilck (.t 8)),
 oo 10 (.faddr 13 (.t 9)),
 oo 11 (.load none (.t 10)),
 oo 12 (.len .slice (.t 11)),
 oo 13 (.bin .int .add (.t 7) (.t 12)),
 mv 14 0,
 oo 15 (.nilck (.t 14)),
 oo 16 (.faddr 6 (.t 15)),
 oo 17 (.faddr 2 (.t 16)),
 oo 18 (.load none (.t 17)),
 oo 19 (.bin .int .geq (.t 13) (.t 18))])
 (.cond (.t 19)
 (.reg [mv 20 0,
 oo 21 (.call 20 [(.t 20), (.c (.int .i64 7))])])
 .skip))
 (.seq
 (.reg [mv 22 0,
 oo 23 (.nilck (.t 22)),
 oo 24 (.faddr 21 (.t 23)),
 oo 25 (.load none (.t 24)),
 oo 26 (.not (.t 25)),
 mv 2 26])
 .ret)))
theorem ent84 : EntOK Tryz.prog 84 ⟨27, v84, [.slot 2]⟩ := fun args σ K ha h =>
 enter (own := List.range 27) Tryz.func84 (by kernel_rfl) (by kernel_rfl) (by kernel_rfl) ha h
def v85 : ACode :=
(.seq
 (.reg [oo 5 (.new 77 (.t 2)),
 oo 6 (.move (.c (.int .i64 0)))])
 (.seq
 (.block 0
 (.seq
 (.reg [mv 8 0,
 oo 9 (.call 38 [(.t 8)]),
 oo 10 (.not (.t 9)),
 mv 7 10])
 (.cond (.t 7)
 (.seq
 (.reg [oo 6 (.move (.c (.int .i64 3)))])
 .ret)
 (.seq
 (.reg [mv 12 0,
 mv 13 1,
 oo 14 (.call 82 [(.t 12), (.t 13)]),
 oo 15 (.not (.t 14)),
 mv 16 15,
 og 17 16 false (.move (.t 0)),
 og 18 16 false (.faddr 2 (.t 5)),
 og 19 16 false (.load none (.t 18)),
 og 20 16 false (.call 39 [(.t 17), (.t 19)]),
 og 21 16 false (.not (.t 20)),
 oo 22 (.pick (.t 16) (.c (.bool true)) (.t 21)),
 mv 11 22])
 (.cond (.t 11)
 (.seq
 (.reg [oo 6 (.move (.c (.int .i64 161)))])
 .ret)
 .skip)))))
 (.seq
 (.draw [] [([⟨(some 23), .move (.t 0), none⟩], []),
 ([⟨(some 24), .nilck (.t 23), none⟩], []),
 ([⟨(some 25), .faddr 1 (.t 24), none⟩], []),
 ([⟨(some 26), .load none (.t 25), none⟩], []),
 ([⟨(some 27), .move (.t 1), none⟩], []),
 ([⟨(some 28), .load (some 3) (.t 5), none⟩], []),
 ([⟨(some 29), .call 40 [(.t 28)], none⟩], [⟨(some 25), .faddr 1 (.t 24), none⟩, ⟨(some 26), .load none (.t 25), none⟩]),
 ([⟨(some 30), .iaddr 5 (.t 26) (.t 27), none⟩], []),
 ([⟨(some 31), .faddr 0 (.t 30), none⟩], []),
 ([⟨none, .store 3 (.t 31) (.t 29), none⟩], [])])
 (.seq
 (.reg [oo 6 (.move (.c (.int .i64 0)))])
 .ret))))
theorem ent85 : EntOK Tryz.prog 85 ⟨32, v85, [.slot 6]⟩ := fun args σ K ha h =>
 enter (own := List.range 32) Tryz.func85 (by kernel_rfl) (by kernel_rfl) (by kernel_rfl) ha h
def v86 : ACode :=
(.seq
 (.reg [oo 3 (.new 77 (.t 1)),
 oo 4 (.move (.c (.int .i64 0))),
 oo 5 (.move (.c (.bool false)))])
 (.seq
 (.seq
 (.reg [mv 8 0,
 oo 9 (.nilck (.t 8)),
 oo 10 (.faddr 6 (.t 9)),
 oo 11 (.faddr 3 (.t 10)),
 oo 12 (.load none (.t 11)),
 oo 13 (.bin .int .gtr (.t 12) (.c (.int .i64 0))),
 mv 14 13,
 og 15 14 true (.move (.t 0)),
 og 16 14 true (.nilck (.t 15)),
 og 17 14 true (.faddr 18 (.t 16)),
 og 18 14 true (.load none (.t 17)),
 og 19 14 true (.move (.t 0)),
 og 20 14 true (.nilck (.t 19)),
 og 21 14 true (.faddr 6 (.t 20)),
 og 22 14 true (.faddr 3 (.t 21)),
 og 23 14 true (.load none (.t 22)),
 og 24 14 true (.bin .int .geq (.t 18) (.t 23)),
 oo 25 (.pick (.t 14) (.t 24) (.c (.bool false)))])
 (.cond (.t 25)
 (.reg [mv 26 0,
 oo 27 (.call 131 [(.t 26)])])
 .skip))
 (.seq
 (.reg [mv 29 0,
 oo 30 (.nilck (.t 29)),
 oo 31 (.faddr 5 (.t 30)),
 oo 32 (.load none (.t 31)),
 oo 33 (.load (some 3) (.t 3)),
 oo 34 (.call 19 [(.t 32), (.t 33)]),
 mv 28 34,
 oo 35 (.extract (.t 28) 0),
 oo 36 (.extract (.t 28) 1),
 mv 6 35,
 mv 7 36])
 (.seq
 (.seq
 (.reg [mv 37 7,
 oo 38 (.bin .int .eql (.t 37) (.c (.int .i64 160)))])
 (.cond (.t 38)
 (.seq
 (.reg [mv 39 0,
 oo 40 (.call 131 [(.t 39)])])
 (.reg [mv 42 0,
 oo 43 (.nilck (.t 42)),
 oo 44 (.faddr 5 (.t 43)),
 oo 45 (.load none (.t 44)),
 oo 46 (.load (some 3) (.t 3)),
 oo 47 (.call 19 [(.t 45), (.t 46)]),
 mv 41 47,
 oo 48 (.extract (.t 41) 0),
 oo 49 (.extract (.t 41) 1),
 mv 6 48,
 mv 7 49]))
 .skip))
 (.seq
 (.seq
 (.reg [mv 50 7,
 oo 51 (.bin .int .neq (.t 50) (.c (.int .i64 0)))])
 (.cond (.t 51)
 (.seq
 (.reg [mv 52 0,
 oo 53 (.call 20 [(.t 52), (.c (.int .i64 6))])])
 (.seq
 (.reg [oo 4 (.move (.c (.int .i64 0))),
 oo 5 (.move (.c (.bool false)))])
 .ret))
 .skip))
 (.seq
 (.reg [mv 54 0,
 oo 55 (.nilck (.t 54)),
 oo 56 (.faddr 18 (.t 55)),
 oo 57 (.load none (.t 56)),
 oo 58 (.bin .int .add (.t 57) (.c (.int .i64 1))),
 oo 59 (.nilck (.t 54)),
 oo 60 (.faddr 18 (.t 59)),
 ⟨none, .store 1 (.t 60) (.t 58), none⟩])
 (.seq
 (.reg [mv 61 6,
 mv 4 61,
 oo 5 (.move (.c (.bool true)))])
 .ret)))))))
theorem ent86 : EntOK Tryz.prog 86 ⟨62, v86, [.slot 4, .slot 5]⟩ := fun args σ K ha h =>
 enter (own := List.range 62) Tryz.func86 (by kernel_rfl) (by kernel_rfl) (by kernel_rfl) ha h
def v87 : ACode :=
(.seq
 (.reg [oo 4 (.move (.c (.int .i64 0)))])
 (.block 0
 (.loop
 (.block 1
 (.seq
 (.reg [mv 6 0,
 mv 7 1,
 oo 8 (.call 42 [(.t 6), (.t 7)]),
 oo 5 (.new 77 (.c (.agg [(.int .i64 0), (.int .i64 0), .nils]))),
 ⟨none, .store 3 (.t 5) (.t 8), none⟩])
 (.seq
 (.seq
 (.reg [oo 9 (.faddr 0 (.t 5)),
 oo 10 (.load none (.t 9)),
 oo 11 (.bin .int .neq (.t 10) (.c (.int .i64 5)))])
 (.cond (.t 11)
 (.seq
 (.reg [mv 12 1,
 mv 4 12])
 .ret)
 .skip))
 (.reg [oo 13 (.faddr 2 (.t 5)),
 oo 14 (.load none (.t 13)),
 oo 15 (.iaddr 1 (.t 14) (.c (.int .i64 0))),
 oo 16 (.load none (.t 15)),
 mv 1 16])))))))
theorem ent87 : EntOK Tryz.prog 87 ⟨17, v87, [.slot 4]⟩ := fun args σ K ha h =>
 enter (own := List.range 17) Tryz.func87 (by kernel_rfl) (by kernel_rfl) (by kernel_rfl) ha h
def v91 : ACode :=
(.seq
 (.reg [mv 9 0,
 mv 10 0,
 oo 11 (.call 41 [(.t 10), (.c (.int .i64 1))]),
 oo 12 (.call 42 [(.t 9), (.t 11)]),
 mv 13 0,
 mv 14 0,
 oo 15 (.call 41 [(.t 14), (.c (.int .i64 0))]),
 oo 16 (.call 42 [(.t 13), (.t 15)]),
 oo 4 (.new 77 (.c (.agg [(.int .i64 0), (.int .i64 0), .nils]))),
 oo 5 (.new 77 (.c (.agg [(.int .i64 0), (.int .i64 0), .nils]))),
 ⟨none, .store 3 (.t 4) (.t 12), none⟩,
 ⟨none, .store 3 (.t 5) (.t 16), none⟩])
 (.seq
 (.seq
 (.reg [oo 17 (.faddr 0 (.t 4)),
 oo 18 (.load none (.t 17)),
 oo 19 (.bin .int .neq (.t 18) (.c (.int .i64 2))),
 mv 20 19,
 og 21 20 false (.faddr 0 (.t 5)),
 og 22 20 false (.load none (.t 21)),
 og 23 20 false (.bin .int .neq (.t 22) (.c (.int .i64 2))),
 oo 24 (.pick (.t 20) (.c (.bool true)) (.t 23))])
 (.cond (.t 24)
 (.seq
 (.reg [mv 25 0,
 oo 26 (.call 20 [(.t 25), (.c (.int .i64 2))])])
 .ret)
 .skip))
 (.seq
 (.reg [mv 28 1,
 oo 29 (.faddr 1 (.t 4)),
 oo 30 (.load none (.t 29)),
 oo 31 (.faddr 1 (.t 5)),
 oo 32 (.load none (.t 31)),
 oo 33 (.call 133 [(.t 28), (.t 30), (.t 32)]),
 mv 27 33,
 oo 34 (.extract (.t 27) 0),
 oo 35 (.extract (.t 27) 1),
 mv 6 34,
 mv 7 35])
 (.seq
 (.seq
 (.reg [mv 36 7,
 oo 37 (.bin .int .neq (.t 36) (.c (.int .i64 0)))])
 (.cond (.t 37)
 (.seq
 (.reg [mv 38 0,
 oo 39 (.call 20 [(.t 38), (.c (.int .i64 3))])])
 .ret)
 .skip))
 (.seq
 (.reg [mv 40 6,
 oo 41 (.build [(.int .i64 0), (.int .i64 0), .nils] [(0, 1, (.c (.int .i64 2))), (1, 1, (.t 40))]),
 oo 8 (.new 77 (.c (.agg [(.int .i64 0), (.int .i64 0), .nils]))),
 ⟨none, .store 3 (.t 8) (.t 41), none⟩])
 (.seq
 (.seq
 (.reg [mv 42 1,
 oo 43 (.call 134 [(.t 42)])])
 (.cond (.t 43)
 (.seq
 (.reg [mv 44 0,
 oo 45 (.nilck (.t 44)),
 oo 46 (.faddr 0 (.t 45)),
 oo 47 (.load none (.t 46)),
 oo 48 (.nilck (.t 47)),
 oo 49 (.faddr 3 (.t 48)),
 oo 50 (.load none (.t 49)),
 oo 51 (.build [(.int .i64 0), (.int .i64 0), .nils] [(0, 1, (.c (.int .i64 3))), (1, 1, (.t 50))]),
 ⟨none, .store 3 (.t 8) (.t 51), none⟩])
 (.seq
 (.reg [mv 52 6,
 oo 53 (.bin .int .eql (.t 52) (.c (.int .i64 1)))])
 (.cond (.t 53)
 (.reg [mv 54 0,
 oo 55 (.nilck (.t 54)),
 oo 56 (.faddr 0 (.t 55)),
 oo 57 (.load none (.t 56)),
 oo 58 (.nilck (.t 57)),
 oo 59 (.faddr 4 (.t 58)),
 oo 60 (.load none (.t 59)),
 oo 61 (.faddr 1 (.t 8)),
 ⟨none, .store 1 (.t 61) (.t 60), none⟩])
 .skip)))
 .skip))
 (.reg [mv 62 0,
 oo 63 (.load (some 3) (.t 8)),
 oo 64 (.call 47 [(.t 62), (.t 63), (.c (.int .i64 2))])])))))))
theorem ent91 : EntOK Tryz.prog 91 ⟨65, v91, []⟩ := fun args σ K ha h =>
 enter (own := List.range 65) Tryz.func91 (by kernel_rfl) (by kernel_rfl) (by kernel_rfl) ha h
def v92 : ACode :=
(.seq
 (.reg [mv 3 0,
 mv 4 0,
 oo 5 (.call 41 [(.t 4), (.c (.int .i64 0))]),
 oo 6 (.call 42 [(.t 3), (.t 5)]),
 oo 2 (.new 77 (.c (.agg [(.int .i64 0), (.int .i64 0), .nils]))),
 ⟨none, .store 3 (.t 2) (.t 6), none⟩])
 (.seq
 (.reg [mv 7 0,
 oo 8 (.call 49 [(.t 7), (.c (.int .i64 1))])])
 (.seq
 (.reg [oo 9 (.faddr 0 (.t 2)),
 oo 10 (.load none (.t 9))])
 (.block 0
 (.seq
 (.reg [oo 22 (.bin .int .eql (.t 10) (.c (.int .i64 2))),
 mv 21 22])
 (.cond (.t 21)
 (.draw [] [([⟨(some 23), .move (.t 0), none⟩], []),
 ([⟨(some 24), .move (.t 0), none⟩], []),
 ([⟨(some 25), .nilck (.t 24), none⟩], []),
 ([⟨(some 26), .faddr 20 (.t 25), none⟩], []),
 ([⟨(some 27), .load none (.t 26), none⟩], []),
 ([⟨(some 28), .faddr 0 (.t 2), none⟩], []),
 ([⟨(some 29), .load none (.t 28), none⟩], []),
 ([⟨(some 30), .faddr 1 (.t 2), none⟩], []),
 ([⟨(some 31), .load none (.t 30), none⟩], []),
 ([⟨(some 32), .build [(.int .i64 0), (.int .i64 0), (.int .i64 0), (.str ⟨#[]⟩)] [(0, 1, (.t 29)), (1, 1, (.t 31))], none⟩], []),
 ([⟨(some 33), .lit true 272 4 [(.t 32)], none⟩], [⟨(some 26), .faddr 20 (.t 25), none⟩, ⟨(some 27), .load none (.t 26), none⟩]),
 ([⟨(some 34), .append 272 4 40 (.t 27) (.t 33), none⟩], []),
 ([⟨(some 35), .nilck (.t 23), none⟩], []),
 ([⟨(some 36), .faddr 20 (.t 35), none⟩], []),
 ([⟨none, .store 1 (.t 36) (.t 34), none⟩], [])])
 (.seq
 (.reg [oo 38 (.bin .int .eql (.t 10) (.c (.int .i64 3))),
 mv 37 38])
 (.cond (.t 37)
 (.seq
 (.draw [] [([⟨(some 39), .move (.t 0), none⟩], []),
 ([⟨(some 40), .move (.t 0), none⟩], []),
 ([⟨(some 41), .nilck (.t 40), none⟩], []),
 ([⟨(some 42), .faddr 20 (.t 41), none⟩], []),
 ([⟨(some 43), .load none (.t 42), none⟩], []),
 ([⟨(some 44), .faddr 0 (.t 2), none⟩], []),
 ([⟨(some 45), .load none (.t 44), none⟩], []),
 ([⟨(some 46), .faddr 1 (.t 2), none⟩], []),
 ([⟨(some 47), .load none (.t 46), none⟩], []),
 ([⟨(some 48), .faddr 2 (.t 2), none⟩], []),
 ([⟨(some 49), .load none (.t 48), none⟩], []),
 ([⟨(some 50), .len .slice (.t 49), none⟩], []),
 ([⟨(some 51), .move (.t 0), none⟩], []),
 ([⟨(some 52), .nilck (.t 51), none⟩], []),
 ([⟨(some 53), .faddr 0 (.t 52), none⟩], []),
 ([⟨(some 54), .load none (.t 53), none⟩], []),
 ([⟨(some 55), .nilck (.t 54), none⟩], []),
 ([⟨(some 56), .faddr 1 (.t 55), none⟩], []),
 ([⟨(some 57), .load none (.t 56), none⟩], []),
 ([⟨(some 58), .faddr 1 (.t 2), none⟩], []),
 ([⟨(some 59), .load none (.t 58), none⟩], []),
 ([⟨(some 60), .iaddr 5 (.t 57) (.t 59), none⟩], []),
 ([⟨(some 61), .faddr 0 (.t 60), none⟩], []),
 ([⟨(some 62), .load none (.t 61), none⟩], []),
 ([⟨(some 63), .build [(.int .i64 0), (.int .i64 0), (.int .i64 0), (.str ⟨#[]⟩)] [(0, 1, (.t 45)), (1, 1, (.t 47)), (2, 1, (.t 50)), (3, 1, (.t 62))], none⟩], []),
 ([⟨(some 64), .lit true 272 4 [(.t 63)], none⟩], [⟨(some 42), .faddr 20 (.t 41), none⟩, ⟨(some 43), .load none (.t 42), none⟩]),
 ([⟨(some 65), .append 272 4 40 (.t 43) (.t 64), none⟩], []),
 ([⟨(some 66), .nilck (.t 39), none⟩], []),
 ([⟨(some 67), .faddr 20 (.t 66), none⟩], []),
 ([⟨none, .store 1 (.t 67) (.t 65), none⟩], [])])
 (.reg [mv 68 0,
 oo 69 (.load (some 3) (.t 2)),
 oo 70 (.call 132 [(.t 68), (.t 69)])]))
 (.reg [mv 11 0,
 mv 12 0,
 oo 13 (.nilck (.t 12)),
 oo 14 (.faddr 20 (.t 13)),
 oo 15 (.load none (.t 14)),
 oo 16 (.build [(.int .i64 0), (.int .i64 0), (.int .i64 0), (.str ⟨#[]⟩)] [(3, 1, (.c (.str ⟨#[45, 62]⟩)))]),
 oo 17 (.lit true 272 4 [(.t 16)]),
 oo 18 (.append 272 4 40 (.t 15) (.t 17)),
 oo 19 (.nilck (.t 11)),
 oo 20 (.faddr 20 (.t 19)),
 ⟨none, .store 1 (.t 20) (.t 18), none⟩])))))))))
theorem ent92 : EntOK Tryz.prog 92 ⟨71, v92, []⟩ := fun args σ K ha h =>
 enter (own := List.range 71) Tryz.func92 (by kernel_rfl) (by kernel_rfl) (by kernel_rfl) ha h
def v93 : ACode :=
(.seq
 (.reg [oo 2 (.new 35 (.c (.agg [(.str ⟨#[]⟩), (.int .i64 0), .nils]))),
 oo 3 (.move (.c .nils))])
 (.seq
 (.seq
 (.reg [mv 7 0,
 oo 8 (.len .slice (.t 7)),
 oo 9 (.bin .int .eql (.t 8) (.c (.int .i64 0)))])
 (.cond (.t 9)
 (.seq
 (.reg [oo 10 (.build [(.str ⟨#[]⟩), (.int .i64 0), .nils] []),
 mv 11 0,
 ⟨none, .store 3 (.t 2) (.t 10), none⟩,
 mv 3 11])
 .ret)
 .skip))
 (.seq
 (.reg [mv 12 0,
 oo 13 (.iaddr 4 (.t 12) (.c (.int .i64 0))),
 oo 14 (.load (some 4) (.t 13)),
 oo 4 (.new 272 (.c (.agg [(.int .i64 0), (.int .i64 0), (.int .i64 0), (.str ⟨#[]⟩)]))),
 ⟨none, .store 4 (.t 4) (.t 14), none⟩])
 (.seq
 (.reg [mv 15 0,
 oo 16 (.cut .slice 4 (.t 15) (some (.c (.int .i64 1))) none),
 mv 0 16])
 (.seq
 (.reg [oo 17 (.faddr 3 (.t 4)),
 oo 18 (.load none (.t 17)),
 oo 19 (.faddr 1 (.t 4)),
 oo 20 (.load none (.t 19)),
 oo 21 (.build [(.str ⟨#[]⟩), (.int .i64 0), .nils] [(0, 1, (.t 18)), (1, 1, (.t 20))]),
 oo 5 (.new 35 (.c (.agg [(.str ⟨#[]⟩), (.int .i64 0), .nils]))),
 ⟨none, .store 3 (.t 5) (.t 21), none⟩])
 (.seq
 (.seq
 (.reg [oo 22 (.faddr 0 (.t 4)),
 oo 23 (.load none (.t 22)),
 oo 24 (.bin .int .eql (.t 23) (.c (.int .i64 3)))])
 (.cond (.t 24)
 (.reg [oo 25 (.faddr 1 (.t 5)),
 ⟨none, .store 1 (.t 25) (.c (.int .i64 0)), none⟩])
 .skip))
 (.seq
 (.seq
 (.reg [oo 26 (.faddr 2 (.t 4)),
 oo 27 (.load none (.t 26)),
 oo 28 (.move (.c (.int .i64 0)))])
 (.block 0
 (.loop
 (.seq
 (.reg [oo 29 (.bin .int .lss (.t 28) (.t 27))])
 (.seq
 (.cond (.t 29)
 .skip
 (.exit 0))
 (.seq
 (.block 1
 (.seq
 (.reg [oo 6 (.new 35 (.c (.agg [(.str ⟨#[]⟩), (.int .i64 0), .nils])))])
 (.seq
 (.reg [mv 31 0,
 oo 32 (.call 93 [(.t 31)]),
 mv 30 32,
 oo 33 (.extract (.t 30) 0),
 oo 34 (.extract (.t 30) 1),
 ⟨none, .store 3 (.t 6) (.t 33), none⟩,
 mv 0 34])
 (.reg [oo 35 (.faddr 2 (.t 5)),
 oo 36 (.load none (.t 35)),
 oo 37 (.load (some 3) (.t 6)),
 oo 38 (.lit true 35 3 [(.t 37)]),
 oo 39 (.append 35 3 48 (.t 36) (.t 38)),
 oo 40 (.faddr 2 (.t 5)),
 ⟨none, .store 1 (.t 40) (.t 39), none⟩]))))
 (.reg [oo 41 (.bin .int .add (.t 28) (.c (.int .i64 1))),
 mv 28 41])))))))
 (.seq
 (.reg [oo 42 (.load (some 3) (.t 5)),
 mv 43 0,
 ⟨none, .store 3 (.t 2) (.t 42), none⟩,
 mv 3 43])
 .ret))))))))
theorem ent93 : EntOK Tryz.prog 93 ⟨44, v93, [.cell 2 (some 3), .slot 3]⟩ := fun args σ K ha h =>
 enter (own := List.range 44) Tryz.func93 (by kernel_rfl) (by kernel_rfl) (by kernel_rfl) ha h
def v94 : ACode :=
(.seq
 (.reg [oo 2 (.move (.c .nils)),
 oo 3 (.new 82 (.c (.agg [(.int .i64 0), (.int .i64 0), (.int .i64 0)])))])
 (.seq
 (.reg [oo 10 (.build [(.int .i64 0), (.int .i64 0)] [(0, 1, (.c (.int .i64 1))), (1, 1, (.c (.int .i64 1)))]),
 oo 4 (.new 80 (.c (.agg [(.int .i64 0), (.int .i64 0)]))),
 ⟨none, .store 2 (.t 4) (.t 10), none⟩])
 (.seq
 (.seq
 (.reg [mv 11 0,
 oo 12 (.len .str (.t 11)),
 oo 13 (.bin .int .gtr (.t 12) (.c (.int .i64 8192)))])
 (.cond (.t 13)
 (.seq
 (.reg [oo 14 (.load (some 2) (.t 4)),
 oo 15 (.build [(.int .i64 0), (.int .i64 0), (.int .i64 0)] [(0, 1, (.c (.int .i64 2))), (1, 2, (.t 14))]),
 oo 2 (.move (.c .nils)),
 ⟨none, .store 3 (.t 3) (.t 15), none⟩])
 .ret)
 .skip))
 (.seq
 (.reg [mv 16 0,
 oo 17 (.load (some 2) (.t 4)),
 oo 18 (.build [(.str ⟨#[]⟩), (.int .i64 0), (.int .i64 0), (.int .i64 0)] [(0, 1, (.t 16)), (2, 2, (.t 17))]),
 oo 19 (.new 275 (.t 18)),
 mv 5 19])
 (.seq
 (.reg [oo 6 (.move (.c .nils))])
 (.seq
 (.block 0
 (.loop
 (.seq
 (.seq
 (.reg [mv 20 5,
 oo 21 (.call 135 [(.t 20)])])
 (.cond (.t 21)
 .skip
 (.exit 0)))
 (.block 1
 (.seq
 (.reg [mv 22 5,
 oo 23 (.nilck (.t 22)),
 oo 24 (.faddr 2 (.t 23)),
 oo 25 (.load (some 2) (.t 24)),
 oo 7 (.new 80 (.c (.agg [(.int .i64 0), (.int .i64 0)]))),
 ⟨none, .store 2 (.t 7) (.t 25), none⟩])
 (.seq
 (.reg [mv 27 5,
 oo 28 (.call 136 [(.t 27)]),
 mv 26 28,
 oo 29 (.extract (.t 26) 0),
 oo 30 (.extract (.t 26) 1),
 oo 8 (.new 132 (.c (.agg [(.int .i64 0), (.str ⟨#[]⟩), (.int .i64 0), (.int .i64 0), (.int .i64 0), (.bool false)]))),
 ⟨none, .store 6 (.t 8) (.t 29), none⟩,
 mv 9 30])
 (.seq
 (.seq
 (.reg [mv 31 9,
 oo 32 (.bin .int .eql (.t 31) (.c (.int .i64 0))),
 mv 33 32,
 og 34 33 true (.move (.t 6)),
 og 35 33 true (.len .slice (.t 34)),
 og 36 33 true (.bin .int .geq (.t 35) (.c (.int .i64 2048))),
 oo 37 (.pick (.t 33) (.t 36) (.c (.bool false)))])
 (.cond (.t 37)
 (.reg [oo 9 (.move (.c (.int .i64 2)))])
 .skip))
 (.seq
 (.seq
 (.reg [mv 38 9,
 oo 39 (.bin .int .neq (.t 38) (.c (.int .i64 0)))])
 (.cond (.t 39)
 (.seq
 (.reg [mv 40 9,
 oo 41 (.load (some 2) (.t 7)),
 oo 42 (.build [(.int .i64 0), (.int .i64 0), (.int .i64 0)] [(0, 1, (.t 40)), (1, 2, (.t 41))]),
 oo 2 (.move (.c .nils)),
 ⟨none, .store 3 (.t 3) (.t 42), none⟩])
 .ret)
 .skip))
 (.reg [mv 43 6,
 oo 44 (.load (some 6) (.t 8)),
 oo 45 (.lit true 132 6 [(.t 44)]),
 oo 46 (.append 132 6 56 (.t 43) (.t 45)),
 mv 6 46])))))))))
 (.seq
 (.reg [mv 47 6,
 oo 48 (.build [(.int .i64 0), (.int .i64 0), (.int .i64 0)] []),
 mv 2 47,
 ⟨none, .store 3 (.t 3) (.t 48), none⟩])
 .ret)))))))
theorem ent94 : EntOK Tryz.prog 94 ⟨49, v94, [.slot 2, .cell 3 (some 3)]⟩ := fun args σ K ha h =>
 enter (own := List.range 49) Tryz.func94 (by kernel_rfl) (by kernel_rfl) (by kernel_rfl) ha h
def v95 : ACode :=
(.seq
 (.reg [oo 2 (.move (.c .nils))])
 (.seq
 (.reg [oo 9 (.build [(.int .i64 0), (.int .i64 0)] [(0, 1, (.c (.int .i64 1))), (1, 1, (.c (.int .i64 1)))]),
 oo 10 (.build [.nils, .nils, (.bool false), (.int .i64 0), (.int .i64 0)] [(2, 1, (.c (.bool true))), (3, 2, (.t 9))]),
 oo 11 (.new 281 (.t 10)),
 mv 3 11])
 (.seq
 (.reg [oo 4 (.move (.c (.int .i64 0)))])
 (.seq
 (.seq
 (.reg [mv 12 0,
 oo 13 (.len .slice (.t 12)),
 oo 14 (.move (.c (.int .i64 0)))])
 (.block 0
 (.loop
 (.seq
 (.reg [oo 15 (.bin .int .lss (.t 14) (.t 13))])
 (.seq
 (.cond (.t 15)
 .skip
 (.exit 0))
 (.seq
 (.block 1
 (.seq
 (.reg [mv 16 14,
 oo 17 (.iaddr 6 (.t 12) (.t 14)),
 oo 18 (.load (some 6) (.t 17)),
 oo 6 (.new 132 (.c (.agg [(.int .i64 0), (.str ⟨#[]⟩), (.int .i64 0), (.int .i64 0), (.int .i64 0), (.bool false)]))),
 mv 5 16,
 ⟨none, .store 6 (.t 6) (.t 18), none⟩])
 (.seq
 (.reg [mv 19 3,
 oo 20 (.faddr 3 (.t 6)),
 oo 21 (.load (some 2) (.t 20)),
 oo 22 (.nilck (.t 19)),
 oo 23 (.faddr 3 (.t 22)),
 ⟨none, .store 2 (.t 23) (.t 21), none⟩])
 (.seq
 (.reg [mv 24 5,
 oo 25 (.bin .int .eql (.t 24) (.c (.int .i64 0))),
 mv 26 25,
 og 27 26 false (.faddr 3 (.t 6)),
 og 28 26 false (.faddr 0 (.t 27)),
 og 29 26 false (.load none (.t 28)),
 og 30 26 false (.move (.t 4)),
 og 31 26 false (.bin .int .neq (.t 29) (.t 30)),
 oo 32 (.pick (.t 26) (.c (.bool true)) (.t 31)),
 mv 7 32])
 (.seq
 (.reg [oo 33 (.faddr 3 (.t 6)),
 oo 34 (.faddr 0 (.t 33)),
 oo 35 (.load none (.t 34)),
 mv 4 35])
 (.seq
 (.seq
 (.reg [mv 36 3,
 oo 37 (.nilck (.t 36)),
 oo 38 (.faddr 2 (.t 37)),
 oo 39 (.load none (.t 38)),
 mv 40 39,
 og 41 40 true (.move (.t 3)),
 og 42 40 true (.load (some 6) (.t 6)),
 og 43 40 true (.call 137 [(.t 41), (.t 42)]),
 oo 44 (.pick (.t 40) (.t 43) (.c (.bool false)))])
 (.cond (.t 44)
 (.reg [oo 7 (.move (.c (.bool false)))])
 .skip))
 (.seq
 (.seq
 (.reg [mv 45 7])
 (.cond (.t 45)
 (.reg [mv 46 3,
 oo 47 (.load (some 6) (.t 6)),
 oo 48 (.call 138 [(.t 46), (.t 47)])])
 .skip))
 (.seq
 (.reg [mv 49 3,
 oo 50 (.load (some 6) (.t 6)),
 oo 51 (.call 139 [(.t 49), (.t 50)])])
 (.seq
 (.draw [] [([⟨(some 52), .move (.t 3), none⟩], []),
 ([⟨(some 53), .move (.t 3), none⟩], []),
 ([⟨(some 54), .nilck (.t 53), none⟩], []),
 ([⟨(some 55), .faddr 0 (.t 54), none⟩], []),
 ([⟨(some 56), .load none (.t 55), none⟩], []),
 ([⟨(some 57), .load (some 6) (.t 6), none⟩], []),
 ([⟨(some 58), .lit true 132 6 [(.t 57)], none⟩], [⟨(some 55), .faddr 0 (.t 54), none⟩, ⟨(some 56), .load none (.t 55), none⟩]),
 ([⟨(some 59), .append 132 6 56 (.t 56) (.t 58), none⟩], []),
 ([⟨(some 60), .nilck (.t 52), none⟩], []),
 ([⟨(some 61), .faddr 0 (.t 60), none⟩], []),
 ([⟨none, .store 1 (.t 61) (.t 59), none⟩], [])])
 (.reg [mv 62 3,
 oo 63 (.load (some 6) (.t 6)),
 oo 64 (.call 140 [(.t 62), (.t 63)])]))))))))))
 (.reg [oo 65 (.bin .int .add (.t 14) (.c (.int .i64 1))),
 mv 14 65])))))))
 (.seq
 (.seq
 (.reg [mv 66 3,
 oo 67 (.nilck (.t 66)),
 oo 68 (.faddr 2 (.t 67)),
 oo 69 (.load none (.t 68))])
 (.cond (.t 69)
 (.seq
 (.reg [mv 70 3,
 oo 71 (.call 141 [(.t 70), (.c (.str ⟨#[123]⟩))])])
 (.reg [mv 72 3,
 oo 73 (.call 141 [(.t 72), (.c (.str ⟨#[125]⟩))])]))
 .skip))
 (.seq
 (.seq
 (.reg [mv 74 3,
 oo 75 (.nilck (.t 74)),
 oo 76 (.faddr 1 (.t 75)),
 oo 77 (.load none (.t 76)),
 oo 78 (.len .slice (.t 77)),
 oo 79 (.bin .int .sub (.t 78) (.c (.int .i64 1))),
 mv 8 79])
 (.block 2
 (.loop
 (.seq
 (.seq
 (.reg [mv 80 8,
 oo 81 (.bin .int .geq (.t 80) (.c (.int .i64 0)))])
 (.cond (.t 81)
 .skip
 (.exit 2)))
 (.seq
 (.block 3
 (.seq
 (.reg [mv 84 3,
 oo 85 (.nilck (.t 84)),
 oo 86 (.faddr 1 (.t 85)),
 oo 87 (.load none (.t 86)),
 mv 88 8,
 oo 89 (.iaddr 2 (.t 87) (.t 88)),
 oo 90 (.faddr 0 (.t 89)),
 oo 91 (.load none (.t 90)),
 oo 92 (.bin .int .eql (.t 91) (.c (.int .i64 0)))])
 (.cond (.t 92)
 (.reg [mv 93 3,
 oo 94 (.call 141 [(.t 93), (.c (.str ⟨#[125]⟩))])])
 .skip)))
 (.reg [mv 82 8,
 oo 83 (.bin .int .sub (.t 82) (.c (.int .i64 1))),
 mv 8 83]))))))
 (.seq
 (.reg [mv 95 3,
 oo 96 (.nilck (.t 95)),
 oo 97 (.faddr 0 (.t 96)),
 oo 98 (.load none (.t 97)),
 mv 2 98])
 .ret)))))))
theorem ent95 : EntOK Tryz.prog 95 ⟨99, v95, [.slot 2]⟩ := fun args σ K ha h =>
 enter (own := List.range 99) Tryz.func95 (by kernel_rfl) (by kernel_rfl) (by kernel_rfl) ha h
def v96 : ACode :=
(.seq
 (.reg [oo 4 (.move (.c (.bool false)))])
 (.seq
 (.reg [mv 6 0,
 oo 7 (.call 142 [(.t 6)]),
 oo 5 (.new 132 (.c (.agg [(.int .i64 0), (.str ⟨#[]⟩), (.int .i64 0), (.int .i64 0), (.int .i64 0), (.bool false)]))),
 ⟨none, .store 6 (.t 5) (.t 7), none⟩])
 (.seq
 (.reg [oo 8 (.faddr 0 (.t 5)),
 oo 9 (.load none (.t 8)),
 oo 10 (.bin .int .eql (.t 9) (.c (.int .i64 5))),
 mv 11 10,
 og 12 11 false (.faddr 0 (.t 5)),
 og 13 11 false (.load none (.t 12)),
 og 14 11 false (.bin .int .eql (.t 13) (.c (.int .i64 6))),
 oo 15 (.pick (.t 11) (.c (.bool true)) (.t 14)),
 mv 16 15,
 og 17 16 true (.faddr 1 (.t 5)),
 og 18 16 true (.load none (.t 17)),
 og 19 16 true (.move (.t 1)),
 og 20 16 true (.bin .str .eql (.t 18) (.t 19)),
 oo 21 (.pick (.t 16) (.t 20) (.c (.bool false))),
 mv 4 21])
 .ret)))
theorem ent96 : EntOK Tryz.prog 96 ⟨22, v96, [.slot 4]⟩ := fun args σ K ha h =>
 enter (own := List.range 22) Tryz.func96 (by kernel_rfl) (by kernel_rfl) (by kernel_rfl) ha h
def v97 : ACode :=
(.seq
 (.reg [oo 2 (.new 132 (.c (.agg [(.int .i64 0), (.str ⟨#[]⟩), (.int .i64 0), (.int .i64 0), (.int .i64 0), (.bool false)])))])
 (.seq
 (.reg [mv 4 0,
 oo 5 (.call 142 [(.t 4)]),
 oo 3 (.new 132 (.c (.agg [(.int .i64 0), (.str ⟨#[]⟩), (.int .i64 0), (.int .i64 0), (.int .i64 0), (.bool false)]))),
 ⟨none, .store 6 (.t 3) (.t 5), none⟩])
 (.seq
 (.seq
 (.reg [mv 6 0,
 oo 7 (.nilck (.t 6)),
 oo 8 (.faddr 2 (.t 7)),
 oo 9 (.load none (.t 8)),
 oo 10 (.not (.t 9)),
 mv 11 10,
 og 12 11 true (.move (.t 0)),
 og 13 11 true (.nilck (.t 12)),
 og 14 11 true (.faddr 1 (.t 13)),
 og 15 11 true (.load none (.t 14)),
 og 16 11 true (.move (.t 0)),
 og 17 11 true (.nilck (.t 16)),
 og 18 11 true (.faddr 0 (.t 17)),
 og 19 11 true (.load none (.t 18)),
 og 20 11 true (.len .slice (.t 19)),
 og 21 11 true (.bin .int .lss (.t 15) (.t 20)),
 oo 22 (.pick (.t 11) (.t 21) (.c (.bool false)))])
 (.cond (.t 22)
 (.reg [mv 23 0,
 oo 24 (.nilck (.t 23)),
 oo 25 (.faddr 1 (.t 24)),
 oo 26 (.load none (.t 25)),
 oo 27 (.bin .int .add (.t 26) (.c (.int .i64 1))),
 oo 28 (.nilck (.t 23)),
 oo 29 (.faddr 1 (.t 28)),
 ⟨none, .store 1 (.t 29) (.t 27), none⟩])
 .skip))
 (.seq
 (.reg [oo 30 (.load (some 6) (.t 3)),
 ⟨none, .store 6 (.t 2) (.t 30), none⟩])
 .ret))))
theorem ent97 : EntOK Tryz.prog 97 ⟨31, v97, [.cell 2 (some 6)]⟩ := fun args σ K ha h =>
 enter (own := List.range 31) Tryz.func97 (by kernel_rfl) (by kernel_rfl) (by kernel_rfl) ha h
def v101 : ACode :=
(.seq
 (.reg [oo 4 (.move (.c .nils))])
 (.seq
 (.reg [oo 8 (.build [(.int .i64 0), (.str ⟨#[]⟩), (.int .i64 0), (.int .i64 0), (.int .i64 0), (.bool false)] []),
 oo 5 (.new 132 (.c (.agg [(.int .i64 0), (.str ⟨#[]⟩), (.int .i64 0), (.int .i64 0), (.int .i64 0), (.bool false)]))),
 ⟨none, .store 6 (.t 5) (.t 8), none⟩])
 (.seq
 (.seq
 (.reg [mv 9 0,
 oo 10 (.call 96 [(.t 9), (.c (.str ⟨#[40]⟩))])])
 (.cond (.t 10)
 (.seq
 (.reg [mv 11 0,
 oo 12 (.call 97 [(.t 11)])])
 (.seq
 (.reg [mv 13 0,
 oo 14 (.call 143 [(.t 13), (.c (.int .i64 3))]),
 ⟨none, .store 6 (.t 5) (.t 14), none⟩])
 (.reg [mv 15 0,
 oo 16 (.call 57 [(.t 15), (.c (.str ⟨#[41]⟩))])])))
 (.reg [mv 17 0,
 oo 18 (.call 143 [(.t 17), (.c (.int .i64 1))]),
 ⟨none, .store 6 (.t 5) (.t 18), none⟩])))
 (.seq
 (.reg [oo 19 (.build [.nils, .nils] []),
 oo 6 (.new 224 (.c (.agg [.nils, .nils]))),
 ⟨none, .store 2 (.t 6) (.t 19), none⟩])
 (.seq
 (.block 0
 (.loop
 (.seq
 (.seq
 (.reg [mv 20 0,
 oo 21 (.call 146 [(.t 20)])])
 (.cond (.t 21)
 .skip
 (.exit 0)))
 (.block 1
 (.draw [] [([⟨(some 22), .faddr 0 (.t 6), none⟩], []),
 ([⟨(some 23), .load none (.t 22), none⟩], []),
 ([⟨(some 24), .move (.t 0), none⟩], []),
 ([⟨(some 25), .call 147 [(.t 24)], none⟩], [⟨(some 22), .faddr 0 (.t 6), none⟩, ⟨(some 23), .load none (.t 22), none⟩]),
 ([⟨(some 26), .lit true 291 6 [(.t 25)], none⟩], [⟨(some 22), .faddr 0 (.t 6), none⟩, ⟨(some 23), .load none (.t 22), none⟩]),
 ([⟨(some 27), .append 291 6 72 (.t 23) (.t 26), none⟩], []),
 ([⟨(some 28), .faddr 0 (.t 6), none⟩], []),
 ([⟨none, .store 1 (.t 28) (.t 27), none⟩], [])])))))
 (.seq
 (.reg [mv 29 0,
 oo 30 (.call 148 [(.t 29), (.c (.str ⟨#[61]⟩))]),
 oo 31 (.faddr 1 (.t 6)),
 ⟨none, .store 1 (.t 31) (.t 30), none⟩])
 (.seq
 (.seq
 (.reg [mv 32 1,
 oo 33 (.len .slice (.t 32)),
 mv 7 33])
 (.seq
 (.reg [mv 34 7,
 oo 35 (.bin .int .gtr (.t 34) (.c (.int .i64 0))),
 mv 36 35,
 og 37 36 true (.move (.t 1)),
 og 38 36 true (.move (.t 7)),
 og 39 36 true (.bin .int .sub (.t 38) (.c (.int .i64 1))),
 og 40 36 true (.iaddr 4 (.t 37) (.t 39)),
 og 41 36 true (.faddr 0 (.t 40)),
 og 42 36 true (.load none (.t 41)),
 og 43 36 true (.faddr 1 (.t 5)),
 og 44 36 true (.load none (.t 43)),
 og 45 36 true (.bin .str .eql (.t 42) (.t 44)),
 oo 46 (.pick (.t 36) (.t 45) (.c (.bool false)))])
 (.cond (.t 46)
 (.seq
 (.draw [] [([⟨(some 47), .move (.t 1), none⟩], []),
 ([⟨(some 48), .move (.t 7), none⟩], []),
 ([⟨(some 49), .bin .int .sub (.t 48) (.c (.int .i64 1)), none⟩], []),
 ([⟨(some 50), .move (.t 1), none⟩], []),
 ([⟨(some 51), .move (.t 7), none⟩], []),
 ([⟨(some 52), .bin .int .sub (.t 51) (.c (.int .i64 1)), none⟩], []),
 ([⟨(some 53), .iaddr 4 (.t 50) (.t 52), none⟩], []),
 ([⟨(some 54), .faddr 1 (.t 53), none⟩], []),
 ([⟨(some 55), .load none (.t 54), none⟩], []),
 ([⟨(some 56), .load (some 2) (.t 6), none⟩], []),
 ([⟨(some 57), .lit true 224 2 [(.t 56)], none⟩], [⟨(some 53), .iaddr 4 (.t 50) (.t 52), none⟩, ⟨(some 54), .faddr 1 (.t 53), none⟩, ⟨(some 55), .load none (.t 54), none⟩]),
 ([⟨(some 58), .append 224 2 48 (.t 55) (.t 57), none⟩], []),
 ([⟨(some 59), .iaddr 4 (.t 47) (.t 49), none⟩], []),
 ([⟨(some 60), .faddr 1 (.t 59), none⟩], []),
 ([⟨none, .store 1 (.t 60) (.t 58), none⟩], [])])
 (.seq
 (.reg [mv 61 1,
 mv 4 61])
 .ret))
 .skip)))
 (.seq
 (.reg [mv 62 1,
 oo 63 (.faddr 1 (.t 5)),
 oo 64 (.load none (.t 63)),
 oo 65 (.load (some 2) (.t 6)),
 oo 66 (.lit true 224 2 [(.t 65)]),
 oo 67 (.faddr 3 (.t 5)),
 oo 68 (.load (some 2) (.t 67)),
 oo 69 (.build [(.str ⟨#[]⟩), .nils, (.int .i64 0), (.int .i64 0)] [(0, 1, (.t 64)), (1, 1, (.t 66)), (2, 2, (.t 68))]),
 oo 70 (.lit true 151 4 [(.t 69)]),
 oo 71 (.append 151 4 56 (.t 62) (.t 70)),
 mv 4 71])
 .ret))))))))
theorem ent101 : EntOK Tryz.prog 101 ⟨72, v101, [.slot 4]⟩ := fun args σ K ha h =>
 enter (own := List.range 72) Tryz.func101 (by kernel_rfl) (by kernel_rfl) (by kernel_rfl) ha h
def v102 : ACode :=
(.seq
 (.reg [oo 4 (.move (.c .nils))])
 (.seq
 (.reg [oo 5 (.move (.c .nils))])
 (.seq
 (.seq
 (.reg [mv 11 1,
 oo 12 (.len .slice (.t 11)),
 oo 13 (.move (.c (.int .i64 0)))])
 (.block 0
 (.loop
 (.seq
 (.reg [oo 14 (.bin .int .lss (.t 13) (.t 12))])
 (.seq
 (.cond (.t 14)
 .skip
 (.exit 0))
 (.seq
 (.block 1
 (.seq
 (.reg [oo 15 (.iaddr 10 (.t 11) (.t 13)),
 oo 16 (.load (some 10) (.t 15)),
 oo 7 (.new 299 (.c (.agg [.nils, (.int .i64 0), (.str ⟨#[]⟩), (.int .i64 0), .nils, .nils, .nils, .nils, (.int .i64 0), (.int .i64 0)]))),
 ⟨none, .store 10 (.t 7) (.t 16), none⟩])
 (.seq
 (.reg [oo 8 (.move (.c .nils))])
 (.seq
 (.seq
 (.reg [oo 17 (.faddr 0 (.t 7)),
 oo 18 (.load none (.t 17)),
 oo 19 (.len .slice (.t 18)),
 oo 20 (.move (.c (.int .i64 0)))])
 (.block 2
 (.loop
 (.seq
 (.reg [oo 21 (.bin .int .lss (.t 20) (.t 19))])
 (.seq
 (.cond (.t 21)
 .skip
 (.exit 2))
 (.seq
 (.block 3
 (.seq
 (.reg [oo 22 (.iaddr 9 (.t 18) (.t 20)),
 oo 23 (.load (some 9) (.t 22)),
 oo 10 (.new 297 (.c (.agg [(.int .i64 0), (.str ⟨#[]⟩), (.int .i64 0), .nils, .nils, .nils, .nils, (.int .i64 0), (.int .i64 0)]))),
 ⟨none, .store 9 (.t 10) (.t 23), none⟩])
 (.reg [mv 24 8,
 mv 25 0,
 oo 26 (.load (some 9) (.t 10)),
 oo 27 (.call 149 [(.t 25), (.t 26)]),
 oo 28 (.lit true 297 9 [(.t 27)]),
 oo 29 (.append 297 9 144 (.t 24) (.t 28)),
 mv 8 29])))
 (.reg [oo 30 (.bin .int .add (.t 20) (.c (.int .i64 1))),
 mv 20 30])))))))
 (.seq
 (.reg [mv 31 8,
 oo 32 (.faddr 0 (.t 7)),
 ⟨none, .store 1 (.t 32) (.t 31), none⟩])
 (.seq
 (.reg [mv 33 0,
 oo 34 (.faddr 1 (.t 7)),
 oo 35 (.load (some 9) (.t 34)),
 oo 36 (.call 149 [(.t 33), (.t 35)]),
 oo 37 (.faddr 1 (.t 7)),
 ⟨none, .store 9 (.t 37) (.t 36), none⟩])
 (.reg [mv 38 5,
 oo 39 (.load (some 10) (.t 7)),
 oo 40 (.lit true 299 10 [(.t 39)]),
 oo 41 (.append 299 10 168 (.t 38) (.t 40)),
 mv 5 41])))))))
 (.reg [oo 42 (.bin .int .add (.t 13) (.c (.int .i64 1))),
 mv 13 42])))))))
 (.seq
 (.reg [mv 43 5,
 mv 4 43])
 .ret))))
theorem ent102 : EntOK Tryz.prog 102 ⟨44, v102, [.slot 4]⟩ := fun args σ K ha h =>
 enter (own := List.range 44) Tryz.func102 (by kernel_rfl) (by kernel_rfl) (by kernel_rfl) ha h
def v103 : ACode :=
(.seq
 (.reg [oo 1 (.new 50 (.t 0)),
 oo 2 (.new 82 (.c (.agg [(.int .i64 0), (.int .i64 0), (.int .i64 0)])))])
 (.seq
 (.seq
 (.reg [oo 9 (.load (some 3) (.t 1)),
 oo 10 (.call 150 [(.t 9)]),
 oo 11 (.not (.t 10))])
 (.cond (.t 11)
 (.seq
 (.reg [oo 12 (.build [(.int .i64 0), (.int .i64 0), (.int .i64 0)] [(0, 1, (.c (.int .i64 1)))]),
 ⟨none, .store 3 (.t 2) (.t 12), none⟩])
 .ret)
 .skip))
 (.seq
 (.reg [oo 14 (.faddr 0 (.t 1)),
 oo 15 (.load none (.t 14)),
 oo 16 (.call 26 [(.t 15)]),
 mv 13 16,
 oo 17 (.extract (.t 13) 0),
 oo 18 (.extract (.t 13) 1),
 oo 4 (.new 82 (.c (.agg [(.int .i64 0), (.int .i64 0), (.int .i64 0)]))),
 mv 3 17,
 ⟨none, .store 3 (.t 4) (.t 18), none⟩])
 (.seq
 (.seq
 (.reg [oo 19 (.faddr 0 (.t 4)),
 oo 20 (.load none (.t 19)),
 oo 21 (.bin .int .neq (.t 20) (.c (.int .i64 0)))])
 (.cond (.t 21)
 (.seq
 (.reg [oo 22 (.load (some 3) (.t 4)),
 ⟨none, .store 3 (.t 2) (.t 22), none⟩])
 .ret)
 .skip))
 (.seq
 (.reg [mv 23 3,
 oo 24 (.build [.nilp, .nils, (.int .i64 0), (.int .i64 0), (.int .i64 0), (.bool false)] [(0, 1, (.t 23))]),
 oo 25 (.new 304 (.t 24)),
 mv 5 25])
 (.seq
 (.reg [oo 6 (.move (.c .nils))])
 (.seq
 (.seq
 (.reg [oo 26 (.faddr 1 (.t 1)),
 oo 27 (.load none (.t 26)),
 oo 28 (.len .slice (.t 27)),
 oo 29 (.move (.c (.int .i64 0)))])
 (.block 0
 (.loop
 (.seq
 (.reg [oo 30 (.bin .int .lss (.t 29) (.t 28))])
 (.seq
 (.cond (.t 30)
 .skip
 (.exit 0))
 (.seq
 (.block 1
 (.seq
 (.reg [oo 31 (.iaddr 5 (.t 27) (.t 29)),
 oo 32 (.load (some 5) (.t 31)),
 oo 8 (.new 219 (.c (.agg [(.str ⟨#[]⟩), (.int .i64 0), (.int .i64 0), (.int .i64 0), (.int .i64 0)]))),
 ⟨none, .store 5 (.t 8) (.t 32), none⟩])
 (.seq
 (.seq
 (.reg [mv 33 6,
 oo 34 (.faddr 0 (.t 8)),
 oo 35 (.load none (.t 34)),
 oo 36 (.call 151 [(.t 33), (.t 35)])])
 (.cond (.t 36)
 (.reg [mv 37 5,
 oo 38 (.faddr 3 (.t 8)),
 oo 39 (.load (some 2) (.t 38)),
 oo 40 (.call 152 [(.t 37), (.c (.int .i64 80)), (.t 39)])])
 .skip))
 (.reg [mv 41 6,
 oo 42 (.faddr 0 (.t 8)),
 oo 43 (.load none (.t 42)),
 oo 44 (.lit true 9 1 [(.t 43)]),
 oo 45 (.append 9 1 16 (.t 41) (.t 44)),
 mv 6 45]))))
 (.reg [oo 46 (.bin .int .add (.t 29) (.c (.int .i64 1))),
 mv 29 46])))))))
 (.seq
 (.reg [mv 47 5,
 oo 48 (.faddr 2 (.t 1)),
 oo 49 (.load none (.t 48)),
 oo 50 (.call 153 [(.t 47), (.t 49), (.c (.fn (.func 154) [] []))])])
 (.seq
 (.reg [mv 51 5,
 oo 52 (.nilck (.t 51)),
 oo 53 (.faddr 2 (.t 52)),
 oo 54 (.load (some 3) (.t 53)),
 ⟨none, .store 3 (.t 2) (.t 54), none⟩])
 .ret)))))))))
theorem ent103 : EntOK Tryz.prog 103 ⟨55, v103, [.cell 2 (some 3)]⟩ := fun args σ K ha h =>
 enter (own := List.range 55) Tryz.func103 (by kernel_rfl) (by kernel_rfl) (by kernel_rfl) ha h
def v104 : ACode :=
(.seq
 (.reg [oo 0 (.move (.c .nilp))])
 (.seq
 (.reg [oo 1 (.mkmap),
 oo 2 (.build [.nilm, (.int .i64 0), .nils, .nilm] [(0, 1, (.t 1))]),
 oo 3 (.new 310 (.t 2)),
 mv 0 3])
 .ret))
theorem ent104 : EntOK Tryz.prog 104 ⟨4, v104, [.slot 0]⟩ := fun args σ K ha h =>
 enter (own := List.range 4) Tryz.func104 (by kernel_rfl) (by kernel_rfl) (by kernel_rfl) ha h
def v105 : ACode :=
(.seq
 (.reg [oo 6 (.move (.c .nils))])
 (.seq
 (.reg [mv 11 0,
 oo 12 (.nilck (.t 11)),
 oo 13 (.faddr 2 (.t 12)),
 oo 14 (.load none (.t 13)),
 oo 15 (.len .slice (.t 14)),
 mv 7 15])
 (.seq
 (.reg [oo 8 (.move (.c .nils))])
 (.seq
 (.seq
 (.reg [mv 16 1,
 oo 17 (.call 155 [(.t 16)]),
 oo 18 (.len .slice (.t 17)),
 oo 19 (.move (.c (.int .i64 0)))])
 (.block 0
 (.loop
 (.seq
 (.reg [oo 20 (.bin .int .lss (.t 19) (.t 18))])
 (.seq
 (.cond (.t 20)
 .skip
 (.exit 0))
 (.seq
 (.block 1
 (.seq
 (.reg [oo 21 (.iaddr 1 (.t 17) (.t 19)),
 oo 22 (.load none (.t 21)),
 mv 10 22])
 (.seq
 (.seq
 (.reg [mv 23 0,
 oo 24 (.nilck (.t 23)),
 oo 25 (.faddr 3 (.t 24)),
 oo 26 (.load none (.t 25))])
 (.cond (.t 26)
 (.exit 0)
 .skip))
 (.reg [mv 27 8,
 mv 28 0,
 mv 29 1,
 mv 30 10,
 oo 31 (.call 156 [(.t 28), (.t 29), (.t 30)]),
 oo 32 (.lit true 315 4 [(.t 31)]),
 oo 33 (.append 315 4 96 (.t 27) (.t 32)),
 mv 8 33]))))
 (.reg [oo 34 (.bin .int .add (.t 19) (.c (.int .i64 1))),
 mv 19 34])))))))
 (.seq
 (.reg [mv 35 2,
 oo 36 (.callv (.t 35) [])])
 (.seq
 (.reg [mv 37 0,
 mv 38 0,
 oo 39 (.nilck (.t 38)),
 oo 40 (.faddr 2 (.t 39)),
 oo 41 (.load none (.t 40)),
 mv 42 7,
 oo 43 (.cut .slice 7 (.t 41) none (some (.t 42))),
 oo 44 (.nilck (.t 37)),
 oo 45 (.faddr 2 (.t 44)),
 ⟨none, .store 1 (.t 45) (.t 43), none⟩])
 (.seq
 (.reg [mv 46 8,
 mv 6 46])
 .ret)))))))
theorem ent105 : EntOK Tryz.prog 105 ⟨47, v105, [.slot 6]⟩ := fun args σ K ha h =>
 enter (own := List.range 47) Tryz.func105 (by kernel_rfl) (by kernel_rfl) (by kernel_rfl) ha h
def v106 : ACode :=
.skip
theorem ent106 : EntOK Tryz.prog 106 ⟨0, v106, []⟩ := fun args σ K ha h =>
 enter (own := List.range 0) Tryz.func106 (by kernel_rfl) (by kernel_rfl) (by kernel_rfl) ha h
def v107 : ACode :=
(.seq
 (.reg [oo 4 (.move (.c .nils))])
 (.seq
 (.reg [oo 5 (.move (.c .nils))])
 (.seq
 (.seq
 (.reg [mv 14 1,
 oo 15 (.len .slice (.t 14)),
 oo 16 (.move (.c (.int .i64 0)))])
 (.block 0
 (.loop
 (.seq
 (.reg [oo 17 (.bin .int .lss (.t 16) (.t 15))])
 (.seq
 (.cond (.t 17)
 .skip
 (.exit 0))
 (.seq
 (.block 1
 (.seq
 (.reg [oo 18 (.iaddr 4 (.t 14) (.t 16)),
 oo 19 (.load (some 4) (.t 18)),
 oo 7 (.new 315 (.c (.agg [.nils, .nils, .nils, .nils]))),
 ⟨none, .store 4 (.t 7) (.t 19), none⟩])
 (.seq
 (.reg [mv 20 0,
 oo 21 (.faddr 2 (.t 7)),
 oo 22 (.load none (.t 21)),
 oo 23 (.call 157 [(.t 20), (.t 22)]),
 oo 24 (.faddr 2 (.t 7)),
 ⟨none, .store 1 (.t 24) (.t 23), none⟩])
 (.seq
 (.reg [oo 8 (.move (.c .nils))])
 (.seq
 (.seq
 (.reg [oo 25 (.faddr 3 (.t 7)),
 oo 26 (.load none (.t 25)),
 oo 27 (.len .slice (.t 26)),
 oo 28 (.move (.c (.int .i64 0)))])
 (.block 2
 (.loop
 (.seq
 (.reg [oo 29 (.bin .int .lss (.t 28) (.t 27))])
 (.seq
 (.cond (.t 29)
 .skip
 (.exit 2))
 (.seq
 (.block 3
 (.seq
 (.reg [oo 30 (.iaddr 1 (.t 26) (.t 28)),
 oo 31 (.load (some 1) (.t 30)),
 oo 10 (.new 320 (.c (.agg [.nils]))),
 ⟨none, .store 1 (.t 10) (.t 31), none⟩])
 (.seq
 (.reg [oo 11 (.move (.c .nils))])
 (.seq
 (.seq
 (.reg [oo 32 (.faddr 0 (.t 10)),
 oo 33 (.load none (.t 32)),
 oo 34 (.len .slice (.t 33)),
 oo 35 (.move (.c (.int .i64 0)))])
 (.block 4
 (.loop
 (.seq
 (.reg [oo 36 (.bin .int .lss (.t 35) (.t 34))])
 (.seq
 (.cond (.t 36)
 .skip
 (.exit 4))
 (.seq
 (.block 5
 (.seq
 (.reg [oo 37 (.iaddr 2 (.t 33) (.t 35)),
 oo 38 (.load (some 2) (.t 37)),
 oo 13 (.new 324 (.c (.agg [.nils, .nils]))),
 ⟨none, .store 2 (.t 13) (.t 38), none⟩])
 (.draw [] [([⟨(some 39), .move (.t 11), none⟩], []),
 ([⟨(some 40), .move (.t 0), none⟩], []),
 ([⟨(some 41), .faddr 0 (.t 13), none⟩], []),
 ([⟨(some 42), .load none (.t 41), none⟩], []),
 ([⟨(some 44), .move (.t 0), none⟩], []),
 ([⟨(some 45), .faddr 1 (.t 13), none⟩], []),
 ([⟨(some 46), .load none (.t 45), none⟩], []),
 ([⟨(some 43), .call 158 [(.t 40), (.t 42)], none⟩], [⟨(some 45), .faddr 1 (.t 13), none⟩, ⟨(some 46), .load none (.t 45), none⟩]),
 ([⟨(some 47), .call 159 [(.t 44), (.t 46)], none⟩], []),
 ([⟨(some 48), .build [.nils, .nils] [(0, 1, (.t 43)), (1, 1, (.t 47))], none⟩], []),
 ([⟨(some 49), .lit true 324 2 [(.t 48)], none⟩], []),
 ([⟨(some 50), .append 324 2 48 (.t 39) (.t 49), none⟩], []),
 ([⟨(some 11), .move (.t 50), none⟩], [])])))
 (.reg [oo 51 (.bin .int .add (.t 35) (.c (.int .i64 1))),
 mv 35 51])))))))
 (.reg [mv 52 8,
 mv 53 11,
 oo 54 (.build [.nils] [(0, 1, (.t 53))]),
 oo 55 (.lit true 320 1 [(.t 54)]),
 oo 56 (.append 320 1 24 (.t 52) (.t 55)),
 mv 8 56])))))
 (.reg [oo 57 (.bin .int .add (.t 28) (.c (.int .i64 1))),
 mv 28 57])))))))
 (.seq
 (.reg [mv 58 8,
 oo 59 (.faddr 3 (.t 7)),
 ⟨none, .store 1 (.t 59) (.t 58), none⟩])
 (.reg [mv 60 5,
 oo 61 (.load (some 4) (.t 7)),
 oo 62 (.lit true 315 4 [(.t 61)]),
 oo 63 (.append 315 4 96 (.t 60) (.t 62)),
 mv 5 63])))))))
 (.reg [oo 64 (.bin .int .add (.t 16) (.c (.int .i64 1))),
 mv 16 64])))))))
 (.seq
 (.reg [mv 65 5,
 mv 4 65])
 .ret))))
theorem ent107 : EntOK Tryz.prog 107 ⟨66, v107, [.slot 4]⟩ := fun args σ K ha h =>
 enter (own := List.range 66) Tryz.func107 (by kernel_rfl) (by kernel_rfl) (by kernel_rfl) ha h
def v108 : ACode :=
(.seq
 (.reg [oo 10 (.new 28 (.c (.agg [(.int .i64 0), (.str ⟨#[]⟩), (.int .i64 0), (.int .i64 0), .nils, .nils, .nils, .nils, .nils])))])
 (.seq
 (.seq
 (.reg [mv 12 1,
 oo 13 (.len .slice (.t 12)),
 oo 14 (.bin .int .eql (.t 13) (.c (.int .i64 0)))])
 (.cond (.t 14)
 (.seq
 (.reg [mv 15 4,
 oo 16 (.callv (.t 15) []),
 ⟨none, .store 9 (.t 10) (.t 16), none⟩])
 .ret)
 .skip))
 (.seq
 (.reg [mv 17 0,
 mv 18 1,
 oo 19 (.iaddr 10 (.t 18) (.c (.int .i64 0))),
 oo 20 (.faddr 1 (.t 19)),
 oo 21 (.load (some 9) (.t 20)),
 mv 22 2,
 mv 23 3,
 oo 24 (.call 160 [(.t 17), (.t 21), (.t 22), (.t 23)]),
 oo 11 (.new 28 (.c (.agg [(.int .i64 0), (.str ⟨#[]⟩), (.int .i64 0), (.int .i64 0), .nils, .nils, .nils, .nils, .nils]))),
 ⟨none, .store 9 (.t 11) (.t 24), none⟩])
 (.seq
 (.seq
 (.reg [mv 25 1,
 oo 26 (.iaddr 10 (.t 25) (.c (.int .i64 0))),
 oo 27 (.faddr 0 (.t 26)),
 oo 28 (.load none (.t 27)),
 oo 29 (.len .slice (.t 28)),
 oo 30 (.bin .int .eql (.t 29) (.c (.int .i64 0)))])
 (.cond (.t 30)
 (.seq
 (.reg [oo 31 (.load (some 9) (.t 11)),
 ⟨none, .store 9 (.t 10) (.t 31), none⟩])
 .ret)
 .skip))
 (.seq
 (.draw [] [([⟨(some 32), .move (.t 0), none⟩], []),
 ([⟨(some 33), .move (.t 0), none⟩], []),
 ([⟨(some 34), .move (.t 1), none⟩], []),
 ([⟨(some 35), .iaddr 10 (.t 34) (.c (.int .i64 0)), none⟩], []),
 ([⟨(some 36), .faddr 0 (.t 35), none⟩], []),
 ([⟨(some 37), .load none (.t 36), none⟩], []),
 ([⟨(some 38), .iaddr 9 (.t 37) (.c (.int .i64 0)), none⟩], []),
 ([⟨(some 39), .load (some 9) (.t 38), none⟩], []),
 ([⟨(some 40), .move (.t 2), none⟩], []),
 ([⟨(some 41), .move (.t 3), none⟩], []),
 ([⟨(some 43), .load (some 9) (.t 11), none⟩], []),
 ([⟨(some 44), .move (.t 0), none⟩], []),
 ([⟨(some 45), .move (.t 1), none⟩], []),
 ([⟨(some 46), .cut .slice 10 (.t 45) (some (.c (.int .i64 1))) none, none⟩], []),
 ([⟨(some 47), .move (.t 2), none⟩], []),
 ([⟨(some 48), .move (.t 3), none⟩], []),
 ([⟨(some 49), .move (.t 4), none⟩], []),
 ([⟨(some 42), .call 160 [(.t 33), (.t 39), (.t 40), (.t 41)], none⟩], [⟨(some 43), .load (some 9) (.t 11), none⟩, ⟨(some 46), .cut .slice 10 (.t 45) (some (.c (.int .i64 1))) none, none⟩]),
 ([⟨(some 50), .call 108 [(.t 44), (.t 46), (.t 47), (.t 48), (.t 49)], none⟩], [⟨(some 43), .load (some 9) (.t 11), none⟩]),
 ([⟨(some 51), .call 161 [(.t 32), (.t 42), (.t 43), (.t 50)], none⟩], []),
 ([⟨none, .store 9 (.t 10) (.t 51), none⟩], [])])
 .ret)))))
theorem ent108 : EntOK Tryz.prog 108 ⟨52, v108, [.cell 10 (some 9)]⟩ := fun args σ K ha h =>
 enter (own := List.range 52) Tryz.func108 (by kernel_rfl) (by kernel_rfl) (by kernel_rfl) ha h
def v110 : ACode :=
(.seq
 (.reg [oo 4 (.move (.c .nils))])
 (.seq
 (.reg [oo 5 (.move (.c .nils))])
 (.seq
 (.seq
 (.reg [mv 7 1,
 oo 8 (.move (.c (.int .i64 0)))])
 (.block 0
 (.loop
 (.seq
 (.reg [oo 9 (.bin .int .lss (.t 8) (.t 7))])
 (.seq
 (.cond (.t 9)
 .skip
 (.exit 0))
 (.seq
 (.block 1
 (.seq
 (.reg [mv 10 8,
 mv 6 10])
 (.reg [mv 11 5,
 mv 12 0,
 mv 13 6,
 oo 14 (.bin .int .add (.t 12) (.t 13)),
 oo 15 (.call 162 [(.t 14)]),
 oo 16 (.lit true 9 1 [(.t 15)]),
 oo 17 (.append 9 1 16 (.t 11) (.t 16)),
 mv 5 17])))
 (.reg [oo 18 (.bin .int .add (.t 8) (.c (.int .i64 1))),
 mv 8 18])))))))
 (.seq
 (.reg [mv 19 5,
 mv 4 19])
 .ret))))
theorem ent110 : EntOK Tryz.prog 110 ⟨20, v110, [.slot 4]⟩ := fun args σ K ha h =>
 enter (own := List.range 20) Tryz.func110 (by kernel_rfl) (by kernel_rfl) (by kernel_rfl) ha h
def v112 : ACode :=
(.seq
 (.reg [oo 3 (.new 172 (.t 1))])
 (.seq
 (.reg [mv 4 0,
 oo 5 (.nilck (.t 4)),
 oo 6 (.faddr 1 (.t 5)),
 oo 7 (.load none (.t 6)),
 oo 8 (.faddr 0 (.t 3)),
 oo 9 (.load none (.t 8)),
 oo 10 (.load (some 5) (.t 3)),
 ⟨none, .mapset .str (.t 7) (.t 9) (.t 10), none⟩])
 (.draw [] [([⟨(some 11), .move (.t 0), none⟩], []),
 ([⟨(some 12), .move (.t 0), none⟩], []),
 ([⟨(some 13), .nilck (.t 12), none⟩], []),
 ([⟨(some 14), .faddr 2 (.t 13), none⟩], []),
 ([⟨(some 15), .load none (.t 14), none⟩], []),
 ([⟨(some 16), .faddr 0 (.t 3), none⟩], []),
 ([⟨(some 17), .load none (.t 16), none⟩], []),
 ([⟨(some 18), .lit true 9 1 [(.t 17)], none⟩], [⟨(some 14), .faddr 2 (.t 13), none⟩, ⟨(some 15), .load none (.t 14), none⟩]),
 ([⟨(some 19), .append 9 1 16 (.t 15) (.t 18), none⟩], []),
 ([⟨(some 20), .nilck (.t 11), none⟩], []),
 ([⟨(some 21), .faddr 2 (.t 20), none⟩], []),
 ([⟨none, .store 1 (.t 21) (.t 19), none⟩], [])])))
theorem ent112 : EntOK Tryz.prog 112 ⟨22, v112, []⟩ := fun args σ K ha h =>
 enter (own := List.range 22) Tryz.func112 (by kernel_rfl) (by kernel_rfl) (by kernel_rfl) ha h
def v115 : ACode :=
(.seq
 (.reg [oo 2 (.move (.c (.bool false)))])
 (.seq
 (.reg [mv 6 0,
 oo 7 (.call 170 [(.t 6), (.c (.str ⟨#[35]⟩))]),
 mv 3 7])
 (.seq
 (.seq
 (.reg [mv 8 3,
 oo 9 (.bin .int .lss (.t 8) (.c (.int .i64 0)))])
 (.cond (.t 9)
 (.seq
 (.reg [oo 2 (.move (.c (.bool false)))])
 .ret)
 .skip))
 (.seq
 (.reg [mv 11 0,
 mv 12 3,
 oo 13 (.bin .int .add (.t 12) (.c (.int .i64 1))),
 oo 14 (.cut .str 1 (.t 11) (some (.t 13)) none),
 oo 15 (.call 171 [(.t 14)]),
 mv 10 15,
 oo 16 (.extract (.t 10) 0),
 oo 17 (.extract (.t 10) 1),
 mv 4 16,
 mv 5 17])
 (.seq
 (.reg [mv 18 5,
 oo 19 (.bin .int .eql (.t 18) (.c (.int .i64 0))),
 mv 2 19])
 .ret)))))
theorem ent115 : EntOK Tryz.prog 115 ⟨20, v115, [.slot 2]⟩ := fun args σ K ha h =>
 enter (own := List.range 20) Tryz.func115 (by kernel_rfl) (by kernel_rfl) (by kernel_rfl) ha h
def v117 : ACode :=
(.seq
 (.reg [oo 5 (.new 28 (.t 1)),
 oo 8 (.new 28 (.c (.agg [(.int .i64 0), (.str ⟨#[]⟩), (.int .i64 0), (.int .i64 0), .nils, .nils, .nils, .nils, .nils])))])
 (.seq
 (.reg [mv 22 2,
 mv 9 22])
 (.seq
 (.seq
 (.reg [oo 23 (.faddr 0 (.t 5)),
 oo 24 (.load none (.t 23)),
 oo 25 (.bin .int .eql (.t 24) (.c (.int .i64 5)))])
 (.cond (.t 25)
 (.reg [mv 26 3,
 mv 9 26])
 .skip))
 (.seq
 (.reg [oo 10 (.move (.c .nils))])
 (.seq
 (.seq
 (.reg [oo 27 (.faddr 5 (.t 5)),
 oo 28 (.load none (.t 27)),
 oo 29 (.len .slice (.t 28)),
 oo 30 (.move (.c (.int .i64 0)))])
 (.block 0
 (.loop
 (.seq
 (.reg [oo 31 (.bin .int .lss (.t 30) (.t 29))])
 (.seq
 (.cond (.t 31)
 .skip
 (.exit 0))
 (.seq
 (.block 1
 (.seq
 (.reg [oo 32 (.iaddr 9 (.t 28) (.t 30)),
 oo 33 (.load (some 9) (.t 32)),
 oo 12 (.new 28 (.c (.agg [(.int .i64 0), (.str ⟨#[]⟩), (.int .i64 0), (.int .i64 0), .nils, .nils, .nils, .nils, .nils]))),
 ⟨none, .store 9 (.t 12) (.t 33), none⟩])
 (.reg [mv 34 10,
 mv 35 9,
 oo 36 (.load (some 9) (.t 12)),
 oo 37 (.callv (.t 35) [(.t 36)]),
 oo 38 (.lit true 28 9 [(.t 37)]),
 oo 39 (.append 28 9 160 (.t 34) (.t 38)),
 mv 10 39])))
 (.reg [oo 40 (.bin .int .add (.t 30) (.c (.int .i64 1))),
 mv 30 40])))))))
 (.seq
 (.reg [mv 41 10,
 oo 42 (.faddr 5 (.t 5)),
 ⟨none, .store 1 (.t 42) (.t 41), none⟩])
 (.seq
 (.reg [oo 13 (.move (.c .nils))])
 (.seq
 (.seq
 (.reg [oo 43 (.faddr 6 (.t 5)),
 oo 44 (.load none (.t 43)),
 oo 45 (.len .slice (.t 44)),
 oo 46 (.move (.c (.int .i64 0)))])
 (.block 2
 (.loop
 (.seq
 (.reg [oo 47 (.bin .int .lss (.t 46) (.t 45))])
 (.seq
 (.cond (.t 47)
 .skip
 (.exit 2))
 (.seq
 (.block 3
 (.seq
 (.reg [oo 48 (.iaddr 13 (.t 44) (.t 46)),
 oo 49 (.load (some 13) (.t 48)),
 oo 15 (.new 190 (.c (.agg [(.int .i64 0), (.str ⟨#[]⟩), (.int .i64 0), .nils, (.int .i64 0), (.str ⟨#[]⟩), (.int .i64 0), (.int .i64 0), .nils, .nils, .nils, .nils, .nils]))),
 ⟨none, .store 13 (.t 15) (.t 49), none⟩])
 (.seq
 (.reg [mv 50 2,
 oo 51 (.faddr 4 (.t 15)),
 oo 52 (.load (some 9) (.t 51)),
 oo 53 (.callv (.t 50) [(.t 52)]),
 oo 54 (.faddr 4 (.t 15)),
 ⟨none, .store 9 (.t 54) (.t 53), none⟩])
 (.reg [mv 55 13,
 oo 56 (.load (some 13) (.t 15)),
 oo 57 (.lit true 190 13 [(.t 56)]),
 oo 58 (.append 190 13 216 (.t 55) (.t 57)),
 mv 13 58]))))
 (.reg [oo 59 (.bin .int .add (.t 46) (.c (.int .i64 1))),
 mv 46 59])))))))
 (.seq
 (.reg [mv 60 13,
 oo 61 (.faddr 6 (.t 5)),
 ⟨none, .store 1 (.t 61) (.t 60), none⟩])
 (.seq
 (.reg [oo 16 (.move (.c .nils))])
 (.seq
 (.seq
 (.reg [oo 62 (.faddr 7 (.t 5)),
 oo 63 (.load none (.t 62)),
 oo 64 (.len .slice (.t 63)),
 oo 65 (.move (.c (.int .i64 0)))])
 (.block 4
 (.loop
 (.seq
 (.reg [oo 66 (.bin .int .lss (.t 65) (.t 64))])
 (.seq
 (.cond (.t 66)
 .skip
 (.exit 4))
 (.seq
 (.block 5
 (.seq
 (.reg [oo 67 (.iaddr 10 (.t 63) (.t 65)),
 oo 68 (.load (some 10) (.t 67)),
 oo 18 (.new 191 (.c (.agg [(.str ⟨#[]⟩), (.int .i64 0), (.str ⟨#[]⟩), (.int .i64 0), (.int .i64 0), .nils, .nils, .nils, .nils, .nils]))),
 ⟨none, .store 10 (.t 18) (.t 68), none⟩])
 (.seq
 (.reg [mv 69 3,
 oo 70 (.faddr 1 (.t 18)),
 oo 71 (.load (some 9) (.t 70)),
 oo 72 (.callv (.t 69) [(.t 71)]),
 oo 73 (.faddr 1 (.t 18)),
 ⟨none, .store 9 (.t 73) (.t 72), none⟩])
 (.reg [mv 74 16,
 oo 75 (.load (some 10) (.t 18)),
 oo 76 (.lit true 191 10 [(.t 75)]),
 oo 77 (.append 191 10 176 (.t 74) (.t 76)),
 mv 16 77]))))
 (.reg [oo 78 (.bin .int .add (.t 65) (.c (.int .i64 1))),
 mv 65 78])))))))
 (.seq
 (.reg [mv 79 16,
 oo 80 (.faddr 7 (.t 5)),
 ⟨none, .store 1 (.t 80) (.t 79), none⟩])
 (.seq
 (.reg [oo 19 (.move (.c .nils))])
 (.seq
 (.seq
 (.reg [oo 81 (.faddr 8 (.t 5)),
 oo 82 (.load none (.t 81)),
 oo 83 (.len .slice (.t 82)),
 oo 84 (.move (.c (.int .i64 0)))])
 (.block 6
 (.loop
 (.seq
 (.reg [oo 85 (.bin .int .lss (.t 84) (.t 83))])
 (.seq
 (.cond (.t 85)
 .skip
 (.exit 6))
 (.seq
 (.block 7
 (.seq
 (.reg [oo 86 (.iaddr 10 (.t 82) (.t 84)),
 oo 87 (.load (some 10) (.t 86)),
 oo 21 (.new 193 (.c (.agg [(.int .i64 0), (.int .i64 0), (.str ⟨#[]⟩), (.int .i64 0), (.int .i64 0), .nils, .nils, .nils, .nils, .nils]))),
 ⟨none, .store 10 (.t 21) (.t 87), none⟩])
 (.seq
 (.reg [mv 88 2,
 oo 89 (.faddr 1 (.t 21)),
 oo 90 (.load (some 9) (.t 89)),
 oo 91 (.callv (.t 88) [(.t 90)]),
 oo 92 (.faddr 1 (.t 21)),
 ⟨none, .store 9 (.t 92) (.t 91), none⟩])
 (.reg [mv 93 19,
 oo 94 (.load (some 10) (.t 21)),
 oo 95 (.lit true 193 10 [(.t 94)]),
 oo 96 (.append 193 10 168 (.t 93) (.t 95)),
 mv 19 96]))))
 (.reg [oo 97 (.bin .int .add (.t 84) (.c (.int .i64 1))),
 mv 84 97])))))))
 (.seq
 (.reg [mv 98 19,
 oo 99 (.faddr 8 (.t 5)),
 ⟨none, .store 1 (.t 99) (.t 98), none⟩])
 (.seq
 (.reg [oo 100 (.load (some 9) (.t 5)),
 ⟨none, .store 9 (.t 8) (.t 100), none⟩])
 .ret))))))))))))))))
theorem ent117 : EntOK Tryz.prog 117 ⟨101, v117, [.cell 8 (some 9)]⟩ := fun args σ K ha h =>
 enter (own := List.range 101) Tryz.func117 (by kernel_rfl) (by kernel_rfl) (by kernel_rfl) ha h
def v119 : ACode :=
(.seq
 (.reg [oo 3 (.new 102 (.t 1)),
 oo 4 (.new 63 (.c (.agg [(.str ⟨#[]⟩), (.int .i64 0), (.bool false), .nils])))])
 (.seq
 (.reg [mv 7 0,
 oo 8 (.build [.nilp, .nils] [(0, 1, (.t 7))]),
 oo 9 (.new 108 (.t 8)),
 mv 5 9])
 (.seq
 (.reg [oo 10 (.faddr 1 (.t 3)),
 oo 11 (.load none (.t 10)),
 oo 12 (.len .slice (.t 11)),
 mv 6 12])
 (.seq
 (.draw [] [([⟨(some 13), .move (.t 5), none⟩], []),
 ([⟨(some 14), .faddr 2 (.t 3), none⟩], []),
 ([⟨(some 15), .load (some 9) (.t 14), none⟩], []),
 ([⟨(some 16), .faddr 1 (.t 3), none⟩], []),
 ([⟨(some 17), .load none (.t 16), none⟩], []),
 ([⟨(some 18), .move (.t 6), none⟩], []),
 ([⟨(some 19), .bin .int .sub (.t 18) (.c (.int .i64 1)), none⟩], []),
 ([⟨(some 21), .move (.t 6), none⟩], []),
 ([⟨(some 20), .call 130 [(.c .nils), (.t 17), (.t 19), (.c (.int .i64 (-1)))], none⟩], [⟨(some 14), .faddr 2 (.t 3), none⟩, ⟨(some 15), .load (some 9) (.t 14), none⟩]),
 ([⟨(some 22), .call 174 [(.t 13), (.t 15), (.t 20), (.t 21), (.c (.bool true))], none⟩], [])])
 (.seq
 (.reg [oo 23 (.faddr 0 (.t 3)),
 oo 24 (.load none (.t 23)),
 mv 25 6,
 mv 26 5,
 oo 27 (.nilck (.t 26)),
 oo 28 (.faddr 1 (.t 27)),
 oo 29 (.load none (.t 28)),
 oo 30 (.build [(.str ⟨#[]⟩), (.int .i64 0), (.bool false), .nils] [(0, 1, (.t 24)), (1, 1, (.t 25)), (3, 1, (.t 29))]),
 ⟨none, .store 4 (.t 4) (.t 30), none⟩])
 .ret)))))
theorem ent119 : EntOK Tryz.prog 119 ⟨31, v119, [.cell 4 (some 4)]⟩ := fun args σ K ha h =>
 enter (own := List.range 31) Tryz.func119 (by kernel_rfl) (by kernel_rfl) (by kernel_rfl) ha h
def v120 : ACode :=
(.seq
 (.reg [oo 6 (.new 63 (.c (.agg [(.str ⟨#[]⟩), (.int .i64 0), (.bool false), .nils])))])
 (.seq
 (.reg [mv 8 0,
 oo 9 (.build [.nilp, .nils] [(0, 1, (.t 8))]),
 oo 10 (.new 108 (.t 9)),
 mv 7 10])
 (.seq
 (.draw [] [([⟨(some 11), .move (.t 7), none⟩], []),
 ([⟨(some 12), .move (.t 7), none⟩], []),
 ([⟨(some 13), .nilck (.t 12), none⟩], []),
 ([⟨(some 14), .faddr 1 (.t 13), none⟩], []),
 ([⟨(some 15), .load none (.t 14), none⟩], []),
 ([⟨(some 16), .move (.t 0), none⟩], []),
 ([⟨(some 17), .nilck (.t 16), none⟩], []),
 ([⟨(some 18), .faddr 2 (.t 17), none⟩], []),
 ([⟨(some 19), .load none (.t 18), none⟩], []),
 ([⟨(some 20), .move (.t 1), none⟩], []),
 ([⟨(some 21), .iaddr 1 (.t 19) (.t 20), none⟩], []),
 ([⟨(some 22), .load none (.t 21), none⟩], []),
 ([⟨(some 23), .move (.t 1), none⟩], []),
 ([⟨(some 24), .build [(.int .i64 0), (.int .i64 0), (.int .i64 0), .nils] [(0, 1, (.c (.int .i64 11))), (1, 1, (.t 22)), (2, 1, (.t 23))], none⟩], []),
 ([⟨(some 25), .lit true 122 4 [(.t 24)], none⟩], [⟨(some 14), .faddr 1 (.t 13), none⟩, ⟨(some 15), .load none (.t 14), none⟩]),
 ([⟨(some 26), .append 122 4 48 (.t 15) (.t 25), none⟩], []),
 ([⟨(some 27), .nilck (.t 11), none⟩], []),
 ([⟨(some 28), .faddr 1 (.t 27), none⟩], []),
 ([⟨none, .store 1 (.t 28) (.t 26), none⟩], [])])
 (.seq
 (.reg [mv 29 7,
 oo 30 (.call 175 [(.t 29), (.c (.int .i64 0))])])
 (.seq
 (.reg [mv 31 2,
 mv 32 0,
 oo 33 (.nilck (.t 32)),
 oo 34 (.faddr 2 (.t 33)),
 oo 35 (.load none (.t 34)),
 mv 36 1,
 oo 37 (.iaddr 1 (.t 35) (.t 36)),
 oo 38 (.load none (.t 37)),
 mv 39 7,
 oo 40 (.nilck (.t 39)),
 oo 41 (.faddr 1 (.t 40)),
 oo 42 (.load none (.t 41)),
 oo 43 (.build [(.str ⟨#[]⟩), (.int .i64 0), (.bool false), .nils] [(0, 1, (.t 31)), (1, 1, (.t 38)), (2, 1, (.c (.bool true))), (3, 1, (.t 42))]),
 ⟨none, .store 4 (.t 6) (.t 43), none⟩])
 .ret)))))
theorem ent120 : EntOK Tryz.prog 120 ⟨44, v120, [.cell 6 (some 4)]⟩ := fun args σ K ha h =>
 enter (own := List.range 44) Tryz.func120 (by kernel_rfl) (by kernel_rfl) (by kernel_rfl) ha h
def v121 : ACode :=
(.seq
 (.reg [oo 4 (.new 63 (.c (.agg [(.str ⟨#[]⟩), (.int .i64 0), (.bool false), .nils])))])
 (.seq
 (.reg [mv 6 0,
 oo 7 (.build [.nilp, .nils] [(0, 1, (.t 6))]),
 oo 8 (.new 108 (.t 7)),
 mv 5 8])
 (.seq
 (.reg [mv 9 5,
 oo 10 (.call 37 [(.t 9), (.c (.int .i64 1)), (.c (.int .i64 0))])])
 (.seq
 (.reg [mv 11 5,
 oo 12 (.call 37 [(.t 11), (.c (.int .i64 9)), (.c (.int .i64 0))])])
 (.seq
 (.reg [mv 13 5,
 oo 14 (.call 37 [(.t 13), (.c (.int .i64 1)), (.c (.int .i64 2))])])
 (.seq
 (.reg [mv 15 5,
 oo 16 (.call 37 [(.t 15), (.c (.int .i64 9)), (.c (.int .i64 0))])])
 (.seq
 (.reg [mv 17 5,
 mv 18 1,
 oo 19 (.call 79 [(.t 17), (.c (.int .i64 16)), (.t 18)])])
 (.seq
 (.reg [mv 20 5,
 oo 21 (.call 175 [(.t 20), (.c (.int .i64 2))])])
 (.seq
 (.draw [] [([⟨(some 22), .move (.t 1), none⟩], []),
 ([⟨(some 24), .move (.t 5), none⟩], []),
 ([⟨(some 25), .nilck (.t 24), none⟩], []),
 ([⟨(some 26), .faddr 1 (.t 25), none⟩], []),
 ([⟨(some 27), .load none (.t 26), none⟩], []),
 ([⟨(some 23), .call 123 [(.t 22)], none⟩], [⟨(some 26), .faddr 1 (.t 25), none⟩, ⟨(some 27), .load none (.t 26), none⟩]),
 ([⟨(some 28), .build [(.str ⟨#[]⟩), (.int .i64 0), (.bool false), .nils] [(0, 1, (.t 23)), (1, 1, (.c (.int .i64 2))), (3, 1, (.t 27))], none⟩], []),
 ([⟨none, .store 4 (.t 4) (.t 28), none⟩], [])])
 .ret)))))))))
theorem ent121 : EntOK Tryz.prog 121 ⟨29, v121, [.cell 4 (some 4)]⟩ := fun args σ K ha h =>
 enter (own := List.range 29) Tryz.func121 (by kernel_rfl) (by kernel_rfl) (by kernel_rfl) ha h
def v123 : ACode :=
(.seq
 (.reg [oo 2 (.move (.c (.str ⟨#[]⟩)))])
 (.seq
 (.seq
 (.reg [mv 3 0])
 (.block 0
 (.seq
 (.reg [oo 5 (.bin .int .eql (.t 3) (.c (.int .i64 1))),
 mv 4 5])
 (.cond (.t 4)
 (.seq
 (.reg [oo 2 (.move (.c (.str ⟨#[43]⟩)))])
 .ret)
 (.seq
 (.reg [oo 7 (.bin .int .eql (.t 3) (.c (.int .i64 2))),
 mv 6 7])
 (.cond (.t 6)
 (.seq
 (.reg [oo 2 (.move (.c (.str ⟨#[45]⟩)))])
 .ret)
 (.seq
 (.reg [oo 9 (.bin .int .eql (.t 3) (.c (.int .i64 3))),
 mv 8 9])
 (.cond (.t 8)
 (.seq
 (.reg [oo 2 (.move (.c (.str ⟨#[42]⟩)))])
 .ret)
 (.seq
 (.reg [oo 11 (.bin .int .eql (.t 3) (.c (.int .i64 4))),
 mv 10 11])
 (.cond (.t 10)
 (.seq
 (.reg [oo 2 (.move (.c (.str ⟨#[47]⟩)))])
 .ret)
 (.seq
 (.reg [oo 13 (.bin .int .eql (.t 3) (.c (.int .i64 5))),
 mv 12 13])
 (.cond (.t 12)
 (.seq
 (.reg [oo 2 (.move (.c (.str ⟨#[37]⟩)))])
 .ret)
 (.seq
 (.reg [oo 15 (.bin .int .eql (.t 3) (.c (.int .i64 6))),
 mv 14 15])
 (.cond (.t 14)
 (.seq
 (.reg [oo 2 (.move (.c (.str ⟨#[61, 61]⟩)))])
 .ret)
 (.seq
 (.reg [oo 17 (.bin .int .eql (.t 3) (.c (.int .i64 7))),
 mv 16 17])
 (.cond (.t 16)
 (.seq
 (.reg [oo 2 (.move (.c (.str ⟨#[47, 61]⟩)))])
 .ret)
 (.seq
 (.reg [oo 19 (.bin .int .eql (.t 3) (.c (.int .i64 8))),
 mv 18 19])
 (.cond (.t 18)
 (.seq
 (.reg [oo 2 (.move (.c (.str ⟨#[60]⟩)))])
 .ret)
 (.seq
 (.reg [oo 21 (.bin .int .eql (.t 3) (.c (.int .i64 9))),
 mv 20 21])
 (.cond (.t 20)
 (.seq
 (.reg [oo 2 (.move (.c (.str ⟨#[60, 61]⟩)))])
 .ret)
 (.seq
 (.reg [oo 23 (.bin .int .eql (.t 3) (.c (.int .i64 10))),
 mv 22 23])
 (.cond (.t 22)
 (.seq
 (.reg [oo 2 (.move (.c (.str ⟨#[62]⟩)))])
 .ret)
 (.seq
 (.reg [oo 25 (.bin .int .eql (.t 3) (.c (.int .i64 11))),
 mv 24 25])
 (.cond (.t 24)
 (.seq
 (.reg [oo 2 (.move (.c (.str ⟨#[62, 61]⟩)))])
 .ret)
 .skip))))))))))))))))))))))))
 (.seq
 (.reg [oo 2 (.move (.c (.str ⟨#[]⟩)))])
 .ret)))
theorem ent123 : EntOK Tryz.prog 123 ⟨26, v123, [.slot 2]⟩ := fun args σ K ha h =>
 enter (own := List.range 26) Tryz.func123 (by kernel_rfl) (by kernel_rfl) (by kernel_rfl) ha h
def v124 : ACode :=
(.seq
 (.reg [oo 4 (.move (.c (.int .i64 0)))])
 (.seq
 (.seq
 (.reg [mv 6 0,
 oo 7 (.len .slice (.t 6)),
 oo 8 (.move (.c (.int .i64 0)))])
 (.block 0
 (.loop
 (.seq
 (.reg [oo 9 (.bin .int .lss (.t 8) (.t 7))])
 (.seq
 (.cond (.t 9)
 .skip
 (.exit 0))
 (.seq
 (.block 1
 (.seq
 (.reg [mv 10 8,
 mv 5 10])
 (.seq
 (.reg [mv 11 1,
 mv 12 0,
 mv 13 5,
 oo 14 (.iaddr 1 (.t 12) (.t 13)),
 oo 15 (.load none (.t 14)),
 oo 16 (.bin .str .eql (.t 11) (.t 15))])
 (.cond (.t 16)
 (.seq
 (.reg [mv 17 5,
 mv 4 17])
 .ret)
 .skip))))
 (.reg [oo 18 (.bin .int .add (.t 8) (.c (.int .i64 1))),
 mv 8 18])))))))
 (.seq
 (.reg [oo 4 (.move (.c (.int .i64 (-1))))])
 .ret)))
theorem ent124 : EntOK Tryz.prog 124 ⟨19, v124, [.slot 4]⟩ := fun args σ K ha h =>
 enter (own := List.range 19) Tryz.func124 (by kernel_rfl) (by kernel_rfl) (by kernel_rfl) ha h
def v125 : ACode :=
(.seq
 (.reg [oo 2 (.move (.c (.bool false)))])
 (.seq
 (.seq
 (.reg [mv 5 0,
 oo 6 (.call 176 [(.t 5), (.c (.str ⟨#[35]⟩))]),
 oo 7 (.not (.t 6)),
 mv 8 7,
 og 9 8 false (.move (.t 0)),
 og 10 8 false (.call 176 [(.t 9), (.c (.str ⟨#[35, 45]⟩))]),
 oo 11 (.pick (.t 8) (.c (.bool true)) (.t 10))])
 (.cond (.t 11)
 (.seq
 (.reg [oo 2 (.move (.c (.bool false)))])
 .ret)
 .skip))
 (.seq
 (.reg [mv 13 0,
 oo 14 (.cut .str 1 (.t 13) (some (.c (.int .i64 1))) none),
 oo 15 (.call 171 [(.t 14)]),
 mv 12 15,
 oo 16 (.extract (.t 12) 0),
 oo 17 (.extract (.t 12) 1),
 mv 3 16,
 mv 4 17])
 (.seq
 (.reg [mv 18 4,
 oo 19 (.bin .int .eql (.t 18) (.c (.int .i64 0))),
 mv 2 19])
 .ret))))
theorem ent125 : EntOK Tryz.prog 125 ⟨20, v125, [.slot 2]⟩ := fun args σ K ha h =>
 enter (own := List.range 20) Tryz.func125 (by kernel_rfl) (by kernel_rfl) (by kernel_rfl) ha h
def v126 : ACode :=
(.seq
 (.reg [oo 4 (.move (.c .nils))])
 (.seq
 (.reg [oo 5 (.move (.c .nils))])
 (.seq
 (.reg [mv 6 5,
 mv 7 0,
 oo 8 (.append 9 1 16 (.t 6) (.t 7)),
 mv 5 8])
 (.seq
 (.reg [mv 9 5,
 mv 10 1,
 oo 11 (.append 9 1 16 (.t 9) (.t 10)),
 mv 4 11])
 .ret))))
theorem ent126 : EntOK Tryz.prog 126 ⟨12, v126, [.slot 4]⟩ := fun args σ K ha h =>
 enter (own := List.range 12) Tryz.func126 (by kernel_rfl) (by kernel_rfl) (by kernel_rfl) ha h
def v130 : ACode :=
(.seq
 (.reg [oo 8 (.move (.c .nils))])
 (.seq
 (.reg [oo 9 (.move (.c .nils))])
 (.seq
 (.reg [mv 12 9,
 mv 13 0,
 oo 14 (.append 264 2 24 (.t 12) (.t 13)),
 mv 9 14])
 (.seq
 (.seq
 (.reg [mv 15 1,
 oo 16 (.len .slice (.t 15)),
 oo 17 (.move (.c (.int .i64 0)))])
 (.block 0
 (.loop
 (.seq
 (.reg [oo 18 (.bin .int .lss (.t 17) (.t 16))])
 (.seq
 (.cond (.t 18)
 .skip
 (.exit 0))
 (.seq
 (.block 1
 (.seq
 (.reg [mv 19 17,
 oo 20 (.iaddr 1 (.t 15) (.t 17)),
 oo 21 (.load none (.t 20)),
 mv 10 19,
 mv 11 21])
 (.reg [mv 22 9,
 mv 23 11,
 mv 24 2,
 mv 25 10,
 mv 26 3,
 oo 27 (.bin .int .mul (.t 25) (.t 26)),
 oo 28 (.bin .int .add (.t 24) (.t 27)),
 oo 29 (.build [(.str ⟨#[]⟩), (.int .i64 0)] [(0, 1, (.t 23)), (1, 1, (.t 28))]),
 oo 30 (.lit true 264 2 [(.t 29)]),
 oo 31 (.append 264 2 24 (.t 22) (.t 30)),
 mv 9 31])))
 (.reg [oo 32 (.bin .int .add (.t 17) (.c (.int .i64 1))),
 mv 17 32])))))))
 (.seq
 (.reg [mv 33 9,
 mv 8 33])
 .ret)))))
theorem ent130 : EntOK Tryz.prog 130 ⟨34, v130, [.slot 8]⟩ := fun args σ K ha h =>
 enter (own := List.range 34) Tryz.func130 (by kernel_rfl) (by kernel_rfl) (by kernel_rfl) ha h
def v133 : ACode :=
(.seq
 (.reg [oo 6 (.move (.c (.int .i64 0))),
 oo 7 (.move (.c (.int .i64 0)))])
 (.seq
 (.seq
 (.reg [mv 8 0,
 oo 9 (.bin .int .eql (.t 8) (.c (.int .i64 4))),
 mv 10 9,
 og 11 10 false (.move (.t 0)),
 og 12 10 false (.bin .int .eql (.t 11) (.c (.int .i64 5))),
 oo 13 (.pick (.t 10) (.c (.bool true)) (.t 12)),
 mv 14 13,
 og 15 14 true (.move (.t 2)),
 og 16 14 true (.bin .int .eql (.t 15) (.c (.int .i64 0))),
 oo 17 (.pick (.t 14) (.t 16) (.c (.bool false)))])
 (.cond (.t 17)
 (.seq
 (.reg [oo 6 (.move (.c (.int .i64 0))),
 oo 7 (.move (.c (.int .i64 10)))])
 .ret)
 .skip))
 (.seq
 (.seq
 (.reg [mv 18 0])
 (.block 0
 (.seq
 (.reg [oo 20 (.bin .int .eql (.t 18) (.c (.int .i64 1))),
 mv 19 20])
 (.cond (.t 19)
 (.seq
 (.reg [mv 21 1,
 mv 22 2,
 oo 23 (.bin .int .add (.t 21) (.t 22)),
 mv 6 23,
 oo 7 (.move (.c (.int .i64 0)))])
 .ret)
 (.seq
 (.reg [oo 25 (.bin .int .eql (.t 18) (.c (.int .i64 2))),
 mv 24 25])
 (.cond (.t 24)
 (.seq
 (.reg [mv 26 1,
 mv 27 2,
 oo 28 (.bin .int .sub (.t 26) (.t 27)),
 mv 6 28,
 oo 7 (.move (.c (.int .i64 0)))])
 .ret)
 (.seq
 (.reg [oo 30 (.bin .int .eql (.t 18) (.c (.int .i64 3))),
 mv 29 30])
 (.cond (.t 29)
 (.seq
 (.reg [mv 31 1,
 mv 32 2,
 oo 33 (.bin .int .mul (.t 31) (.t 32)),
 mv 6 33,
 oo 7 (.move (.c (.int .i64 0)))])
 .ret)
 (.seq
 (.reg [oo 35 (.bin .int .eql (.t 18) (.c (.int .i64 4))),
 mv 34 35])
 (.cond (.t 34)
 (.seq
 (.reg [mv 36 1,
 mv 37 2,
 oo 38 (.bin .int .quo (.t 36) (.t 37)),
 mv 6 38,
 oo 7 (.move (.c (.int .i64 0)))])
 .ret)
 (.seq
 (.reg [oo 40 (.bin .int .eql (.t 18) (.c (.int .i64 5))),
 mv 39 40])
 (.cond (.t 39)
 (.seq
 (.reg [mv 41 1,
 mv 42 2,
 oo 43 (.bin .int .rem (.t 41) (.t 42)),
 mv 6 43,
 oo 7 (.move (.c (.int .i64 0)))])
 .ret)
 .skip))))))))))))
 (.seq
 (.seq
 (.reg [mv 44 0,
 oo 45 (.call 134 [(.t 44)]),
 oo 46 (.not (.t 45))])
 (.cond (.t 46)
 (.seq
 (.reg [oo 6 (.move (.c (.int .i64 0))),
 oo 7 (.move (.c (.int .i64 1)))])
 .ret)
 .skip))
 (.seq
 (.reg [mv 47 0,
 mv 48 1,
 mv 49 2,
 oo 50 (.call 180 [(.t 47), (.t 48), (.t 49)]),
 oo 51 (.call 179 [(.t 50)]),
 mv 6 51,
 oo 7 (.move (.c (.int .i64 0)))])
 .ret)))))
theorem ent133 : EntOK Tryz.prog 133 ⟨52, v133, [.slot 6, .slot 7]⟩ := fun args σ K ha h =>
 enter (own := List.range 52) Tryz.func133 (by kernel_rfl) (by kernel_rfl) (by kernel_rfl) ha h
def v134 : ACode :=
(.seq
 (.reg [oo 2 (.move (.c (.bool false)))])
 (.seq
 (.reg [mv 3 0,
 oo 4 (.bin .int .geq (.t 3) (.c (.int .i64 6))),
 mv 5 4,
 og 6 5 true (.move (.t 0)),
 og 7 5 true (.bin .int .leq (.t 6) (.c (.int .i64 11))),
 oo 8 (.pick (.t 5) (.t 7) (.c (.bool false))),
 mv 2 8])
 .ret))
theorem ent134 : EntOK Tryz.prog 134 ⟨9, v134, [.slot 2]⟩ := fun args σ K ha h =>
 enter (own := List.range 9) Tryz.func134 (by kernel_rfl) (by kernel_rfl) (by kernel_rfl) ha h
def v135 : ACode :=
(.seq
 (.reg [oo 2 (.move (.c (.bool false)))])
 (.scope
 (.seq
 .skip
 (.seq
 (.block 0
 (.loop
 (.seq
 (.seq
 (.reg [mv 4 0,
 oo 5 (.nilck (.t 4)),
 oo 6 (.faddr 1 (.t 5)),
 oo 7 (.load none (.t 6)),
 mv 8 0,
 oo 9 (.nilck (.t 8)),
 oo 10 (.faddr 0 (.t 9)),
 oo 11 (.load none (.t 10)),
 oo 12 (.len .str (.t 11)),
 oo 13 (.bin .int .lss (.t 7) (.t 12))])
 (.cond (.t 13)
 .skip
 (.exit 0)))
 (.block 1
 (.seq
 (.reg [mv 14 0,
 oo 15 (.nilck (.t 14)),
 oo 16 (.faddr 0 (.t 15)),
 oo 17 (.load none (.t 16)),
 mv 18 0,
 oo 19 (.nilck (.t 18)),
 oo 20 (.faddr 1 (.t 19)),
 oo 21 (.load none (.t 20)),
 oo 22 (.index (.t 17) (.t 21)),
 mv 3 22])
 (.block 2
 (.seq
 (.reg [mv 24 3,
 oo 25 (.bin .int .eql (.t 24) (.c (.int .u8 32))),
 mv 23 25])
 (.cond (.t 23)
 (.seq
 (.reg [mv 26 0,
 oo 27 (.nilck (.t 26)),
 oo 28 (.faddr 1 (.t 27)),
 oo 29 (.load none (.t 28)),
 oo 30 (.bin .int .add (.t 29) (.c (.int .i64 1))),
 oo 31 (.nilck (.t 26)),
 oo 32 (.faddr 1 (.t 31)),
 ⟨none, .store 1 (.t 32) (.t 30), none⟩])
 (.reg [mv 33 0,
 oo 34 (.nilck (.t 33)),
 oo 35 (.faddr 2 (.t 34)),
 oo 36 (.faddr 1 (.t 35)),
 oo 37 (.load none (.t 36)),
 oo 38 (.bin .int .add (.t 37) (.c (.int .i64 1))),
 oo 39 (.nilck (.t 33)),
 oo 40 (.faddr 2 (.t 39)),
 oo 41 (.faddr 1 (.t 40)),
 ⟨none, .store 1 (.t 41) (.t 38), none⟩]))
 (.seq
 (.reg [mv 43 3,
 oo 44 (.bin .int .eql (.t 43) (.c (.int .u8 10))),
 mv 42 44])
 (.cond (.t 42)
 (.seq
 (.reg [mv 45 0,
 oo 46 (.nilck (.t 45)),
 oo 47 (.faddr 1 (.t 46)),
 oo 48 (.load none (.t 47)),
 oo 49 (.bin .int .add (.t 48) (.c (.int .i64 1))),
 oo 50 (.nilck (.t 45)),
 oo 51 (.faddr 1 (.t 50)),
 ⟨none, .store 1 (.t 51) (.t 49), none⟩])
 (.reg [mv 52 0,
 mv 53 0,
 oo 54 (.nilck (.t 53)),
 oo 55 (.faddr 2 (.t 54)),
 oo 56 (.faddr 0 (.t 55)),
 oo 57 (.load none (.t 56)),
 oo 58 (.bin .int .add (.t 57) (.c (.int .i64 1))),
 oo 59 (.build [(.int .i64 0), (.int .i64 0)] [(0, 1, (.t 58)), (1, 1, (.c (.int .i64 1)))]),
 oo 60 (.nilck (.t 52)),
 oo 61 (.faddr 2 (.t 60)),
 ⟨none, .store 2 (.t 61) (.t 59), none⟩]))
 (.seq
 (.reg [mv 63 3,
 oo 64 (.bin .int .eql (.t 63) (.c (.int .u8 45))),
 mv 65 64,
 og 66 65 true (.move (.t 0)),
 og 67 65 true (.nilck (.t 66)),
 og 68 65 true (.faddr 1 (.t 67)),
 og 69 65 true (.load none (.t 68)),
 og 70 65 true (.bin .int .add (.t 69) (.c (.int .i64 1))),
 og 71 65 true (.move (.t 0)),
 og 72 65 true (.nilck (.t 71)),
 og 73 65 true (.faddr 0 (.t 72)),
 og 74 65 true (.load none (.t 73)),
 og 75 65 true (.len .str (.t 74)),
 og 76 65 true (.bin .int .lss (.t 70) (.t 75)),
 oo 77 (.pick (.t 65) (.t 76) (.c (.bool false))),
 mv 78 77,
 og 79 78 true (.move (.t 0)),
 og 80 78 true (.nilck (.t 79)),
 og 81 78 true (.faddr 0 (.t 80)),
 og 82 78 true (.load none (.t 81)),
 og 83 78 true (.move (.t 0)),
 og 84 78 true (.nilck (.t 83)),
 og 85 78 true (.faddr 1 (.t 84)),
 og 86 78 true (.load none (.t 85)),
 og 87 78 true (.bin .int .add (.t 86) (.c (.int .i64 1))),
 og 88 78 true (.index (.t 82) (.t 87)),
 og 89 78 true (.bin .int .eql (.t 88) (.c (.int .u8 45))),
 oo 90 (.pick (.t 78) (.t 89) (.c (.bool false))),
 mv 62 90])
 (.cond (.t 62)
 (.seq
 (.reg [mv 91 0,
 oo 92 (.call 181 [(.t 91)])])
 (.exit 1))
 (.exit 0)))))))))))))
 (.seq
 (.reg [mv 93 0,
 oo 94 (.nilck (.t 93)),
 oo 95 (.faddr 1 (.t 94)),
 oo 96 (.load none (.t 95)),
 mv 97 0,
 oo 98 (.nilck (.t 97)),
 oo 99 (.faddr 0 (.t 98)),
 oo 100 (.load none (.t 99)),
 oo 101 (.len .str (.t 100)),
 oo 102 (.bin .int .lss (.t 96) (.t 101)),
 mv 2 102])
 .ret)))))
theorem ent135 : EntOK Tryz.prog 135 ⟨103, v135, [.slot 2]⟩ := fun args σ K ha h =>
 enter (own := List.range 103) Tryz.func135 (by kernel_rfl) (by kernel_rfl) (by kernel_rfl) ha h
def v136 : ACode :=
(.seq
 (.reg [oo 2 (.new 132 (.c (.agg [(.int .i64 0), (.str ⟨#[]⟩), (.int .i64 0), (.int .i64 0), (.int .i64 0), (.bool false)]))),
 oo 3 (.move (.c (.int .i64 0)))])
 (.seq
 (.reg [mv 8 0,
 oo 9 (.nilck (.t 8)),
 oo 10 (.faddr 0 (.t 9)),
 oo 11 (.load none (.t 10)),
 mv 12 0,
 oo 13 (.nilck (.t 12)),
 oo 14 (.faddr 1 (.t 13)),
 oo 15 (.load none (.t 14)),
 oo 16 (.index (.t 11) (.t 15)),
 oo 17 (.call 182 [(.t 16)]),
 mv 4 17])
 (.seq
 (.seq
 (.reg [mv 18 4,
 oo 19 (.bin .int .eql (.t 18) (.c (.int .i64 0)))])
 (.cond (.t 19)
 (.seq
 (.reg [oo 20 (.build [(.int .i64 0), (.str ⟨#[]⟩), (.int .i64 0), (.int .i64 0), (.int .i64 0), (.bool false)] []),
 ⟨none, .store 6 (.t 2) (.t 20), none⟩,
 oo 3 (.move (.c (.int .i64 20)))])
 .ret)
 .skip))
 (.seq
 (.reg [mv 21 0,
 oo 22 (.nilck (.t 21)),
 oo 23 (.faddr 1 (.t 22)),
 oo 24 (.load none (.t 23)),
 mv 5 24])
 (.seq
 (.reg [mv 25 0,
 oo 26 (.nilck (.t 25)),
 oo 27 (.faddr 2 (.t 26)),
 oo 28 (.load (some 2) (.t 27)),
 oo 29 (.build [(.int .i64 0), (.str ⟨#[]⟩), (.int .i64 0), (.int .i64 0), (.int .i64 0), (.bool false)] [(3, 2, (.t 28))]),
 oo 6 (.new 132 (.c (.agg [(.int .i64 0), (.str ⟨#[]⟩), (.int .i64 0), (.int .i64 0), (.int .i64 0), (.bool false)]))),
 ⟨none, .store 6 (.t 6) (.t 29), none⟩])
 (.seq
 (.reg [mv 30 0,
 oo 31 (.nilck (.t 30)),
 oo 32 (.faddr 1 (.t 31)),
 oo 33 (.load none (.t 32)),
 oo 34 (.bin .int .add (.t 33) (.c (.int .i64 1))),
 oo 35 (.nilck (.t 30)),
 oo 36 (.faddr 1 (.t 35)),
 ⟨none, .store 1 (.t 36) (.t 34), none⟩])
 (.seq
 (.block 0
 (.loop
 (.seq
 (.seq
 (.reg [mv 37 0,
 oo 38 (.nilck (.t 37)),
 oo 39 (.faddr 1 (.t 38)),
 oo 40 (.load none (.t 39)),
 mv 41 0,
 oo 42 (.nilck (.t 41)),
 oo 43 (.faddr 0 (.t 42)),
 oo 44 (.load none (.t 43)),
 oo 45 (.len .str (.t 44)),
 oo 46 (.bin .int .lss (.t 40) (.t 45)),
 mv 47 46,
 og 48 47 true (.move (.t 4)),
 og 49 47 true (.move (.t 0)),
 og 50 47 true (.nilck (.t 49)),
 og 51 47 true (.faddr 0 (.t 50)),
 og 52 47 true (.load none (.t 51)),
 og 53 47 true (.move (.t 0)),
 og 54 47 true (.nilck (.t 53)),
 og 55 47 true (.faddr 1 (.t 54)),
 og 56 47 true (.load none (.t 55)),
 og 57 47 true (.index (.t 52) (.t 56)),
 og 58 47 true (.call 183 [(.t 48), (.t 57)]),
 oo 59 (.pick (.t 47) (.t 58) (.c (.bool false)))])
 (.cond (.t 59)
 .skip
 (.exit 0)))
 (.block 1
 (.reg [mv 60 0,
 oo 61 (.nilck (.t 60)),
 oo 62 (.faddr 1 (.t 61)),
 oo 63 (.load none (.t 62)),
 oo 64 (.bin .int .add (.t 63) (.c (.int .i64 1))),
 oo 65 (.nilck (.t 60)),
 oo 66 (.faddr 1 (.t 65)),
 ⟨none, .store 1 (.t 66) (.t 64), none⟩])))))
 (.seq
 (.reg [mv 67 0,
 oo 68 (.nilck (.t 67)),
 oo 69 (.faddr 0 (.t 68)),
 oo 70 (.load none (.t 69)),
 mv 71 5,
 mv 72 0,
 oo 73 (.nilck (.t 72)),
 oo 74 (.faddr 1 (.t 73)),
 oo 75 (.load none (.t 74)),
 oo 76 (.cut .str 1 (.t 70) (some (.t 71)) (some (.t 75))),
 oo 77 (.faddr 1 (.t 6)),
 ⟨none, .store 1 (.t 77) (.t 76), none⟩])
 (.seq
 (.reg [mv 78 0,
 oo 79 (.nilck (.t 78)),
 oo 80 (.faddr 2 (.t 79)),
 oo 81 (.faddr 1 (.t 80)),
 oo 82 (.load none (.t 81)),
 mv 83 0,
 oo 84 (.nilck (.t 83)),
 oo 85 (.faddr 1 (.t 84)),
 oo 86 (.load none (.t 85)),
 mv 87 5,
 oo 88 (.bin .int .sub (.t 86) (.t 87)),
 oo 89 (.bin .int .add (.t 82) (.t 88)),
 oo 90 (.nilck (.t 78)),
 oo 91 (.faddr 2 (.t 90)),
 oo 92 (.faddr 1 (.t 91)),
 ⟨none, .store 1 (.t 92) (.t 89), none⟩])
 (.seq
 (.reg [mv 93 4,
 oo 94 (.faddr 1 (.t 6)),
 oo 95 (.load none (.t 94)),
 oo 96 (.call 184 [(.t 93), (.t 95)]),
 oo 97 (.faddr 0 (.t 6)),
 ⟨none, .store 1 (.t 97) (.t 96), none⟩])
 (.seq
 (.seq
 (.reg [oo 98 (.faddr 0 (.t 6)),
 oo 99 (.load none (.t 98)),
 oo 100 (.bin .int .neq (.t 99) (.c (.int .i64 4))),
 mv 101 100,
 og 102 101 true (.faddr 1 (.t 6)),
 og 103 101 true (.load none (.t 102)),
 og 104 101 true (.len .str (.t 103)),
 og 105 101 true (.bin .int .gtr (.t 104) (.c (.int .i64 32))),
 oo 106 (.pick (.t 101) (.t 105) (.c (.bool false)))])
 (.cond (.t 106)
 (.seq
 (.reg [oo 107 (.build [(.int .i64 0), (.str ⟨#[]⟩), (.int .i64 0), (.int .i64 0), (.int .i64 0), (.bool false)] []),
 ⟨none, .store 6 (.t 2) (.t 107), none⟩,
 oo 3 (.move (.c (.int .i64 2)))])
 .ret)
 .skip))
 (.seq
 (.reg [oo 7 (.move (.c (.int .i64 0)))])
 (.seq
 (.seq
 (.reg [oo 108 (.faddr 0 (.t 6)),
 oo 109 (.load none (.t 108)),
 oo 110 (.bin .int .eql (.t 109) (.c (.int .i64 4)))])
 (.cond (.t 110)
 (.reg [oo 112 (.faddr 1 (.t 6)),
 oo 113 (.load none (.t 112)),
 oo 114 (.call 185 [(.t 113)]),
 mv 111 114,
 oo 115 (.extract (.t 111) 0),
 oo 116 (.extract (.t 111) 1),
 oo 117 (.faddr 2 (.t 6)),
 ⟨none, .store 1 (.t 117) (.t 115), none⟩,
 mv 7 116])
 .skip))
 (.seq
 (.seq
 (.reg [mv 118 7,
 oo 119 (.bin .int .neq (.t 118) (.c (.int .i64 0)))])
 (.cond (.t 119)
 (.seq
 (.reg [oo 120 (.build [(.int .i64 0), (.str ⟨#[]⟩), (.int .i64 0), (.int .i64 0), (.int .i64 0), (.bool false)] []),
 mv 121 7,
 ⟨none, .store 6 (.t 2) (.t 120), none⟩,
 mv 3 121])
 .ret)
 .skip))
 (.seq
 (.reg [oo 122 (.load (some 6) (.t 6)),
 ⟨none, .store 6 (.t 2) (.t 122), none⟩,
 oo 3 (.move (.c (.int .i64 0)))])
 .ret)))))))))))))))
theorem ent136 : EntOK Tryz.prog 136 ⟨123, v136, [.cell 2 (some 6), .slot 3]⟩ := fun args σ K ha h =>
 enter (own := List.range 123) Tryz.func136 (by kernel_rfl) (by kernel_rfl) (by kernel_rfl) ha h
def v137 : ACode :=
(.seq
 (.reg [oo 3 (.new 132 (.t 1)),
 oo 4 (.move (.c (.bool false)))])
 (.seq
 (.reg [mv 5 0,
 oo 6 (.nilck (.t 5)),
 oo 7 (.faddr 2 (.t 6)),
 ⟨none, .store 1 (.t 7) (.c (.bool false)), none⟩])
 (.seq
 (.seq
 (.reg [oo 8 (.faddr 0 (.t 3)),
 oo 9 (.load none (.t 8)),
 oo 10 (.bin .int .eql (.t 9) (.c (.int .i64 5))),
 mv 11 10,
 og 12 11 true (.faddr 1 (.t 3)),
 og 13 11 true (.load none (.t 12)),
 og 14 11 true (.bin .str .eql (.t 13) (.c (.str ⟨#[123]⟩))),
 oo 15 (.pick (.t 11) (.t 14) (.c (.bool false)))])
 (.cond (.t 15)
 (.seq
 (.reg [oo 4 (.move (.c (.bool true)))])
 .ret)
 .skip))
 (.seq
 (.seq
 (.draw [] [([⟨(some 16), .faddr 3 (.t 3), none⟩], []),
 ([⟨(some 17), .faddr 1 (.t 16), none⟩], []),
 ([⟨(some 18), .load none (.t 17), none⟩], []),
 ([⟨(some 19), .move (.t 0), none⟩], []),
 ([⟨(some 20), .call 186 [(.t 19)], none⟩], [⟨(some 16), .faddr 3 (.t 3), none⟩, ⟨(some 17), .faddr 1 (.t 16), none⟩, ⟨(some 18), .load none (.t 17), none⟩]),
 ([⟨(some 21), .bin .int .gtr (.t 18) (.t 20), none⟩], [])])
 (.cond (.t 21)
 (.seq
 (.reg [mv 22 0,
 oo 23 (.call 141 [(.t 22), (.c (.str ⟨#[123]⟩))])])
 (.seq
 (.reg [mv 24 0,
 oo 25 (.faddr 3 (.t 3)),
 oo 26 (.faddr 1 (.t 25)),
 oo 27 (.load none (.t 26)),
 oo 28 (.call 187 [(.t 24), (.c (.int .i64 0)), (.t 27)])])
 (.seq
 (.reg [oo 4 (.move (.c (.bool true)))])
 .ret)))
 .skip))
 (.seq
 (.reg [mv 29 0,
 oo 30 (.call 141 [(.t 29), (.c (.str ⟨#[123]⟩))])])
 (.seq
 (.reg [mv 31 0,
 oo 32 (.call 141 [(.t 31), (.c (.str ⟨#[125]⟩))])])
 (.seq
 (.reg [oo 4 (.move (.c (.bool false)))])
 .ret)))))))
theorem ent137 : EntOK Tryz.prog 137 ⟨33, v137, [.slot 4]⟩ := fun args σ K ha h =>
 enter (own := List.range 33) Tryz.func137 (by kernel_rfl) (by kernel_rfl) (by kernel_rfl) ha h
def v139 : ACode :=
(.seq
 (.reg [oo 3 (.new 132 (.t 1))])
 (.seq
 (.reg [oo 4 (.move (.c (.int .i64 (-1))))])
 (.seq
 (.block 0
 (.seq
 (.reg [oo 6 (.faddr 0 (.t 3)),
 oo 7 (.load none (.t 6)),
 oo 8 (.bin .int .eql (.t 7) (.c (.int .i64 5))),
 mv 9 8,
 og 10 9 true (.faddr 1 (.t 3)),
 og 11 9 true (.load none (.t 10)),
 og 12 9 true (.bin .str .eql (.t 11) (.c (.str ⟨#[41]⟩))),
 oo 13 (.pick (.t 9) (.t 12) (.c (.bool false))),
 mv 5 13])
 (.cond (.t 5)
 (.reg [mv 14 0,
 oo 15 (.lit true 285 1 [(.c (.int .i64 1))]),
 oo 16 (.call 190 [(.t 14), (.c (.int .i64 2)), (.t 15)]),
 mv 4 16])
 (.seq
 (.reg [oo 18 (.faddr 0 (.t 3)),
 oo 19 (.load none (.t 18)),
 oo 20 (.bin .int .eql (.t 19) (.c (.int .i64 5))),
 mv 21 20,
 og 22 21 true (.faddr 1 (.t 3)),
 og 23 21 true (.load none (.t 22)),
 og 24 21 true (.bin .str .eql (.t 23) (.c (.str ⟨#[125]⟩))),
 oo 25 (.pick (.t 21) (.t 24) (.c (.bool false))),
 mv 17 25])
 (.cond (.t 17)
 (.reg [mv 26 0,
 oo 27 (.call 190 [(.t 26), (.c (.int .i64 1)), (.c .nils)]),
 mv 4 27])
 (.seq
 (.reg [oo 29 (.faddr 0 (.t 3)),
 oo 30 (.load none (.t 29)),
 oo 31 (.bin .int .neq (.t 30) (.c (.int .i64 6))),
 mv 28 31])
 (.cond (.t 28)
 .skip
 (.seq
 (.reg [oo 33 (.faddr 1 (.t 3)),
 oo 34 (.load none (.t 33)),
 oo 35 (.bin .str .eql (.t 34) (.c (.str ⟨#[105, 110]⟩))),
 mv 32 35])
 (.cond (.t 32)
 (.reg [mv 36 0,
 oo 37 (.lit true 285 1 [(.c (.int .i64 1)), (.c (.int .i64 2))]),
 oo 38 (.call 190 [(.t 36), (.c (.int .i64 3)), (.t 37)]),
 mv 4 38])
 (.seq
 (.reg [oo 40 (.faddr 1 (.t 3)),
 oo 41 (.load none (.t 40)),
 oo 42 (.bin .str .eql (.t 41) (.c (.str ⟨#[111, 102]⟩))),
 mv 39 42])
 (.cond (.t 39)
 (.reg [mv 43 0,
 oo 44 (.lit true 285 1 [(.c (.int .i64 1)), (.c (.int .i64 2))]),
 oo 45 (.call 190 [(.t 43), (.c (.int .i64 4)), (.t 44)]),
 mv 4 45])
 (.seq
 (.reg [oo 47 (.faddr 1 (.t 3)),
 oo 48 (.load none (.t 47)),
 oo 49 (.bin .str .eql (.t 48) (.c (.str ⟨#[116, 104, 101, 110]⟩))),
 mv 46 49])
 (.cond (.t 46)
 (.reg [mv 50 0,
 oo 51 (.lit true 285 1 [(.c (.int .i64 1)), (.c (.int .i64 2))]),
 oo 52 (.call 190 [(.t 50), (.c (.int .i64 5)), (.t 51)]),
 mv 4 52])
 (.seq
 (.reg [oo 54 (.faddr 1 (.t 3)),
 oo 55 (.load none (.t 54)),
 oo 56 (.bin .str .eql (.t 55) (.c (.str ⟨#[101, 108, 115, 101]⟩))),
 mv 53 56])
 (.cond (.t 53)
 (.reg [mv 57 0,
 oo 58 (.lit true 285 1 [(.c (.int .i64 1)), (.c (.int .i64 2))]),
 oo 59 (.call 190 [(.t 57), (.c (.int .i64 6)), (.t 58)]),
 mv 4 59])
 .skip)))))))))))))))
 (.seq
 (.reg [mv 60 4,
 oo 61 (.bin .int .geq (.t 60) (.c (.int .i64 0)))])
 (.cond (.t 61)
 (.reg [mv 62 0,
 mv 63 4,
 oo 64 (.call 191 [(.t 62), (.t 63)])])
 .skip)))))
theorem ent139 : EntOK Tryz.prog 139 ⟨65, v139, []⟩ := fun args σ K ha h =>
 enter (own := List.range 65) Tryz.func139 (by kernel_rfl) (by kernel_rfl) (by kernel_rfl) ha h
def v140 : ACode :=
(.seq
 (.reg [oo 3 (.new 132 (.t 1))])
 (.block 0
 (.seq
 (.reg [oo 5 (.faddr 0 (.t 3)),
 oo 6 (.load none (.t 5)),
 oo 7 (.bin .int .eql (.t 6) (.c (.int .i64 5))),
 mv 8 7,
 og 9 8 true (.faddr 1 (.t 3)),
 og 10 8 true (.load none (.t 9)),
 og 11 8 true (.bin .str .eql (.t 10) (.c (.str ⟨#[40]⟩))),
 oo 12 (.pick (.t 8) (.t 11) (.c (.bool false))),
 mv 4 12])
 (.cond (.t 4)
 (.reg [mv 13 0,
 oo 14 (.call 187 [(.t 13), (.c (.int .i64 2)), (.c (.int .i64 0))])])
 (.seq
 (.reg [oo 16 (.faddr 0 (.t 3)),
 oo 17 (.load none (.t 16)),
 oo 18 (.bin .int .eql (.t 17) (.c (.int .i64 5))),
 mv 19 18,
 og 20 19 true (.faddr 1 (.t 3)),
 og 21 19 true (.load none (.t 20)),
 og 22 19 true (.bin .str .eql (.t 21) (.c (.str ⟨#[123]⟩))),
 oo 23 (.pick (.t 19) (.t 22) (.c (.bool false))),
 mv 15 23])
 (.cond (.t 15)
 (.reg [mv 24 0,
 oo 25 (.call 187 [(.t 24), (.c (.int .i64 1)), (.c (.int .i64 0))])])
 (.seq
 (.reg [oo 27 (.faddr 0 (.t 3)),
 oo 28 (.load none (.t 27)),
 oo 29 (.bin .int .neq (.t 28) (.c (.int .i64 6))),
 mv 26 29])
 (.cond (.t 26)
 .skip
 (.seq
 (.reg [oo 31 (.faddr 1 (.t 3)),
 oo 32 (.load none (.t 31)),
 oo 33 (.bin .str .eql (.t 32) (.c (.str ⟨#[108, 101, 116]⟩))),
 mv 30 33])
 (.cond (.t 30)
 (.seq
 (.reg [mv 34 0,
 oo 35 (.call 187 [(.t 34), (.c (.int .i64 3)), (.c (.int .i64 0))])])
 (.reg [mv 36 0,
 oo 37 (.nilck (.t 36)),
 oo 38 (.faddr 2 (.t 37)),
 ⟨none, .store 1 (.t 38) (.c (.bool true)), none⟩]))
 (.seq
 (.reg [oo 40 (.faddr 1 (.t 3)),
 oo 41 (.load none (.t 40)),
 oo 42 (.bin .str .eql (.t 41) (.c (.str ⟨#[99, 97, 115, 101]⟩))),
 mv 39 42])
 (.cond (.t 39)
 (.reg [mv 43 0,
 oo 44 (.call 187 [(.t 43), (.c (.int .i64 4)), (.c (.int .i64 0))])])
 (.seq
 (.reg [oo 46 (.faddr 1 (.t 3)),
 oo 47 (.load none (.t 46)),
 oo 48 (.bin .str .eql (.t 47) (.c (.str ⟨#[111, 102]⟩))),
 mv 45 48])
 (.cond (.t 45)
 (.reg [mv 49 0,
 oo 50 (.nilck (.t 49)),
 oo 51 (.faddr 2 (.t 50)),
 ⟨none, .store 1 (.t 51) (.c (.bool true)), none⟩])
 (.seq
 (.reg [oo 53 (.faddr 1 (.t 3)),
 oo 54 (.load none (.t 53)),
 oo 55 (.bin .str .eql (.t 54) (.c (.str ⟨#[105, 102]⟩))),
 mv 52 55])
 (.cond (.t 52)
 (.reg [mv 56 0,
 oo 57 (.call 187 [(.t 56), (.c (.int .i64 5)), (.c (.int .i64 0))])])
 (.seq
 (.reg [oo 59 (.faddr 1 (.t 3)),
 oo 60 (.load none (.t 59)),
 oo 61 (.bin .str .eql (.t 60) (.c (.str ⟨#[116, 104, 101, 110]⟩))),
 mv 58 61])
 (.cond (.t 58)
 (.reg [mv 62 0,
 oo 63 (.call 187 [(.t 62), (.c (.int .i64 6)), (.c (.int .i64 0))])])
 .skip))))))))))))))))))
theorem ent140 : EntOK Tryz.prog 140 ⟨64, v140, []⟩ := fun args σ K ha h =>
 enter (own := List.range 64) Tryz.func140 (by kernel_rfl) (by kernel_rfl) (by kernel_rfl) ha h
def v141 : ACode :=
(.draw [] [([⟨(some 4), .move (.t 0), none⟩], []),
 ([⟨(some 5), .move (.t 0), none⟩], []),
 ([⟨(some 6), .nilck (.t 5), none⟩], []),
 ([⟨(some 7), .faddr 0 (.t 6), none⟩], []),
 ([⟨(some 8), .load none (.t 7), none⟩], []),
 ([⟨(some 9), .move (.t 1), none⟩], []),
 ([⟨(some 10), .move (.t 0), none⟩], []),
 ([⟨(some 11), .nilck (.t 10), none⟩], []),
 ([⟨(some 12), .faddr 3 (.t 11), none⟩], []),
 ([⟨(some 13), .load (some 2) (.t 12), none⟩], []),
 ([⟨(some 14), .build [(.int .i64 0), (.str ⟨#[]⟩), (.int .i64 0), (.int .i64 0), (.int .i64 0), (.bool false)] [(0, 1, (.c (.int .i64 5))), (1, 1, (.t 9)), (3, 2, (.t 13)), (5, 1, (.c (.bool true)))], none⟩], []),
 ([⟨(some 15), .lit true 132 6 [(.t 14)], none⟩], [⟨(some 7), .faddr 0 (.t 6), none⟩, ⟨(some 8), .load none (.t 7), none⟩]),
 ([⟨(some 16), .append 132 6 56 (.t 8) (.t 15), none⟩], []),
 ([⟨(some 17), .nilck (.t 4), none⟩], []),
 ([⟨(some 18), .faddr 0 (.t 17), none⟩], []),
 ([⟨none, .store 1 (.t 18) (.t 16), none⟩], [])])
theorem ent141 : EntOK Tryz.prog 141 ⟨19, v141, []⟩ := fun args σ K ha h =>
 enter (own := List.range 19) Tryz.func141 (by kernel_rfl) (by kernel_rfl) (by kernel_rfl) ha h
def v142 : ACode :=
(.seq
 (.reg [oo 2 (.new 132 (.c (.agg [(.int .i64 0), (.str ⟨#[]⟩), (.int .i64 0), (.int .i64 0), (.int .i64 0), (.bool false)])))])
 (.seq
 (.seq
 (.reg [mv 3 0,
 oo 4 (.nilck (.t 3)),
 oo 5 (.faddr 2 (.t 4)),
 oo 6 (.load none (.t 5)),
 mv 7 6,
 og 8 7 false (.move (.t 0)),
 og 9 7 false (.nilck (.t 8)),
 og 10 7 false (.faddr 1 (.t 9)),
 og 11 7 false (.load none (.t 10)),
 og 12 7 false (.move (.t 0)),
 og 13 7 false (.nilck (.t 12)),
 og 14 7 false (.faddr 0 (.t 13)),
 og 15 7 false (.load none (.t 14)),
 og 16 7 false (.len .slice (.t 15)),
 og 17 7 false (.bin .int .geq (.t 11) (.t 16)),
 oo 18 (.pick (.t 7) (.c (.bool true)) (.t 17))])
 (.cond (.t 18)
 (.seq
 (.reg [oo 19 (.build [(.int .i64 0), (.str ⟨#[]⟩), (.int .i64 0), (.int .i64 0), (.int .i64 0), (.bool false)] []),
 ⟨none, .store 6 (.t 2) (.t 19), none⟩])
 .ret)
 .skip))
 (.seq
 (.reg [mv 20 0,
 oo 21 (.nilck (.t 20)),
 oo 22 (.faddr 0 (.t 21)),
 oo 23 (.load none (.t 22)),
 mv 24 0,
 oo 25 (.nilck (.t 24)),
 oo 26 (.faddr 1 (.t 25)),
 oo 27 (.load none (.t 26)),
 oo 28 (.iaddr 6 (.t 23) (.t 27)),
 oo 29 (.load (some 6) (.t 28)),
 ⟨none, .store 6 (.t 2) (.t 29), none⟩])
 .ret)))
theorem ent142 : EntOK Tryz.prog 142 ⟨30, v142, [.cell 2 (some 6)]⟩ := fun args σ K ha h =>
 enter (own := List.range 30) Tryz.func142 (by kernel_rfl) (by kernel_rfl) (by kernel_rfl) ha h
def v143 : ACode :=
(.seq
 (.reg [oo 4 (.new 132 (.c (.agg [(.int .i64 0), (.str ⟨#[]⟩), (.int .i64 0), (.int .i64 0), (.int .i64 0), (.bool false)])))])
 (.seq
 (.seq
 (.reg [mv 5 0,
 mv 6 1,
 oo 7 (.call 144 [(.t 5), (.t 6)]),
 oo 8 (.not (.t 7))])
 (.cond (.t 8)
 (.reg [mv 9 0,
 oo 10 (.call 98 [(.t 9), (.c (.int .i64 60))])])
 .skip))
 (.seq
 (.reg [mv 11 0,
 oo 12 (.call 97 [(.t 11)]),
 ⟨none, .store 6 (.t 4) (.t 12), none⟩])
 .ret)))
theorem ent143 : EntOK Tryz.prog 143 ⟨13, v143, [.cell 4 (some 6)]⟩ := fun args σ K ha h =>
 enter (own := List.range 13) Tryz.func143 (by kernel_rfl) (by kernel_rfl) (by kernel_rfl) ha h
def v144 : ACode :=
(.seq
 (.reg [oo 4 (.move (.c (.bool false)))])
 (.seq
 (.reg [mv 5 0,
 oo 6 (.call 142 [(.t 5)]),
 oo 7 (.field 0 none (.t 6)),
 mv 8 1,
 oo 9 (.bin .int .eql (.t 7) (.t 8)),
 mv 4 9])
 .ret))
theorem ent144 : EntOK Tryz.prog 144 ⟨10, v144, [.slot 4]⟩ := fun args σ K ha h =>
 enter (own := List.range 10) Tryz.func144 (by kernel_rfl) (by kernel_rfl) (by kernel_rfl) ha h
def v146 : ACode :=
(.seq
 (.reg [oo 2 (.move (.c (.bool false)))])
 (.seq
 (.reg [mv 3 0,
 oo 4 (.call 144 [(.t 3), (.c (.int .i64 1))]),
 mv 5 4,
 og 6 5 false (.move (.t 0)),
 og 7 5 false (.call 144 [(.t 6), (.c (.int .i64 2))]),
 oo 8 (.pick (.t 5) (.c (.bool true)) (.t 7)),
 mv 9 8,
 og 10 9 false (.move (.t 0)),
 og 11 9 false (.call 144 [(.t 10), (.c (.int .i64 4))]),
 oo 12 (.pick (.t 9) (.c (.bool true)) (.t 11)),
 mv 13 12,
 og 14 13 false (.move (.t 0)),
 og 15 13 false (.call 96 [(.t 14), (.c (.str ⟨#[95]⟩))]),
 oo 16 (.pick (.t 13) (.c (.bool true)) (.t 15)),
 mv 17 16,
 og 18 17 false (.move (.t 0)),
 og 19 17 false (.call 96 [(.t 18), (.c (.str ⟨#[40]⟩))]),
 oo 20 (.pick (.t 17) (.c (.bool true)) (.t 19)),
 mv 2 20])
 .ret))
theorem ent146 : EntOK Tryz.prog 146 ⟨21, v146, [.slot 2]⟩ := fun args σ K ha h =>
 enter (own := List.range 21) Tryz.func146 (by kernel_rfl) (by kernel_rfl) (by kernel_rfl) ha h
def v148 : ACode :=
(.seq
 (.reg [oo 4 (.move (.c .nils))])
 (.seq
 (.reg [oo 5 (.move (.c .nils))])
 (.seq
 (.seq
 (.reg [mv 7 0,
 oo 8 (.call 96 [(.t 7), (.c (.str ⟨#[124]⟩))]),
 oo 9 (.not (.t 8))])
 (.cond (.t 9)
 (.seq
 (.reg [mv 10 0,
 mv 11 1,
 oo 12 (.call 57 [(.t 10), (.t 11)])])
 (.seq
 (.reg [mv 13 5,
 mv 14 0,
 oo 15 (.call 199 [(.t 14)]),
 oo 16 (.build [.nils, (.int .i64 0), (.str ⟨#[]⟩), (.int .i64 0), .nils, .nils, .nils, .nils, (.int .i64 0), (.int .i64 0)] [(1, 9, (.t 15))]),
 oo 17 (.lit false 299 10 [(.t 16)]),
 oo 18 (.append 299 10 168 (.t 13) (.t 17)),
 mv 4 18])
 .ret))
 .skip))
 (.seq
 (.block 0
 (.loop
 (.seq
 (.seq
 (.reg [mv 19 0,
 oo 20 (.call 96 [(.t 19), (.c (.str ⟨#[124]⟩))])])
 (.cond (.t 20)
 .skip
 (.exit 0)))
 (.block 1
 (.seq
 (.reg [mv 21 0,
 oo 22 (.call 97 [(.t 21)])])
 (.seq
 (.reg [mv 23 0,
 oo 24 (.call 199 [(.t 23)]),
 oo 6 (.new 297 (.c (.agg [(.int .i64 0), (.str ⟨#[]⟩), (.int .i64 0), .nils, .nils, .nils, .nils, (.int .i64 0), (.int .i64 0)]))),
 ⟨none, .store 9 (.t 6) (.t 24), none⟩])
 (.seq
 (.reg [mv 25 0,
 mv 26 1,
 oo 27 (.call 57 [(.t 25), (.t 26)])])
 (.draw [] [([⟨(some 28), .move (.t 5), none⟩], []),
 ([⟨(some 29), .load (some 9) (.t 6), none⟩], []),
 ([⟨(some 30), .lit false 297 9 [(.t 29)], none⟩], []),
 ([⟨(some 31), .move (.t 0), none⟩], []),
 ([⟨(some 32), .call 199 [(.t 31)], none⟩], [⟨(some 29), .load (some 9) (.t 6), none⟩]),
 ([⟨(some 33), .build [.nils, (.int .i64 0), (.str ⟨#[]⟩), (.int .i64 0), .nils, .nils, .nils, .nils, (.int .i64 0), (.int .i64 0)] [(0, 1, (.t 30)), (1, 9, (.t 32))], none⟩], []),
 ([⟨(some 34), .lit false 299 10 [(.t 33)], none⟩], []),
 ([⟨(some 35), .append 299 10 168 (.t 28) (.t 34), none⟩], []),
 ([⟨(some 5), .move (.t 35), none⟩], [])]))))))))
 (.seq
 (.reg [mv 36 5,
 mv 4 36])
 .ret)))))
theorem ent148 : EntOK Tryz.prog 148 ⟨37, v148, [.slot 4]⟩ := fun args σ K ha h =>
 enter (own := []) Tryz.func148 (by kernel_rfl) (by kernel_rfl) (by kernel_rfl) ha h
def v149 : ACode :=
(.seq
 (.reg [oo 3 (.new 297 (.t 1)),
 oo 4 (.new 297 (.c (.agg [(.int .i64 0), (.str ⟨#[]⟩), (.int .i64 0), .nils, .nils, .nils, .nils, (.int .i64 0), (.int .i64 0)])))])
 (.seq
 (.seq
 (.reg [mv 11 0,
 oo 12 (.nilck (.t 11)),
 oo 13 (.faddr 1 (.t 12)),
 oo 14 (.load none (.t 13))])
 (.cond (.t 14)
 (.seq
 (.reg [oo 15 (.load (some 9) (.t 3)),
 ⟨none, .store 9 (.t 4) (.t 15), none⟩])
 .ret)
 .skip))
 (.seq
 (.seq
 (.reg [oo 16 (.faddr 0 (.t 3)),
 oo 17 (.load none (.t 16)),
 oo 18 (.bin .int .eql (.t 17) (.c (.int .i64 (-1))))])
 (.cond (.t 18)
 (.seq
 (.reg [mv 19 0,
 oo 20 (.load (some 9) (.t 3)),
 oo 21 (.call 200 [(.t 19), (.t 20)]),
 ⟨none, .store 9 (.t 4) (.t 21), none⟩])
 .ret)
 .skip))
 (.seq
 (.reg [mv 22 0,
 oo 23 (.faddr 6 (.t 3)),
 oo 24 (.load none (.t 23)),
 oo 25 (.call 59 [(.t 22), (.t 24)]),
 oo 26 (.faddr 6 (.t 3)),
 ⟨none, .store 1 (.t 26) (.t 25), none⟩])
 (.seq
 (.reg [oo 5 (.move (.c .nils))])
 (.seq
 (.seq
 (.reg [oo 27 (.faddr 4 (.t 3)),
 oo 28 (.load none (.t 27)),
 oo 29 (.len .slice (.t 28)),
 oo 30 (.move (.c (.int .i64 0)))])
 (.block 0
 (.loop
 (.seq
 (.reg [oo 31 (.bin .int .lss (.t 30) (.t 29))])
 (.seq
 (.cond (.t 31)
 .skip
 (.exit 0))
 (.seq
 (.block 1
 (.seq
 (.reg [oo 32 (.iaddr 9 (.t 28) (.t 30)),
 oo 33 (.load (some 9) (.t 32)),
 oo 7 (.new 297 (.c (.agg [(.int .i64 0), (.str ⟨#[]⟩), (.int .i64 0), .nils, .nils, .nils, .nils, (.int .i64 0), (.int .i64 0)]))),
 ⟨none, .store 9 (.t 7) (.t 33), none⟩])
 (.reg [mv 34 5,
 mv 35 0,
 oo 36 (.load (some 9) (.t 7)),
 oo 37 (.call 149 [(.t 35), (.t 36)]),
 oo 38 (.lit true 297 9 [(.t 37)]),
 oo 39 (.append 297 9 144 (.t 34) (.t 38)),
 mv 5 39])))
 (.reg [oo 40 (.bin .int .add (.t 30) (.c (.int .i64 1))),
 mv 30 40])))))))
 (.seq
 (.reg [mv 41 5,
 oo 42 (.faddr 4 (.t 3)),
 ⟨none, .store 1 (.t 42) (.t 41), none⟩])
 (.seq
 (.seq
 (.reg [oo 43 (.faddr 0 (.t 3)),
 oo 44 (.load none (.t 43)),
 oo 45 (.bin .int .eql (.t 44) (.c (.int .i64 4)))])
 (.cond (.t 45)
 (.reg [mv 46 5,
 oo 47 (.iaddr 9 (.t 46) (.c (.int .i64 0))),
 oo 48 (.faddr 7 (.t 47)),
 oo 49 (.load (some 2) (.t 48)),
 oo 50 (.faddr 7 (.t 3)),
 ⟨none, .store 2 (.t 50) (.t 49), none⟩])
 .skip))
 (.seq
 (.reg [oo 8 (.move (.c .nils))])
 (.seq
 (.seq
 (.reg [oo 51 (.faddr 5 (.t 3)),
 oo 52 (.load none (.t 51)),
 oo 53 (.len .slice (.t 52)),
 oo 54 (.move (.c (.int .i64 0)))])
 (.block 2
 (.loop
 (.seq
 (.reg [oo 55 (.bin .int .lss (.t 54) (.t 53))])
 (.seq
 (.cond (.t 55)
 .skip
 (.exit 2))
 (.seq
 (.block 3
 (.seq
 (.reg [oo 56 (.iaddr 7 (.t 52) (.t 54)),
 oo 57 (.load (some 7) (.t 56)),
 oo 10 (.new 356 (.c (.agg [(.int .i64 0), (.str ⟨#[]⟩), (.int .i64 0), .nils, (.int .i64 0), (.int .i64 0), .nils]))),
 ⟨none, .store 7 (.t 10) (.t 57), none⟩])
 (.seq
 (.reg [mv 58 0,
 oo 59 (.faddr 6 (.t 10)),
 oo 60 (.load none (.t 59)),
 oo 61 (.call 102 [(.t 58), (.t 60)]),
 oo 62 (.faddr 6 (.t 10)),
 ⟨none, .store 1 (.t 62) (.t 61), none⟩])
 (.reg [mv 63 8,
 oo 64 (.load (some 7) (.t 10)),
 oo 65 (.lit true 356 7 [(.t 64)]),
 oo 66 (.append 356 7 96 (.t 63) (.t 65)),
 mv 8 66]))))
 (.reg [oo 67 (.bin .int .add (.t 54) (.c (.int .i64 1))),
 mv 54 67])))))))
 (.seq
 (.reg [mv 68 8,
 oo 69 (.faddr 5 (.t 3)),
 ⟨none, .store 1 (.t 69) (.t 68), none⟩])
 (.seq
 (.reg [oo 70 (.load (some 9) (.t 3)),
 ⟨none, .store 9 (.t 4) (.t 70), none⟩])
 .ret))))))))))))
theorem ent149 : EntOK Tryz.prog 149 ⟨71, v149, [.cell 4 (some 9)]⟩ := fun args σ K ha h =>
 enter (own := List.range 71) Tryz.func149 (by kernel_rfl) (by kernel_rfl) (by kernel_rfl) ha h
def v150 : ACode :=
(.seq
 (.reg [oo 1 (.new 50 (.t 0)),
 oo 2 (.move (.c (.bool false)))])
 (.seq
 (.reg [oo 3 (.faddr 0 (.t 1)),
 oo 4 (.load none (.t 3)),
 oo 5 (.call 201 [(.t 4), (.c (.fn (.func 202) [] []))]),
 mv 6 5,
 og 7 6 true (.faddr 1 (.t 1)),
 og 8 6 true (.load none (.t 7)),
 og 9 6 true (.call 203 [(.t 8), (.c (.fn (.func 204) [] []))]),
 oo 10 (.pick (.t 6) (.t 9) (.c (.bool false))),
 mv 11 10,
 og 12 11 true (.faddr 2 (.t 1)),
 og 13 11 true (.load none (.t 12)),
 og 14 11 true (.call 205 [(.t 13)]),
 oo 15 (.pick (.t 11) (.t 14) (.c (.bool false))),
 mv 2 15])
 .ret))
theorem ent150 : EntOK Tryz.prog 150 ⟨16, v150, [.slot 2]⟩ := fun args σ K ha h =>
 enter (own := List.range 16) Tryz.func150 (by kernel_rfl) (by kernel_rfl) (by kernel_rfl) ha h
def v151 : ACode :=
(.seq
 (.reg [oo 4 (.move (.c (.bool false)))])
 (.seq
 (.seq
 (.reg [mv 7 0,
 oo 8 (.len .slice (.t 7)),
 oo 9 (.move (.c (.int .i64 0)))])
 (.block 0
 (.loop
 (.seq
 (.reg [oo 10 (.bin .int .lss (.t 9) (.t 8))])
 (.seq
 (.cond (.t 10)
 .skip
 (.exit 0))
 (.seq
 (.block 1
 (.seq
 (.reg [oo 11 (.iaddr 1 (.t 7) (.t 9)),
 oo 12 (.load none (.t 11)),
 mv 6 12])
 (.seq
 (.reg [mv 13 6,
 mv 14 1,
 oo 15 (.bin .str .eql (.t 13) (.t 14))])
 (.cond (.t 15)
 (.seq
 (.reg [oo 4 (.move (.c (.bool true)))])
 .ret)
 .skip))))
 (.reg [oo 16 (.bin .int .add (.t 9) (.c (.int .i64 1))),
 mv 9 16])))))))
 (.seq
 (.reg [oo 4 (.move (.c (.bool false)))])
 .ret)))
theorem ent151 : EntOK Tryz.prog 151 ⟨17, v151, [.slot 4]⟩ := fun args σ K ha h =>
 enter (own := List.range 17) Tryz.func151 (by kernel_rfl) (by kernel_rfl) (by kernel_rfl) ha h
def v153 : ACode :=
(.seq
 (.reg [oo 3 (.new 302 (.t 0)),
 oo 4 (.new 48 (.t 1)),
 oo 5 (.new 1 (.t 2))])
 (.seq
 (.reg [oo 6 (.move (.c .nils))])
 (.seq
 (.seq
 (.reg [oo 9 (.load none (.t 4)),
 oo 10 (.len .slice (.t 9)),
 oo 11 (.move (.c (.int .i64 0)))])
 (.block 0
 (.loop
 (.seq
 (.reg [oo 12 (.bin .int .lss (.t 11) (.t 10))])
 (.seq
 (.cond (.t 12)
 .skip
 (.exit 0))
 (.seq
 (.block 1
 (.seq
 (.reg [oo 13 (.iaddr 4 (.t 9) (.t 11)),
 oo 14 (.load (some 4) (.t 13)),
 oo 8 (.new 151 (.c (.agg [(.str ⟨#[]⟩), .nils, (.int .i64 0), (.int .i64 0)]))),
 ⟨none, .store 4 (.t 8) (.t 14), none⟩])
 (.seq
 (.block 2
 (.seq
 (.reg [oo 16 (.faddr 0 (.t 8)),
 oo 17 (.load none (.t 16)),
 oo 18 (.call 71 [(.t 17)]),
 oo 19 (.bin .int .gtr (.t 18) (.c (.int .i64 0))),
 mv 15 19])
 (.cond (.t 15)
 (.reg [oo 20 (.load none (.t 3)),
 oo 21 (.faddr 2 (.t 8)),
 oo 22 (.load (some 2) (.t 21)),
 oo 23 (.call 152 [(.t 20), (.c (.int .i64 90)), (.t 22)])])
 (.seq
 (.reg [mv 25 6,
 oo 26 (.faddr 0 (.t 8)),
 oo 27 (.load none (.t 26)),
 oo 28 (.call 151 [(.t 25), (.t 27)]),
 mv 24 28])
 (.cond (.t 24)
 (.reg [oo 29 (.load none (.t 3)),
 oo 30 (.faddr 2 (.t 8)),
 oo 31 (.load (some 2) (.t 30)),
 oo 32 (.call 152 [(.t 29), (.c (.int .i64 80)), (.t 31)])])
 .skip)))))
 (.reg [mv 33 6,
 oo 34 (.faddr 0 (.t 8)),
 oo 35 (.load none (.t 34)),
 oo 36 (.lit true 9 1 [(.t 35)]),
 oo 37 (.append 9 1 16 (.t 33) (.t 36)),
 mv 6 37]))))
 (.reg [oo 38 (.bin .int .add (.t 11) (.c (.int .i64 1))),
 mv 11 38])))))))
 (.reg [oo 39 (.load none (.t 3)),
 mv 40 6,
 oo 41 (.mkfn (.func 207) [] [(.t 4), (.t 3), (.t 5)]),
 oo 42 (.call 206 [(.t 39), (.t 40), (.t 41)])]))))
theorem ent153 : EntOK Tryz.prog 153 ⟨43, v153, []⟩ := fun args σ K ha h =>
 enter (own := List.range 43) Tryz.func153 (by kernel_rfl) (by kernel_rfl) (by kernel_rfl) ha h
def v154 : ACode :=
.skip
theorem ent154 : EntOK Tryz.prog 154 ⟨0, v154, []⟩ := fun args σ K ha h =>
 enter (own := List.range 0) Tryz.func154 (by kernel_rfl) (by kernel_rfl) (by kernel_rfl) ha h
def v155 : ACode :=
(.seq
 (.reg [oo 2 (.move (.c .nils))])
 (.seq
 (.reg [oo 3 (.move (.c .nils))])
 (.seq
 (.seq
 (.reg [mv 15 0,
 oo 16 (.len .slice (.t 15)),
 oo 17 (.move (.c (.int .i64 0)))])
 (.block 0
 (.loop
 (.seq
 (.reg [oo 18 (.bin .int .lss (.t 17) (.t 16))])
 (.seq
 (.cond (.t 18)
 .skip
 (.exit 0))
 (.seq
 (.block 1
 (.seq
 (.reg [oo 19 (.iaddr 4 (.t 15) (.t 17)),
 oo 20 (.load (some 4) (.t 19)),
 oo 5 (.new 151 (.c (.agg [(.str ⟨#[]⟩), .nils, (.int .i64 0), (.int .i64 0)]))),
 ⟨none, .store 4 (.t 5) (.t 20), none⟩])
 (.reg [mv 21 3,
 oo 22 (.faddr 0 (.t 5)),
 oo 23 (.load none (.t 22)),
 oo 24 (.lit true 9 1 [(.t 23)]),
 oo 25 (.append 9 1 16 (.t 21) (.t 24)),
 mv 3 25])))
 (.reg [oo 26 (.bin .int .add (.t 17) (.c (.int .i64 1))),
 mv 17 26])))))))
 (.seq
 (.reg [oo 6 (.move (.c .nils))])
 (.seq
 (.seq
 (.reg [mv 27 0,
 oo 28 (.len .slice (.t 27)),
 oo 29 (.move (.c (.int .i64 0)))])
 (.block 2
 (.loop
 (.seq
 (.reg [oo 30 (.bin .int .lss (.t 29) (.t 28))])
 (.seq
 (.cond (.t 30)
 .skip
 (.exit 2))
 (.seq
 (.block 3
 (.seq
 (.reg [oo 31 (.iaddr 4 (.t 27) (.t 29)),
 oo 32 (.load (some 4) (.t 31)),
 oo 8 (.new 151 (.c (.agg [(.str ⟨#[]⟩), .nils, (.int .i64 0), (.int .i64 0)]))),
 ⟨none, .store 4 (.t 8) (.t 32), none⟩])
 (.seq
 (.reg [oo 9 (.move (.c .nils))])
 (.seq
 (.seq
 (.reg [oo 33 (.load (some 4) (.t 8)),
 oo 34 (.call 209 [(.t 33)]),
 oo 35 (.len .slice (.t 34)),
 oo 36 (.move (.c (.int .i64 0)))])
 (.block 4
 (.loop
 (.seq
 (.reg [oo 37 (.bin .int .lss (.t 36) (.t 35))])
 (.seq
 (.cond (.t 37)
 .skip
 (.exit 4))
 (.seq
 (.block 5
 (.seq
 (.reg [oo 38 (.iaddr 1 (.t 34) (.t 36)),
 oo 39 (.load none (.t 38)),
 mv 11 39])
 (.seq
 (.reg [mv 40 3,
 mv 41 11,
 oo 42 (.call 124 [(.t 40), (.t 41)]),
 mv 12 42])
 (.seq
 (.reg [mv 43 12,
 oo 44 (.bin .int .geq (.t 43) (.c (.int .i64 0)))])
 (.cond (.t 44)
 (.reg [mv 45 9,
 mv 46 12,
 oo 47 (.lit true 3 1 [(.t 46)]),
 oo 48 (.append 3 1 8 (.t 45) (.t 47)),
 mv 9 48])
 .skip)))))
 (.reg [oo 49 (.bin .int .add (.t 36) (.c (.int .i64 1))),
 mv 36 49])))))))
 (.reg [mv 50 6,
 mv 51 9,
 oo 52 (.lit true 69 1 [(.t 51)]),
 oo 53 (.append 69 1 24 (.t 50) (.t 52)),
 mv 6 53])))))
 (.reg [oo 54 (.bin .int .add (.t 29) (.c (.int .i64 1))),
 mv 29 54])))))))
 (.seq
 (.reg [mv 56 6,
 oo 57 (.call 210 [(.t 56)]),
 mv 55 57,
 oo 58 (.extract (.t 55) 0),
 oo 59 (.extract (.t 55) 1),
 mv 13 58,
 mv 14 59])
 (.seq
 (.reg [mv 60 13,
 mv 2 60])
 .ret)))))))
theorem ent155 : EntOK Tryz.prog 155 ⟨61, v155, [.slot 2]⟩ := fun args σ K ha h =>
 enter (own := List.range 61) Tryz.func155 (by kernel_rfl) (by kernel_rfl) (by kernel_rfl) ha h
def v156 : ACode :=
(.seq
 (.reg [oo 3 (.new 227 (.t 0)),
 oo 4 (.new 48 (.t 1)),
 oo 5 (.new 69 (.t 2)),
 oo 6 (.new 315 (.c (.agg [.nils, .nils, .nils, .nils])))])
 (.seq
 (.draw [7] [([⟨(some 19), .load none (.t 5), none⟩], []),
 ([⟨(some 20), .load none (.t 3), none⟩], []),
 ([⟨(some 21), .load none (.t 5), none⟩], []),
 ([⟨(some 22), .len .slice (.t 21), none⟩], []),
 ([⟨(some 23), .call 211 [(.t 20), (.t 22)], none⟩], [⟨(some 19), .load none (.t 5), none⟩]),
 ([⟨(some 24), .build [.nils, .nils, .nils, .nils] [(0, 1, (.t 19)), (2, 1, (.t 23))], none⟩], []),
 ([⟨(some 7), .new 315 (.c (.agg [.nils, .nils, .nils, .nils])), none⟩, ⟨none, .store 4 (.t 7) (.t 24), none⟩], [])])
 (.seq
 (.reg [oo 8 (.move (.c .nils))])
 (.seq
 (.seq
 (.reg [oo 25 (.load none (.t 5)),
 oo 26 (.len .slice (.t 25)),
 oo 27 (.move (.c (.int .i64 0)))])
 (.block 0
 (.loop
 (.seq
 (.reg [oo 28 (.bin .int .lss (.t 27) (.t 26))])
 (.seq
 (.cond (.t 28)
 .skip
 (.exit 0))
 (.seq
 (.block 1
 (.seq
 (.reg [mv 29 27,
 oo 30 (.iaddr 1 (.t 25) (.t 27)),
 oo 31 (.load none (.t 30)),
 mv 9 29,
 mv 10 31])
 (.reg [mv 32 8,
 oo 33 (.load none (.t 4)),
 mv 34 10,
 oo 35 (.iaddr 4 (.t 33) (.t 34)),
 oo 36 (.faddr 0 (.t 35)),
 oo 37 (.load none (.t 36)),
 oo 38 (.faddr 2 (.t 7)),
 oo 39 (.load none (.t 38)),
 mv 40 9,
 oo 41 (.iaddr 4 (.t 39) (.t 40)),
 oo 42 (.load (some 4) (.t 41)),
 oo 43 (.build [.nils, (.int .i64 0), (.int .i64 0), (.str ⟨#[]⟩), .nils] [(1, 4, (.t 42))]),
 oo 44 (.build [(.str ⟨#[]⟩), .nils, (.int .i64 0), (.int .i64 0), (.str ⟨#[]⟩), .nils, (.bool false)] [(0, 1, (.t 37)), (1, 5, (.t 43))]),
 oo 45 (.lit true 371 7 [(.t 44)]),
 oo 46 (.append 371 7 104 (.t 32) (.t 45)),
 mv 8 46])))
 (.reg [oo 47 (.bin .int .add (.t 27) (.c (.int .i64 1))),
 mv 27 47])))))))
 (.seq
 (.reg [oo 48 (.load none (.t 3)),
 mv 49 8,
 oo 50 (.mkfn (.func 213) [] [(.t 5), (.t 7), (.t 3), (.t 4)]),
 oo 51 (.call 212 [(.t 48), (.t 49), (.t 50)])])
 (.seq
 (.seq
 (.reg [oo 52 (.load none (.t 3)),
 oo 53 (.nilck (.t 52)),
 oo 54 (.faddr 3 (.t 53)),
 oo 55 (.load none (.t 54))])
 (.cond (.t 55)
 (.seq
 (.reg [oo 56 (.load (some 4) (.t 7)),
 ⟨none, .store 4 (.t 6) (.t 56), none⟩])
 .ret)
 .skip))
 (.seq
 (.reg [oo 57 (.load none (.t 3)),
 oo 58 (.call 215 [(.t 57)]),
 mv 11 58])
 (.seq
 (.seq
 (.reg [oo 59 (.load none (.t 5)),
 oo 60 (.len .slice (.t 59)),
 oo 61 (.move (.c (.int .i64 0)))])
 (.block 2
 (.loop
 (.seq
 (.reg [oo 62 (.bin .int .lss (.t 61) (.t 60))])
 (.seq
 (.cond (.t 62)
 .skip
 (.exit 2))
 (.seq
 (.block 3
 (.seq
 (.reg [mv 63 61,
 oo 64 (.iaddr 1 (.t 59) (.t 61)),
 oo 65 (.load none (.t 64)),
 mv 12 63,
 mv 13 65])
 (.seq
 (.draw [14] [([⟨(some 67), .load none (.t 3), none⟩], []),
 ([⟨(some 68), .nilck (.t 67), none⟩], []),
 ([⟨(some 69), .faddr 0 (.t 68), none⟩], []),
 ([⟨(some 70), .load none (.t 69), none⟩], []),
 ([⟨(some 71), .faddr 2 (.t 7), none⟩], []),
 ([⟨(some 72), .load none (.t 71), none⟩], []),
 ([⟨(some 73), .move (.t 12), none⟩], []),
 ([⟨(some 74), .iaddr 4 (.t 72) (.t 73), none⟩], []),
 ([⟨(some 75), .load (some 4) (.t 74), none⟩], []),
 ([⟨(some 76), .call 216 [(.t 70), (.t 75)], none⟩], []),
 ([⟨(some 66), .move (.t 76), none⟩], []),
 ([⟨(some 77), .extract (.t 66) 0, none⟩], []),
 ([⟨(some 78), .extract (.t 66) 1, none⟩], []),
 ([⟨(some 14), .new 247 (.c (.agg [(.int .i64 0), (.int .i64 0), (.str ⟨#[]⟩), .nils])), none⟩, ⟨none, .store 4 (.t 14) (.t 77), none⟩], []),
 ([⟨(some 15), .move (.t 78), none⟩], [])])
 (.seq
 (.seq
 (.reg [mv 79 15,
 oo 80 (.bin .int .neq (.t 79) (.c (.int .i64 0)))])
 (.cond (.t 80)
 (.seq
 (.draw [] [([⟨(some 81), .load none (.t 3), none⟩], []),
 ([⟨(some 82), .call 218 [], none⟩], [⟨(some 81), .load none (.t 3), none⟩]),
 ([⟨(some 83), .call 217 [(.t 81), (.c (.int .i64 102)), (.t 82)], none⟩], [])])
 (.seq
 (.reg [oo 84 (.load (some 4) (.t 7)),
 ⟨none, .store 4 (.t 6) (.t 84), none⟩])
 .ret))
 .skip))
 (.seq
 (.reg [oo 85 (.faddr 2 (.t 7)),
 oo 86 (.load none (.t 85)),
 mv 87 12,
 oo 88 (.load (some 4) (.t 14)),
 oo 89 (.iaddr 4 (.t 86) (.t 87)),
 ⟨none, .store 4 (.t 89) (.t 88), none⟩])
 (.seq
 (.seq
 (.reg [oo 90 (.load (some 4) (.t 14)),
 oo 91 (.call 219 [(.t 90)]),
 oo 92 (.len .slice (.t 91)),
 oo 93 (.move (.c (.int .i64 0)))])
 (.block 4
 (.loop
 (.seq
 (.reg [oo 94 (.bin .int .lss (.t 93) (.t 92))])
 (.seq
 (.cond (.t 94)
 .skip
 (.exit 4))
 (.seq
 (.block 5
 (.seq
 (.reg [oo 95 (.iaddr 1 (.t 91) (.t 93)),
 oo 96 (.load none (.t 95)),
 mv 17 96])
 (.seq
 (.reg [mv 97 11,
 mv 98 17,
 oo 99 (.call 220 [(.t 97), (.t 98)]),
 oo 100 (.not (.t 99)),
 mv 101 100,
 og 102 101 true (.faddr 1 (.t 7)),
 og 103 101 true (.load none (.t 102)),
 og 104 101 true (.move (.t 17)),
 og 105 101 true (.call 220 [(.t 103), (.t 104)]),
 og 106 101 true (.not (.t 105)),
 oo 107 (.pick (.t 101) (.t 106) (.c (.bool false)))])
 (.cond (.t 107)
 (.reg [oo 108 (.faddr 1 (.t 7)),
 oo 109 (.load none (.t 108)),
 mv 110 17,
 oo 111 (.lit true 3 1 [(.t 110)]),
 oo 112 (.append 3 1 8 (.t 109) (.t 111)),
 oo 113 (.faddr 1 (.t 7)),
 ⟨none, .store 1 (.t 113) (.t 112), none⟩])
 .skip))))
 (.reg [oo 114 (.bin .int .add (.t 93) (.c (.int .i64 1))),
 mv 93 114])))))))
 (.draw [] [([⟨(some 115), .load none (.t 3), none⟩], []),
 ([⟨(some 116), .load none (.t 3), none⟩], []),
 ([⟨(some 117), .nilck (.t 116), none⟩], []),
 ([⟨(some 118), .faddr 2 (.t 117), none⟩], []),
 ([⟨(some 119), .load none (.t 118), none⟩], []),
 ([⟨(some 120), .load none (.t 4), none⟩], []),
 ([⟨(some 121), .move (.t 13), none⟩], []),
 ([⟨(some 122), .iaddr 4 (.t 120) (.t 121), none⟩], []),
 ([⟨(some 123), .faddr 0 (.t 122), none⟩], []),
 ([⟨(some 124), .load none (.t 123), none⟩], []),
 ([⟨(some 125), .build [(.str ⟨#[]⟩), .nils, (.int .i64 0), (.int .i64 0), (.str ⟨#[]⟩), .nils, (.bool false)] [(0, 1, (.t 124)), (6, 1, (.c (.bool true)))], none⟩], []),
 ([⟨(some 126), .lit true 371 7 [(.t 125)], none⟩], [⟨(some 115), .load none (.t 3), none⟩, ⟨(some 116), .load none (.t 3), none⟩, ⟨(some 118), .faddr 2 (.t 117), none⟩, ⟨(some 119), .load none (.t 118), none⟩]),
 ([⟨(some 127), .append 371 7 104 (.t 119) (.t 126), none⟩], [⟨(some 115), .load none (.t 3), none⟩]),
 ([⟨(some 128), .nilck (.t 115), none⟩], []),
 ([⟨(some 129), .faddr 2 (.t 128), none⟩], []),
 ([⟨none, .store 1 (.t 129) (.t 127), none⟩], [])])))))))
 (.reg [oo 130 (.bin .int .add (.t 61) (.c (.int .i64 1))),
 mv 61 130])))))))
 (.seq
 (.seq
 (.reg [oo 131 (.load none (.t 5)),
 oo 132 (.len .slice (.t 131)),
 oo 133 (.move (.c (.int .i64 0)))])
 (.block 6
 (.loop
 (.seq
 (.reg [oo 134 (.bin .int .lss (.t 133) (.t 132))])
 (.seq
 (.cond (.t 134)
 .skip
 (.exit 6))
 (.seq
 (.block 7
 (.seq
 (.reg [mv 135 133,
 mv 18 135])
 (.draw [] [([⟨(some 136), .load none (.t 3), none⟩], []),
 ([⟨(some 137), .nilck (.t 136), none⟩], []),
 ([⟨(some 138), .faddr 2 (.t 137), none⟩], []),
 ([⟨(some 139), .load none (.t 138), none⟩], []),
 ([⟨(some 140), .load none (.t 3), none⟩], []),
 ([⟨(some 141), .nilck (.t 140), none⟩], []),
 ([⟨(some 142), .faddr 2 (.t 141), none⟩], []),
 ([⟨(some 143), .load none (.t 142), none⟩], []),
 ([⟨(some 144), .len .slice (.t 143), none⟩], []),
 ([⟨(some 145), .load none (.t 5), none⟩], []),
 ([⟨(some 146), .len .slice (.t 145), none⟩], []),
 ([⟨(some 147), .bin .int .sub (.t 144) (.t 146), none⟩], []),
 ([⟨(some 148), .move (.t 18), none⟩], []),
 ([⟨(some 149), .bin .int .add (.t 147) (.t 148), none⟩], []),
 ([⟨(some 150), .faddr 2 (.t 7), none⟩], []),
 ([⟨(some 151), .load none (.t 150), none⟩], []),
 ([⟨(some 152), .move (.t 18), none⟩], []),
 ([⟨(some 153), .iaddr 4 (.t 151) (.t 152), none⟩], []),
 ([⟨(some 154), .load (some 4) (.t 153), none⟩], []),
 ([⟨(some 155), .faddr 1 (.t 7), none⟩], []),
 ([⟨(some 156), .load none (.t 155), none⟩], []),
 ([⟨(some 157), .call 221 [(.t 154), (.t 156)], none⟩], [⟨(some 136), .load none (.t 3), none⟩, ⟨(some 138), .faddr 2 (.t 137), none⟩, ⟨(some 139), .load none (.t 138), none⟩, ⟨(some 140), .load none (.t 3), none⟩, ⟨(some 142), .faddr 2 (.t 141), none⟩, ⟨(some 143), .load none (.t 142), none⟩, ⟨(some 145), .load none (.t 5), none⟩]),
 ([⟨(some 158), .iaddr 7 (.t 139) (.t 149), none⟩], []),
 ([⟨(some 159), .faddr 1 (.t 158), none⟩], []),
 ([⟨none, .store 5 (.t 159) (.t 157), none⟩], [])])))
 (.reg [oo 160 (.bin .int .add (.t 133) (.c (.int .i64 1))),
 mv 133 160])))))))
 (.seq
 (.reg [oo 161 (.load (some 4) (.t 7)),
 ⟨none, .store 4 (.t 6) (.t 161), none⟩])
 .ret))))))))))
theorem ent156 : EntOK Tryz.prog 156 ⟨162, v156, [.cell 6 (some 4)]⟩ := fun args σ K ha h =>
 enter (own := List.range 162) Tryz.func156 (by kernel_rfl) (by kernel_rfl) (by kernel_rfl) ha h
def v157 : ACode :=
(.seq
 (.reg [oo 4 (.move (.c .nils))])
 (.seq
 (.reg [oo 5 (.move (.c .nils))])
 (.seq
 (.seq
 (.reg [mv 8 1,
 oo 9 (.len .slice (.t 8)),
 oo 10 (.move (.c (.int .i64 0)))])
 (.block 0
 (.loop
 (.seq
 (.reg [oo 11 (.bin .int .lss (.t 10) (.t 9))])
 (.seq
 (.cond (.t 11)
 .skip
 (.exit 0))
 (.seq
 (.block 1
 (.seq
 (.reg [oo 12 (.iaddr 4 (.t 8) (.t 10)),
 oo 13 (.load (some 4) (.t 12)),
 oo 7 (.new 247 (.c (.agg [(.int .i64 0), (.int .i64 0), (.str ⟨#[]⟩), .nils]))),
 ⟨none, .store 4 (.t 7) (.t 13), none⟩])
 (.reg [mv 14 5,
 mv 15 0,
 oo 16 (.load (some 4) (.t 7)),
 oo 17 (.call 222 [(.t 15), (.t 16)]),
 oo 18 (.lit true 247 4 [(.t 17)]),
 oo 19 (.append 247 4 56 (.t 14) (.t 18)),
 mv 5 19])))
 (.reg [oo 20 (.bin .int .add (.t 10) (.c (.int .i64 1))),
 mv 10 20])))))))
 (.seq
 (.reg [mv 21 5,
 mv 4 21])
 .ret))))
theorem ent157 : EntOK Tryz.prog 157 ⟨22, v157, [.slot 4]⟩ := fun args σ K ha h =>
 enter (own := List.range 22) Tryz.func157 (by kernel_rfl) (by kernel_rfl) (by kernel_rfl) ha h
def v158 : ACode :=
(.seq
 (.reg [oo 4 (.move (.c .nils))])
 (.seq
 (.reg [oo 5 (.move (.c .nils))])
 (.seq
 (.seq
 (.reg [mv 8 1,
 oo 9 (.len .slice (.t 8)),
 oo 10 (.move (.c (.int .i64 0)))])
 (.block 0
 (.loop
 (.seq
 (.reg [oo 11 (.bin .int .lss (.t 10) (.t 9))])
 (.seq
 (.cond (.t 11)
 .skip
 (.exit 0))
 (.seq
 (.block 1
 (.seq
 (.reg [oo 12 (.iaddr 6 (.t 8) (.t 10)),
 oo 13 (.load (some 6) (.t 12)),
 oo 7 (.new 380 (.c (.agg [(.int .i64 0), (.int .i64 0), (.str ⟨#[]⟩), .nils, .nils, .nils]))),
 ⟨none, .store 6 (.t 7) (.t 13), none⟩])
 (.draw [] [([⟨(some 14), .move (.t 5), none⟩], []),
 ([⟨(some 15), .move (.t 0), none⟩], []),
 ([⟨(some 16), .faddr 0 (.t 7), none⟩], []),
 ([⟨(some 17), .load (some 4) (.t 16), none⟩], []),
 ([⟨(some 19), .move (.t 0), none⟩], []),
 ([⟨(some 20), .faddr 4 (.t 7), none⟩], []),
 ([⟨(some 21), .load none (.t 20), none⟩], []),
 ([⟨(some 23), .move (.t 0), none⟩], []),
 ([⟨(some 24), .faddr 5 (.t 7), none⟩], []),
 ([⟨(some 25), .load none (.t 24), none⟩], []),
 ([⟨(some 18), .call 222 [(.t 15), (.t 17)], none⟩], [⟨(some 20), .faddr 4 (.t 7), none⟩, ⟨(some 21), .load none (.t 20), none⟩, ⟨(some 24), .faddr 5 (.t 7), none⟩, ⟨(some 25), .load none (.t 24), none⟩]),
 ([⟨(some 22), .call 157 [(.t 19), (.t 21)], none⟩], [⟨(some 24), .faddr 5 (.t 7), none⟩, ⟨(some 25), .load none (.t 24), none⟩]),
 ([⟨(some 26), .call 158 [(.t 23), (.t 25)], none⟩], []),
 ([⟨(some 27), .build [(.int .i64 0), (.int .i64 0), (.str ⟨#[]⟩), .nils, .nils, .nils] [(0, 4, (.t 18)), (4, 1, (.t 22)), (5, 1, (.t 26))], none⟩], []),
 ([⟨(some 28), .lit true 380 6 [(.t 27)], none⟩], []),
 ([⟨(some 29), .append 380 6 104 (.t 14) (.t 28), none⟩], []),
 ([⟨(some 5), .move (.t 29), none⟩], [])])))
 (.reg [oo 30 (.bin .int .add (.t 10) (.c (.int .i64 1))),
 mv 10 30])))))))
 (.seq
 (.reg [mv 31 5,
 mv 4 31])
 .ret))))
theorem ent158 : EntOK Tryz.prog 158 ⟨32, v158, [.slot 4]⟩ := fun args σ K ha h =>
 enter (own := List.range 32) Tryz.func158 (by kernel_rfl) (by kernel_rfl) (by kernel_rfl) ha h
def v159 : ACode :=
(.seq
 (.reg [oo 4 (.move (.c .nils))])
 (.seq
 (.reg [oo 5 (.move (.c .nils))])
 (.seq
 (.seq
 (.reg [mv 8 1,
 oo 9 (.len .slice (.t 8)),
 oo 10 (.move (.c (.int .i64 0)))])
 (.block 0
 (.loop
 (.seq
 (.reg [oo 11 (.bin .int .lss (.t 10) (.t 9))])
 (.seq
 (.cond (.t 11)
 .skip
 (.exit 0))
 (.seq
 (.block 1
 (.seq
 (.reg [oo 12 (.iaddr 9 (.t 8) (.t 10)),
 oo 13 (.load (some 9) (.t 12)),
 oo 7 (.new 386 (.c (.agg [.nils, (.int .i64 0), (.int .i64 0), (.str ⟨#[]⟩), .nils, .nils, .nils, .nils, .nils]))),
 ⟨none, .store 9 (.t 7) (.t 13), none⟩])
 (.draw [] [([⟨(some 14), .move (.t 5), none⟩], []),
 ([⟨(some 15), .move (.t 0), none⟩], []),
 ([⟨(some 16), .faddr 0 (.t 7), none⟩], []),
 ([⟨(some 17), .load none (.t 16), none⟩], []),
 ([⟨(some 19), .move (.t 0), none⟩], []),
 ([⟨(some 20), .faddr 1 (.t 7), none⟩], []),
 ([⟨(some 21), .load (some 8) (.t 20), none⟩], []),
 ([⟨(some 18), .call 223 [(.t 15), (.t 17)], none⟩], [⟨(some 20), .faddr 1 (.t 7), none⟩, ⟨(some 21), .load (some 8) (.t 20), none⟩]),
 ([⟨(some 22), .call 224 [(.t 19), (.t 21)], none⟩], []),
 ([⟨(some 23), .build [.nils, (.int .i64 0), (.int .i64 0), (.str ⟨#[]⟩), .nils, .nils, .nils, .nils, .nils] [(0, 1, (.t 18)), (1, 8, (.t 22))], none⟩], []),
 ([⟨(some 24), .lit true 386 9 [(.t 23)], none⟩], []),
 ([⟨(some 25), .append 386 9 176 (.t 14) (.t 24), none⟩], []),
 ([⟨(some 5), .move (.t 25), none⟩], [])])))
 (.reg [oo 26 (.bin .int .add (.t 10) (.c (.int .i64 1))),
 mv 10 26])))))))
 (.seq
 (.reg [mv 27 5,
 mv 4 27])
 .ret))))
theorem ent159 : EntOK Tryz.prog 159 ⟨28, v159, [.slot 4]⟩ := fun args σ K ha h =>
 enter (own := List.range 28) Tryz.func159 (by kernel_rfl) (by kernel_rfl) (by kernel_rfl) ha h
end Go.Proofs.YtojfdejpoideaaaGreat

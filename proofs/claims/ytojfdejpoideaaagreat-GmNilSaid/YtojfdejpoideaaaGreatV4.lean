/- A part of the proof of the claim: the abstract layer, the contracts of the functions, the law (no condition of its own). -/
import Derived.Test.YtojfdejpoideaaaGreatV3
set_option linter.unusedVariables false
namespace Go.Proofs.YtojfdejpoideaaaGreat
open Go.AL
def v294 : ACode :=
(.seq
 (.reg [oo 2 (.move (.c (.bool false)))])
 (.seq
 (.reg [mv 3 0,
 oo 4 (.call 144 [(.t 3), (.c (.int .i64 1))]),
 mv 5 4,
 og 6 5 false (.move (.t 0)),
 og 7 5 false (.call 144 [(.t 6), (.c (.int .i64 2))]),
 oo 8 (.pick (.t 5) (.c (.bool true)) (.t 7)),
 mv 9 8,
 og 10 9 false (.move (.t 0)),
 og 11 9 false (.call 144 [(.t 10), (.c (.int .i64 4))]),
 oo 12 (.pick (.t 9) (.c (.bool true)) (.t 11)),
 mv 13 12,
 og 14 13 false (.move (.t 0)),
 og 15 13 false (.call 96 [(.t 14), (.c (.str ⟨#[40]⟩))]),
 oo 16 (.pick (.t 13) (.c (.bool true)) (.t 15)),
 mv 2 16])
 .ret))
theorem ent294 : EntOK Tryz.prog 294 ⟨17, v294, [.slot 2]⟩ := fun args σ K ha h =>
 enter (own := List.range 17) Tryz.func294 (by kernel_rfl) (by kernel_rfl) (by kernel_rfl) ha h
def v295 : ACode :=
(.seq
 (.reg [oo 4 (.new 219 (.c (.agg [(.str ⟨#[]⟩), (.int .i64 0), (.int .i64 0), (.int .i64 0), (.int .i64 0)])))])
 (.seq
 (.seq
 (.reg [mv 7 0,
 oo 8 (.len .slice (.t 7)),
 oo 9 (.move (.c (.int .i64 0)))])
 (.block 0
 (.loop
 (.seq
 (.reg [oo 10 (.bin .int .lss (.t 9) (.t 8))])
 (.seq
 (.cond (.t 10)
 .skip
 (.exit 0))
 (.seq
 (.block 1
 (.seq
 (.reg [oo 11 (.iaddr 5 (.t 7) (.t 9)),
 oo 12 (.load (some 5) (.t 11)),
 oo 6 (.new 219 (.c (.agg [(.str ⟨#[]⟩), (.int .i64 0), (.int .i64 0), (.int .i64 0), (.int .i64 0)]))),
 ⟨none, .store 5 (.t 6) (.t 12), none⟩])
 (.seq
 (.reg [oo 13 (.faddr 0 (.t 6)),
 oo 14 (.load none (.t 13)),
 mv 15 1,
 oo 16 (.bin .str .eql (.t 14) (.t 15))])
 (.cond (.t 16)
 (.seq
 (.reg [oo 17 (.load (some 5) (.t 6)),
 ⟨none, .store 5 (.t 4) (.t 17), none⟩])
 .ret)
 .skip))))
 (.reg [oo 18 (.bin .int .add (.t 9) (.c (.int .i64 1))),
 mv 9 18])))))))
 (.seq
 (.reg [mv 19 1,
 oo 20 (.call 317 [(.t 19)]),
 ⟨none, .store 5 (.t 4) (.t 20), none⟩])
 .ret)))
theorem ent295 : EntOK Tryz.prog 295 ⟨21, v295, [.cell 4 (some 5)]⟩ := fun args σ K ha h =>
 enter (own := List.range 21) Tryz.func295 (by kernel_rfl) (by kernel_rfl) (by kernel_rfl) ha h
def v296 : ACode :=
(.seq
 (.reg [oo 2 (.move (.c .nils)),
 oo 3 (.move (.c (.int .i64 0))),
 oo 4 (.move (.c (.int .i64 0)))])
 (.seq
 (.seq
 (.reg [mv 9 0,
 oo 10 (.len .slice (.t 9)),
 oo 11 (.bin .int .gtr (.t 10) (.c (.int .i64 1024)))])
 (.cond (.t 11)
 (.seq
 (.reg [oo 2 (.move (.c .nils)),
 oo 3 (.move (.c (.int .i64 0))),
 oo 4 (.move (.c (.int .i64 2)))])
 .ret)
 .skip))
 (.seq
 (.seq
 (.reg [mv 12 0,
 oo 13 (.len .slice (.t 12)),
 oo 14 (.move (.c (.int .i64 0)))])
 (.block 0
 (.loop
 (.seq
 (.reg [oo 15 (.bin .int .lss (.t 14) (.t 13))])
 (.seq
 (.cond (.t 15)
 .skip
 (.exit 0))
 (.seq
 (.block 1
 (.seq
 (.reg [mv 16 14,
 oo 17 (.iaddr 5 (.t 12) (.t 14)),
 oo 18 (.load (some 5) (.t 17)),
 oo 6 (.new 219 (.c (.agg [(.str ⟨#[]⟩), (.int .i64 0), (.int .i64 0), (.int .i64 0), (.int .i64 0)]))),
 mv 5 16,
 ⟨none, .store 5 (.t 6) (.t 18), none⟩])
 (.seq
 (.reg [oo 19 (.load (some 5) (.t 6)),
 oo 20 (.call 318 [(.t 19)]),
 oo 21 (.not (.t 20))])
 (.cond (.t 21)
 (.seq
 (.reg [mv 22 5,
 oo 2 (.move (.c .nils)),
 mv 3 22,
 oo 4 (.move (.c (.int .i64 1)))])
 .ret)
 .skip))))
 (.reg [oo 23 (.bin .int .add (.t 14) (.c (.int .i64 1))),
 mv 14 23])))))))
 (.seq
 (.reg [mv 24 0,
 oo 25 (.build [(.int .i64 0), (.int .i64 0)] []),
 oo 26 (.lit true 408 2 [(.t 25)]),
 mv 27 0,
 oo 28 (.len .slice (.t 27)),
 oo 29 (.mkslice 408 2 16 [(.int .i64 0), (.int .i64 0)] (.t 28) (.t 28)),
 oo 30 (.build [.nils, .nils, .nils, .nils] [(0, 1, (.t 24)), (2, 1, (.t 26)), (3, 1, (.t 29))]),
 oo 31 (.new 480 (.t 30)),
 mv 7 31])
 (.seq
 (.seq
 (.reg [mv 32 0,
 oo 33 (.len .slice (.t 32)),
 oo 34 (.move (.c (.int .i64 0)))])
 (.block 2
 (.loop
 (.seq
 (.reg [oo 35 (.bin .int .lss (.t 34) (.t 33))])
 (.seq
 (.cond (.t 35)
 .skip
 (.exit 2))
 (.seq
 (.block 3
 (.seq
 (.reg [mv 36 34,
 mv 8 36])
 (.seq
 (.reg [mv 37 7,
 mv 38 8,
 oo 39 (.call 319 [(.t 37), (.t 38)]),
 oo 40 (.not (.t 39))])
 (.cond (.t 40)
 (.seq
 (.reg [mv 41 8,
 oo 2 (.move (.c .nils)),
 mv 3 41,
 oo 4 (.move (.c (.int .i64 50)))])
 .ret)
 .skip))))
 (.reg [oo 42 (.bin .int .add (.t 34) (.c (.int .i64 1))),
 mv 34 42])))))))
 (.seq
 (.block 4
 (.loop
 (.seq
 (.seq
 (.reg [mv 43 7,
 oo 44 (.nilck (.t 43)),
 oo 45 (.faddr 1 (.t 44)),
 oo 46 (.load none (.t 45)),
 oo 47 (.len .slice (.t 46)),
 oo 48 (.bin .int .gtr (.t 47) (.c (.int .i64 0)))])
 (.cond (.t 48)
 .skip
 (.exit 4)))
 (.block 5
 (.reg [mv 49 7,
 oo 50 (.call 320 [(.t 49)])])))))
 (.seq
 (.reg [mv 51 7,
 oo 52 (.nilck (.t 51)),
 oo 53 (.faddr 3 (.t 52)),
 oo 54 (.load none (.t 53)),
 mv 2 54,
 oo 3 (.move (.c (.int .i64 0))),
 oo 4 (.move (.c (.int .i64 0)))])
 .ret)))))))
theorem ent296 : EntOK Tryz.prog 296 ⟨55, v296, [.slot 2, .slot 3, .slot 4]⟩ := fun args σ K ha h =>
 enter (own := List.range 55) Tryz.func296 (by kernel_rfl) (by kernel_rfl) (by kernel_rfl) ha h
def v297 : ACode :=
(.seq
 (.reg [oo 2 (.new 132 (.c (.agg [(.int .i64 0), (.str ⟨#[]⟩), (.int .i64 0), (.int .i64 0), (.int .i64 0), (.bool false)]))),
 oo 3 (.move (.c (.bool false)))])
 (.seq
 (.reg [mv 7 0,
 oo 8 (.call 94 [(.t 7)]),
 mv 6 8,
 oo 9 (.extract (.t 6) 0),
 oo 10 (.extract (.t 6) 1),
 oo 5 (.new 82 (.c (.agg [(.int .i64 0), (.int .i64 0), (.int .i64 0)]))),
 mv 4 9,
 ⟨none, .store 3 (.t 5) (.t 10), none⟩])
 (.seq
 (.seq
 (.reg [oo 11 (.faddr 0 (.t 5)),
 oo 12 (.load none (.t 11)),
 oo 13 (.bin .int .neq (.t 12) (.c (.int .i64 0))),
 mv 14 13,
 og 15 14 false (.move (.t 4)),
 og 16 14 false (.len .slice (.t 15)),
 og 17 14 false (.bin .int .neq (.t 16) (.c (.int .i64 1))),
 oo 18 (.pick (.t 14) (.c (.bool true)) (.t 17)),
 mv 19 18,
 og 20 19 false (.move (.t 4)),
 og 21 19 false (.iaddr 6 (.t 20) (.c (.int .i64 0))),
 og 22 19 false (.faddr 1 (.t 21)),
 og 23 19 false (.load none (.t 22)),
 og 24 19 false (.move (.t 0)),
 og 25 19 false (.bin .str .neq (.t 23) (.t 24)),
 oo 26 (.pick (.t 19) (.c (.bool true)) (.t 25))])
 (.cond (.t 26)
 (.seq
 (.reg [oo 27 (.build [(.int .i64 0), (.str ⟨#[]⟩), (.int .i64 0), (.int .i64 0), (.int .i64 0), (.bool false)] []),
 ⟨none, .store 6 (.t 2) (.t 27), none⟩,
 oo 3 (.move (.c (.bool false)))])
 .ret)
 .skip))
 (.seq
 (.reg [mv 28 4,
 oo 29 (.iaddr 6 (.t 28) (.c (.int .i64 0))),
 oo 30 (.load (some 6) (.t 29)),
 ⟨none, .store 6 (.t 2) (.t 30), none⟩,
 oo 3 (.move (.c (.bool true)))])
 .ret))))
theorem ent297 : EntOK Tryz.prog 297 ⟨31, v297, [.cell 2 (some 6), .slot 3]⟩ := fun args σ K ha h =>
 enter (own := List.range 31) Tryz.func297 (by kernel_rfl) (by kernel_rfl) (by kernel_rfl) ha h
def v298 : ACode :=
(.seq
 (.reg [oo 1 (.new 297 (.t 0)),
 oo 2 (.move (.c (.bool false)))])
 (.seq
 (.reg [oo 5 (.faddr 3 (.t 1)),
 oo 6 (.load none (.t 5)),
 oo 7 (.len .slice (.t 6)),
 oo 8 (.faddr 4 (.t 1)),
 oo 9 (.load none (.t 8)),
 oo 10 (.len .slice (.t 9)),
 oo 11 (.faddr 5 (.t 1)),
 oo 12 (.load none (.t 11)),
 oo 13 (.len .slice (.t 12)),
 oo 14 (.faddr 6 (.t 1)),
 oo 15 (.load none (.t 14)),
 oo 16 (.len .slice (.t 15)),
 oo 17 (.build [(.int .i64 0), (.int .i64 0), (.int .i64 0), (.int .i64 0)] [(0, 1, (.t 7)), (1, 1, (.t 10)), (2, 1, (.t 13)), (3, 1, (.t 16))]),
 oo 3 (.new 482 (.c (.agg [(.int .i64 0), (.int .i64 0), (.int .i64 0), (.int .i64 0)]))),
 ⟨none, .store 4 (.t 3) (.t 17), none⟩])
 (.seq
 (.reg [oo 18 (.faddr 0 (.t 1)),
 oo 19 (.load none (.t 18)),
 oo 20 (.bin .int .eql (.t 19) (.c (.int .i64 1))),
 mv 21 20,
 og 22 21 false (.faddr 0 (.t 1)),
 og 23 21 false (.load none (.t 22)),
 og 24 21 false (.bin .int .eql (.t 23) (.c (.int .i64 2))),
 oo 25 (.pick (.t 21) (.c (.bool true)) (.t 24)),
 mv 4 25])
 (.seq
 (.seq
 (.reg [mv 26 4,
 oo 27 (.not (.t 26)),
 mv 28 27,
 og 29 28 true (.faddr 1 (.t 1)),
 og 30 28 true (.load none (.t 29)),
 og 31 28 true (.bin .str .neq (.t 30) (.c (.str ⟨#[]⟩))),
 oo 32 (.pick (.t 28) (.t 31) (.c (.bool false))),
 mv 33 32,
 og 34 33 false (.faddr 0 (.t 1)),
 og 35 33 false (.load none (.t 34)),
 og 36 33 false (.bin .int .neq (.t 35) (.c (.int .i64 3))),
 og 37 33 false (.move (.t 36)),
 og 38 37 true (.faddr 2 (.t 1)),
 og 39 37 true (.load none (.t 38)),
 og 40 37 true (.bin .int .neq (.t 39) (.c (.int .i64 0))),
 og 41 33 false (.pick (.t 37) (.t 40) (.c (.bool false))),
 oo 42 (.pick (.t 33) (.c (.bool true)) (.t 41)),
 mv 43 42,
 og 44 43 false (.faddr 4 (.t 1)),
 og 45 43 false (.load none (.t 44)),
 og 46 43 false (.call 321 [(.t 45), (.c (.fn (.func 298) [] []))]),
 og 47 43 false (.not (.t 46)),
 oo 48 (.pick (.t 43) (.c (.bool true)) (.t 47))])
 (.cond (.t 48)
 (.seq
 (.reg [oo 2 (.move (.c (.bool false)))])
 .ret)
 .skip))
 (.seq
 (.seq
 (.reg [oo 49 (.faddr 0 (.t 1)),
 oo 50 (.load none (.t 49))])
 (.block 0
 (.seq
 (.reg [oo 52 (.bin .int .eql (.t 50) (.c (.int .i64 1))),
 mv 51 52])
 (.cond (.t 51)
 (.seq
 (.reg [oo 53 (.load (some 4) (.t 3)),
 oo 54 (.build [(.int .i64 0), (.int .i64 0), (.int .i64 0), (.int .i64 0)] []),
 oo 55 (.bin (.row [.int, .int, .int, .int]) .eql (.t 53) (.t 54)),
 mv 56 55,
 og 57 56 true (.faddr 1 (.t 1)),
 og 58 56 true (.load none (.t 57)),
 og 59 56 true (.call 257 [(.t 58)]),
 oo 60 (.pick (.t 56) (.t 59) (.c (.bool false))),
 mv 2 60])
 .ret)
 (.seq
 (.reg [oo 62 (.bin .int .eql (.t 50) (.c (.int .i64 2))),
 mv 61 62])
 (.cond (.t 61)
 (.seq
 (.reg [oo 63 (.load (some 4) (.t 3)),
 oo 64 (.build [(.int .i64 0), (.int .i64 0), (.int .i64 0), (.int .i64 0)] []),
 oo 65 (.bin (.row [.int, .int, .int, .int]) .eql (.t 63) (.t 64)),
 mv 66 65,
 og 67 66 true (.faddr 1 (.t 1)),
 og 68 66 true (.load none (.t 67)),
 og 69 66 true (.call 251 [(.t 68), (.c (.int .i64 2))]),
 oo 70 (.pick (.t 66) (.t 69) (.c (.bool false))),
 mv 2 70])
 .ret)
 (.seq
 (.reg [oo 72 (.bin .int .eql (.t 50) (.c (.int .i64 3))),
 mv 71 72])
 (.cond (.t 71)
 (.seq
 (.reg [oo 73 (.load (some 4) (.t 3)),
 oo 74 (.build [(.int .i64 0), (.int .i64 0), (.int .i64 0), (.int .i64 0)] []),
 oo 75 (.bin (.row [.int, .int, .int, .int]) .eql (.t 73) (.t 74)),
 mv 2 75])
 .ret)
 (.seq
 (.reg [oo 77 (.bin .int .eql (.t 50) (.c (.int .i64 4))),
 mv 76 77])
 (.cond (.t 76)
 (.seq
 (.reg [oo 78 (.load (some 4) (.t 3)),
 oo 79 (.build [(.int .i64 0), (.int .i64 0), (.int .i64 0), (.int .i64 0)] [(1, 1, (.c (.int .i64 2)))]),
 oo 80 (.bin (.row [.int, .int, .int, .int]) .eql (.t 78) (.t 79)),
 mv 2 80])
 .ret)
 (.seq
 (.reg [oo 82 (.bin .int .eql (.t 50) (.c (.int .i64 5))),
 mv 81 82])
 (.cond (.t 81)
 (.seq
 (.reg [oo 83 (.faddr 0 (.t 3)),
 oo 84 (.load none (.t 83)),
 oo 85 (.bin .int .gtr (.t 84) (.c (.int .i64 0))),
 mv 86 85,
 og 87 86 true (.load (some 4) (.t 3)),
 og 88 86 true (.faddr 0 (.t 3)),
 og 89 86 true (.load none (.t 88)),
 og 90 86 true (.build [(.int .i64 0), (.int .i64 0), (.int .i64 0), (.int .i64 0)] [(0, 1, (.t 89)), (1, 1, (.c (.int .i64 1)))]),
 og 91 86 true (.bin (.row [.int, .int, .int, .int]) .eql (.t 87) (.t 90)),
 oo 92 (.pick (.t 86) (.t 91) (.c (.bool false))),
 mv 93 92,
 og 94 93 true (.faddr 3 (.t 1)),
 og 95 93 true (.load none (.t 94)),
 og 96 93 true (.call 252 [(.t 95), (.c (.fn (.func 322) [] []))]),
 oo 97 (.pick (.t 93) (.t 96) (.c (.bool false))),
 mv 2 97])
 .ret)
 (.seq
 (.reg [oo 99 (.bin .int .eql (.t 50) (.c (.int .i64 6))),
 mv 98 99])
 (.cond (.t 98)
 (.seq
 (.reg [oo 100 (.faddr 3 (.t 3)),
 oo 101 (.load none (.t 100)),
 oo 102 (.bin .int .gtr (.t 101) (.c (.int .i64 0))),
 mv 103 102,
 og 104 103 true (.load (some 4) (.t 3)),
 og 105 103 true (.faddr 3 (.t 3)),
 og 106 103 true (.load none (.t 105)),
 og 107 103 true (.build [(.int .i64 0), (.int .i64 0), (.int .i64 0), (.int .i64 0)] [(1, 1, (.c (.int .i64 1))), (3, 1, (.t 106))]),
 og 108 103 true (.bin (.row [.int, .int, .int, .int]) .eql (.t 104) (.t 107)),
 oo 109 (.pick (.t 103) (.t 108) (.c (.bool false))),
 mv 110 109,
 og 111 110 true (.faddr 6 (.t 1)),
 og 112 110 true (.load none (.t 111)),
 og 113 110 true (.call 205 [(.t 112)]),
 oo 114 (.pick (.t 110) (.t 113) (.c (.bool false))),
 mv 2 114])
 .ret)
 (.seq
 (.reg [oo 116 (.bin .int .eql (.t 50) (.c (.int .i64 7))),
 mv 115 116])
 (.cond (.t 115)
 (.seq
 (.reg [oo 117 (.faddr 2 (.t 3)),
 oo 118 (.load none (.t 117)),
 oo 119 (.bin .int .gtr (.t 118) (.c (.int .i64 0))),
 mv 120 119,
 og 121 120 true (.load (some 4) (.t 3)),
 og 122 120 true (.faddr 2 (.t 3)),
 og 123 120 true (.load none (.t 122)),
 og 124 120 true (.build [(.int .i64 0), (.int .i64 0), (.int .i64 0), (.int .i64 0)] [(1, 1, (.c (.int .i64 1))), (2, 1, (.t 123))]),
 og 125 120 true (.bin (.row [.int, .int, .int, .int]) .eql (.t 121) (.t 124)),
 oo 126 (.pick (.t 120) (.t 125) (.c (.bool false))),
 mv 127 126,
 og 128 127 true (.faddr 5 (.t 1)),
 og 129 127 true (.load none (.t 128)),
 og 130 127 true (.call 323 [(.t 129), (.c (.fn (.func 324) [] []))]),
 oo 131 (.pick (.t 127) (.t 130) (.c (.bool false))),
 mv 2 131])
 .ret)
 (.seq
 (.reg [oo 133 (.bin .int .eql (.t 50) (.c (.int .i64 8))),
 mv 132 133])
 (.cond (.t 132)
 (.seq
 (.reg [oo 134 (.load (some 4) (.t 3)),
 oo 135 (.build [(.int .i64 0), (.int .i64 0), (.int .i64 0), (.int .i64 0)] [(1, 1, (.c (.int .i64 3)))]),
 oo 136 (.bin (.row [.int, .int, .int, .int]) .eql (.t 134) (.t 135)),
 mv 2 136])
 .ret)
 .skip))))))))))))))))))
 (.seq
 (.reg [oo 2 (.move (.c (.bool false)))])
 .ret))))))
theorem ent298 : EntOK Tryz.prog 298 ⟨137, v298, [.slot 2]⟩ := fun args σ K ha h =>
 enter (own := List.range 137) Tryz.func298 (by kernel_rfl) (by kernel_rfl) (by kernel_rfl) ha h
def v302 : ACode :=
(.reg [oo 2 (.load none (.t 0)),
 oo 3 (.load none (.t 1)),
 oo 4 (.call 303 [(.t 2), (.t 3)])])
theorem ent302 : EntOK Tryz.prog 302 ⟨5, v302, []⟩ := fun args σ K ha h =>
 enter (own := List.range 5) Tryz.func302 (by kernel_rfl) (by kernel_rfl) (by kernel_rfl) ha h
def v303 : ACode :=
(.seq
 (.reg [mv 8 1,
 oo 9 (.len .slice (.t 8)),
 oo 10 (.move (.c (.int .i64 0)))])
 (.block 0
 (.loop
 (.seq
 (.reg [oo 11 (.bin .int .lss (.t 10) (.t 9))])
 (.seq
 (.cond (.t 11)
 .skip
 (.exit 0))
 (.seq
 (.block 1
 (.seq
 (.reg [oo 12 (.iaddr 10 (.t 8) (.t 10)),
 oo 13 (.load (some 10) (.t 12)),
 oo 5 (.new 299 (.c (.agg [.nils, (.int .i64 0), (.str ⟨#[]⟩), (.int .i64 0), .nils, .nils, .nils, .nils, (.int .i64 0), (.int .i64 0)]))),
 ⟨none, .store 10 (.t 5) (.t 13), none⟩])
 (.seq
 (.seq
 (.reg [oo 14 (.faddr 0 (.t 5)),
 oo 15 (.load none (.t 14)),
 oo 16 (.len .slice (.t 15)),
 oo 17 (.move (.c (.int .i64 0)))])
 (.block 2
 (.loop
 (.seq
 (.reg [oo 18 (.bin .int .lss (.t 17) (.t 16))])
 (.seq
 (.cond (.t 18)
 .skip
 (.exit 2))
 (.seq
 (.block 3
 (.seq
 (.reg [oo 19 (.iaddr 9 (.t 15) (.t 17)),
 oo 20 (.load (some 9) (.t 19)),
 oo 7 (.new 297 (.c (.agg [(.int .i64 0), (.str ⟨#[]⟩), (.int .i64 0), .nils, .nils, .nils, .nils, (.int .i64 0), (.int .i64 0)]))),
 ⟨none, .store 9 (.t 7) (.t 20), none⟩])
 (.reg [mv 21 0,
 oo 22 (.load (some 9) (.t 7)),
 oo 23 (.call 325 [(.t 21), (.t 22)])])))
 (.reg [oo 24 (.bin .int .add (.t 17) (.c (.int .i64 1))),
 mv 17 24])))))))
 (.reg [mv 25 0,
 oo 26 (.faddr 1 (.t 5)),
 oo 27 (.load (some 9) (.t 26)),
 oo 28 (.call 325 [(.t 25), (.t 27)])]))))
 (.reg [oo 29 (.bin .int .add (.t 10) (.c (.int .i64 1))),
 mv 10 29])))))))
theorem ent303 : EntOK Tryz.prog 303 ⟨30, v303, []⟩ := fun args σ K ha h =>
 enter (own := List.range 30) Tryz.func303 (by kernel_rfl) (by kernel_rfl) (by kernel_rfl) ha h
def v304 : ACode :=
(.seq
 (.reg [oo 3 (.new 418 (.t 0)),
 oo 5 (.new 222 (.t 2))])
 (.seq
 (.reg [oo 6 (.move (.c .nils))])
 (.seq
 (.seq
 (.reg [mv 9 1,
 oo 10 (.len .slice (.t 9)),
 oo 11 (.move (.c (.int .i64 0)))])
 (.block 0
 (.loop
 (.seq
 (.reg [oo 12 (.bin .int .lss (.t 11) (.t 10))])
 (.seq
 (.cond (.t 12)
 .skip
 (.exit 0))
 (.seq
 (.block 1
 (.seq
 (.reg [oo 13 (.iaddr 6 (.t 9) (.t 11)),
 oo 14 (.load (some 6) (.t 13)),
 oo 8 (.new 291 (.c (.agg [(.int .i64 0), (.str ⟨#[]⟩), (.int .i64 0), .nils, (.int .i64 0), (.int .i64 0)]))),
 ⟨none, .store 6 (.t 8) (.t 14), none⟩])
 (.reg [mv 15 6,
 oo 16 (.load (some 6) (.t 8)),
 oo 17 (.call 326 [(.t 16)]),
 oo 18 (.append 9 1 16 (.t 15) (.t 17)),
 mv 6 18])))
 (.reg [oo 19 (.bin .int .add (.t 11) (.c (.int .i64 1))),
 mv 11 19])))))))
 (.reg [oo 20 (.load none (.t 3)),
 mv 21 6,
 oo 22 (.mkfn (.func 328) [] [(.t 5), (.t 3)]),
 oo 23 (.call 327 [(.t 20), (.t 21), (.t 22)])]))))
theorem ent304 : EntOK Tryz.prog 304 ⟨24, v304, []⟩ := fun args σ K ha h =>
 enter (own := List.range 24) Tryz.func304 (by kernel_rfl) (by kernel_rfl) (by kernel_rfl) ha h
def v305 : ACode :=
(.scope
 (.seq
 (.reg [mv 10 0,
 mv 11 1,
 oo 12 (.call 330 [(.t 10), (.t 11)]),
 oo 13 (.lit true 489 2 [(.t 12)]),
 mv 4 13])
 (.seq
 .skip
 (.block 0
 (.loop
 (.seq
 (.seq
 (.reg [mv 14 4,
 oo 15 (.len .slice (.t 14)),
 oo 16 (.bin .int .gtr (.t 15) (.c (.int .i64 0)))])
 (.cond (.t 16)
 .skip
 (.exit 0)))
 (.block 1
 (.seq
 (.reg [mv 17 4,
 mv 18 4,
 oo 19 (.len .slice (.t 18)),
 oo 20 (.bin .int .sub (.t 19) (.c (.int .i64 1))),
 oo 21 (.iaddr 2 (.t 17) (.t 20)),
 mv 5 21])
 (.seq
 (.block 2
 (.loop
 (.seq
 (.seq
 (.reg [mv 22 5,
 oo 23 (.nilck (.t 22)),
 oo 24 (.faddr 1 (.t 23)),
 oo 25 (.load none (.t 24)),
 mv 26 0,
 oo 27 (.nilck (.t 26)),
 oo 28 (.faddr 0 (.t 27)),
 oo 29 (.load none (.t 28)),
 mv 30 5,
 oo 31 (.nilck (.t 30)),
 oo 32 (.faddr 0 (.t 31)),
 oo 33 (.load none (.t 32)),
 oo 34 (.iaddr 1 (.t 29) (.t 33)),
 oo 35 (.load none (.t 34)),
 oo 36 (.len .slice (.t 35)),
 oo 37 (.bin .int .lss (.t 25) (.t 36))])
 (.cond (.t 37)
 .skip
 (.exit 2)))
 (.block 3
 (.seq
 (.reg [mv 38 0,
 oo 39 (.nilck (.t 38)),
 oo 40 (.faddr 0 (.t 39)),
 oo 41 (.load none (.t 40)),
 mv 42 5,
 oo 43 (.nilck (.t 42)),
 oo 44 (.faddr 0 (.t 43)),
 oo 45 (.load none (.t 44)),
 oo 46 (.iaddr 1 (.t 41) (.t 45)),
 oo 47 (.load none (.t 46)),
 mv 48 5,
 oo 49 (.nilck (.t 48)),
 oo 50 (.faddr 1 (.t 49)),
 oo 51 (.load none (.t 50)),
 oo 52 (.iaddr 1 (.t 47) (.t 51)),
 oo 53 (.load none (.t 52)),
 mv 6 53])
 (.seq
 (.reg [mv 54 5,
 oo 55 (.nilck (.t 54)),
 oo 56 (.faddr 1 (.t 55)),
 oo 57 (.load none (.t 56)),
 oo 58 (.bin .int .add (.t 57) (.c (.int .i64 1))),
 oo 59 (.nilck (.t 54)),
 oo 60 (.faddr 1 (.t 59)),
 ⟨none, .store 1 (.t 60) (.t 58), none⟩])
 (.block 4
 (.seq
 (.reg [mv 62 0,
 oo 63 (.nilck (.t 62)),
 oo 64 (.faddr 1 (.t 63)),
 oo 65 (.load none (.t 64)),
 mv 66 6,
 oo 67 (.iaddr 1 (.t 65) (.t 66)),
 oo 68 (.load none (.t 67)),
 oo 69 (.bin .int .eql (.t 68) (.c (.int .i64 0))),
 mv 61 69])
 (.cond (.t 61)
 (.seq
 (.reg [mv 70 4,
 mv 71 0,
 mv 72 6,
 oo 73 (.call 330 [(.t 71), (.t 72)]),
 oo 74 (.lit true 489 2 [(.t 73)]),
 oo 75 (.append 489 2 16 (.t 70) (.t 74)),
 mv 4 75])
 (.exit 1))
 (.seq
 (.reg [mv 77 0,
 oo 78 (.nilck (.t 77)),
 oo 79 (.faddr 4 (.t 78)),
 oo 80 (.load none (.t 79)),
 mv 81 6,
 oo 82 (.iaddr 1 (.t 80) (.t 81)),
 oo 83 (.load none (.t 82)),
 mv 76 83])
 (.cond (.t 76)
 (.reg [mv 84 0,
 oo 85 (.nilck (.t 84)),
 oo 86 (.faddr 2 (.t 85)),
 oo 87 (.load none (.t 86)),
 mv 88 5,
 oo 89 (.nilck (.t 88)),
 oo 90 (.faddr 0 (.t 89)),
 oo 91 (.load none (.t 90)),
 mv 92 0,
 oo 93 (.nilck (.t 92)),
 oo 94 (.faddr 2 (.t 93)),
 oo 95 (.load none (.t 94)),
 mv 96 5,
 oo 97 (.nilck (.t 96)),
 oo 98 (.faddr 0 (.t 97)),
 oo 99 (.load none (.t 98)),
 oo 100 (.iaddr 1 (.t 95) (.t 99)),
 oo 101 (.load none (.t 100)),
 mv 102 0,
 oo 103 (.nilck (.t 102)),
 oo 104 (.faddr 1 (.t 103)),
 oo 105 (.load none (.t 104)),
 mv 106 6,
 oo 107 (.iaddr 1 (.t 105) (.t 106)),
 oo 108 (.load none (.t 107)),
 oo 109 (.min2 (.t 101) (.t 108)),
 oo 110 (.iaddr 1 (.t 87) (.t 91)),
 ⟨none, .store 1 (.t 110) (.t 109), none⟩])
 .skip)))))))))))
 (.seq
 (.reg [mv 111 5,
 oo 112 (.nilck (.t 111)),
 oo 113 (.faddr 0 (.t 112)),
 oo 114 (.load none (.t 113)),
 mv 7 114])
 (.seq
 (.reg [mv 115 4,
 mv 116 4,
 oo 117 (.len .slice (.t 116)),
 oo 118 (.bin .int .sub (.t 117) (.c (.int .i64 1))),
 oo 119 (.cut .slice 2 (.t 115) none (some (.t 118))),
 mv 4 119])
 (.seq
 (.seq
 (.reg [mv 120 4,
 oo 121 (.len .slice (.t 120)),
 mv 8 121])
 (.seq
 (.reg [mv 122 8,
 oo 123 (.bin .int .gtr (.t 122) (.c (.int .i64 0)))])
 (.cond (.t 123)
 (.seq
 (.reg [mv 124 4,
 mv 125 8,
 oo 126 (.bin .int .sub (.t 125) (.c (.int .i64 1))),
 oo 127 (.iaddr 2 (.t 124) (.t 126)),
 oo 128 (.faddr 0 (.t 127)),
 oo 129 (.load none (.t 128)),
 mv 9 129])
 (.reg [mv 130 0,
 oo 131 (.nilck (.t 130)),
 oo 132 (.faddr 2 (.t 131)),
 oo 133 (.load none (.t 132)),
 mv 134 9,
 mv 135 0,
 oo 136 (.nilck (.t 135)),
 oo 137 (.faddr 2 (.t 136)),
 oo 138 (.load none (.t 137)),
 mv 139 9,
 oo 140 (.iaddr 1 (.t 138) (.t 139)),
 oo 141 (.load none (.t 140)),
 mv 142 0,
 oo 143 (.nilck (.t 142)),
 oo 144 (.faddr 2 (.t 143)),
 oo 145 (.load none (.t 144)),
 mv 146 7,
 oo 147 (.iaddr 1 (.t 145) (.t 146)),
 oo 148 (.load none (.t 147)),
 oo 149 (.min2 (.t 141) (.t 148)),
 oo 150 (.iaddr 1 (.t 133) (.t 134)),
 ⟨none, .store 1 (.t 150) (.t 149), none⟩]))
 .skip)))
 (.reg [mv 151 0,
 mv 152 7,
 oo 153 (.call 331 [(.t 151), (.t 152)])])))))))))))))
theorem ent305 : EntOK Tryz.prog 305 ⟨154, v305, []⟩ := fun args σ K ha h =>
 enter (own := List.range 154) Tryz.func305 (by kernel_rfl) (by kernel_rfl) (by kernel_rfl) ha h
def v306 : ACode :=
(.seq
 (.reg [oo 8 (.move (.c (.bool false)))])
 (.seq
 (.seq
 (.reg [mv 13 2,
 oo 14 (.len .slice (.t 13)),
 oo 15 (.move (.c (.int .i64 0)))])
 (.block 0
 (.loop
 (.seq
 (.reg [oo 16 (.bin .int .lss (.t 15) (.t 14))])
 (.seq
 (.cond (.t 16)
 .skip
 (.exit 0))
 (.seq
 (.block 1
 (.seq
 (.reg [oo 17 (.iaddr 1 (.t 13) (.t 15)),
 oo 18 (.load none (.t 17)),
 mv 10 18])
 (.seq
 (.reg [mv 19 0,
 mv 20 10,
 oo 21 (.iaddr 1 (.t 19) (.t 20)),
 oo 22 (.load none (.t 21)),
 oo 23 (.len .slice (.t 22)),
 oo 24 (.move (.c (.int .i64 0)))])
 (.block 2
 (.loop
 (.seq
 (.reg [oo 25 (.bin .int .lss (.t 24) (.t 23))])
 (.seq
 (.cond (.t 25)
 .skip
 (.exit 2))
 (.seq
 (.block 3
 (.seq
 (.reg [oo 26 (.iaddr 1 (.t 22) (.t 24)),
 oo 27 (.load none (.t 26)),
 mv 12 27])
 (.seq
 (.reg [mv 28 3,
 mv 29 1,
 mv 30 12,
 oo 31 (.iaddr 1 (.t 29) (.t 30)),
 oo 32 (.load none (.t 31)),
 oo 33 (.iaddr 1 (.t 28) (.t 32)),
 oo 34 (.load none (.t 33)),
 oo 35 (.not (.t 34)),
 mv 36 35,
 og 37 36 true (.move (.t 1)),
 og 38 36 true (.move (.t 12)),
 og 39 36 true (.iaddr 1 (.t 37) (.t 38)),
 og 40 36 true (.load none (.t 39)),
 og 41 36 true (.move (.t 1)),
 og 42 36 true (.move (.t 10)),
 og 43 36 true (.iaddr 1 (.t 41) (.t 42)),
 og 44 36 true (.load none (.t 43)),
 og 45 36 true (.bin .int .neq (.t 40) (.t 44)),
 oo 46 (.pick (.t 36) (.t 45) (.c (.bool false)))])
 (.cond (.t 46)
 (.seq
 (.reg [oo 8 (.move (.c (.bool false)))])
 .ret)
 .skip))))
 (.reg [oo 47 (.bin .int .add (.t 24) (.c (.int .i64 1))),
 mv 24 47])))))))))
 (.reg [oo 48 (.bin .int .add (.t 15) (.c (.int .i64 1))),
 mv 15 48])))))))
 (.seq
 (.reg [oo 8 (.move (.c (.bool true)))])
 .ret)))
theorem ent306 : EntOK Tryz.prog 306 ⟨49, v306, [.slot 8]⟩ := fun args σ K ha h =>
 enter (own := List.range 49) Tryz.func306 (by kernel_rfl) (by kernel_rfl) (by kernel_rfl) ha h
def v307 : ACode :=
(.seq
 (.reg [oo 2 (.new 247 (.c (.agg [(.int .i64 0), (.int .i64 0), (.str ⟨#[]⟩), .nils])))])
 (.seq
 (.reg [mv 3 0,
 oo 4 (.build [(.int .i64 0), (.int .i64 0), (.str ⟨#[]⟩), .nils] [(0, 1, (.c (.int .i64 1))), (1, 1, (.t 3))]),
 ⟨none, .store 4 (.t 2) (.t 4), none⟩])
 .ret))
theorem ent307 : EntOK Tryz.prog 307 ⟨5, v307, [.cell 2 (some 4)]⟩ := fun args σ K ha h =>
 enter (own := List.range 5) Tryz.func307 (by kernel_rfl) (by kernel_rfl) (by kernel_rfl) ha h
def v308 : ACode :=
(.seq
 (.reg [oo 2 (.new 247 (.c (.agg [(.int .i64 0), (.int .i64 0), (.str ⟨#[]⟩), .nils])))])
 (.seq
 (.reg [mv 3 0,
 oo 4 (.build [(.int .i64 0), (.int .i64 0), (.str ⟨#[]⟩), .nils] [(0, 1, (.c (.int .i64 2))), (2, 1, (.t 3))]),
 ⟨none, .store 4 (.t 2) (.t 4), none⟩])
 .ret))
theorem ent308 : EntOK Tryz.prog 308 ⟨5, v308, [.cell 2 (some 4)]⟩ := fun args σ K ha h =>
 enter (own := List.range 5) Tryz.func308 (by kernel_rfl) (by kernel_rfl) (by kernel_rfl) ha h
def v310 : ACode :=
(.seq
 (.reg [oo 4 (.new 247 (.t 1)),
 oo 5 (.new 247 (.t 2)),
 oo 6 (.move (.c (.int .i64 0)))])
 (.seq
 (.block 0
 (.seq
 (.reg [mv 11 0,
 oo 12 (.nileq .ptr false (.t 11) (.c .nilp)),
 mv 13 12,
 og 14 13 false (.move (.t 0)),
 og 15 13 false (.nilck (.t 14)),
 og 16 13 false (.faddr 0 (.t 15)),
 og 17 13 false (.load none (.t 16)),
 og 18 13 false (.nileq .map false (.t 17) (.c .nilm)),
 oo 19 (.pick (.t 13) (.c (.bool true)) (.t 18)),
 mv 10 19])
 (.cond (.t 10)
 (.seq
 (.reg [oo 6 (.move (.c (.int .i64 3)))])
 .ret)
 (.seq
 (.reg [oo 21 (.load (some 4) (.t 4)),
 oo 22 (.call 273 [(.t 21)]),
 oo 23 (.not (.t 22)),
 mv 24 23,
 og 25 24 false (.load (some 4) (.t 5)),
 og 26 24 false (.call 273 [(.t 25)]),
 og 27 24 false (.not (.t 26)),
 oo 28 (.pick (.t 24) (.c (.bool true)) (.t 27)),
 mv 20 28])
 (.cond (.t 20)
 (.seq
 (.reg [oo 6 (.move (.c (.int .i64 1)))])
 .ret)
 .skip)))))
 (.seq
 (.reg [mv 29 0,
 oo 30 (.load (some 4) (.t 4)),
 oo 31 (.call 274 [(.t 29), (.t 30)])])
 (.seq
 (.reg [mv 32 0,
 oo 33 (.load (some 4) (.t 5)),
 oo 34 (.call 274 [(.t 32), (.t 33)])])
 (.seq
 (.reg [mv 35 0,
 oo 36 (.nilck (.t 35)),
 oo 37 (.faddr 2 (.t 36)),
 ⟨none, .store 1 (.t 37) (.c .nils), none⟩])
 (.seq
 (.reg [mv 38 0,
 oo 39 (.mkmap),
 oo 40 (.nilck (.t 38)),
 oo 41 (.faddr 3 (.t 40)),
 ⟨none, .store 1 (.t 41) (.t 39), none⟩])
 (.seq
 (.draw [] [([⟨(some 42), .move (.t 0), none⟩], []),
 ([⟨(some 43), .load (some 4) (.t 4), none⟩], []),
 ([⟨(some 45), .load (some 4) (.t 5), none⟩], []),
 ([⟨(some 44), .call 334 [(.t 43)], none⟩], [⟨(some 45), .load (some 4) (.t 5), none⟩]),
 ([⟨(some 46), .call 334 [(.t 45)], none⟩], []),
 ([⟨(some 47), .call 333 [(.t 42), (.t 44), (.t 46)], none⟩], []),
 ([⟨(some 7), .move (.t 47), none⟩], [])])
 (.seq
 (.seq
 (.reg [mv 48 7,
 oo 49 (.bin .int .neq (.t 48) (.c (.int .i64 0)))])
 (.cond (.t 49)
 (.seq
 (.reg [mv 50 0,
 oo 51 (.nilck (.t 50)),
 oo 52 (.faddr 2 (.t 51)),
 oo 53 (.load none (.t 52)),
 oo 54 (.len .slice (.t 53)),
 oo 55 (.move (.c (.int .i64 0)))])
 (.block 1
 (.loop
 (.seq
 (.reg [oo 56 (.bin .int .lss (.t 55) (.t 54))])
 (.seq
 (.cond (.t 56)
 .skip
 (.exit 1))
 (.seq
 (.block 2
 (.seq
 (.reg [oo 57 (.iaddr 1 (.t 53) (.t 55)),
 oo 58 (.load none (.t 57)),
 mv 9 58])
 (.reg [mv 59 0,
 oo 60 (.nilck (.t 59)),
 oo 61 (.faddr 0 (.t 60)),
 oo 62 (.load none (.t 61)),
 mv 63 9,
 ⟨none, .mapdel .int (.t 62) (.t 63), none⟩])))
 (.reg [oo 64 (.bin .int .add (.t 55) (.c (.int .i64 1))),
 mv 55 64])))))))
 .skip))
 (.seq
 (.reg [mv 65 7,
 mv 6 65])
 .ret)))))))))
theorem ent310 : EntOK Tryz.prog 310 ⟨66, v310, [.slot 6]⟩ := fun args σ K ha h =>
 enter (own := List.range 66) Tryz.func310 (by kernel_rfl) (by kernel_rfl) (by kernel_rfl) ha h
def v311 : ACode :=
(.seq
 (.reg [oo 2 (.new 247 (.t 0)),
 oo 3 (.new 247 (.t 1)),
 oo 4 (.new 247 (.c (.agg [(.int .i64 0), (.int .i64 0), (.str ⟨#[]⟩), .nils])))])
 (.seq
 (.reg [oo 5 (.load (some 4) (.t 2)),
 oo 6 (.load (some 4) (.t 3)),
 oo 7 (.lit true 247 4 [(.t 5), (.t 6)]),
 oo 8 (.build [(.int .i64 0), (.int .i64 0), (.str ⟨#[]⟩), .nils] [(0, 1, (.c (.int .i64 3))), (3, 1, (.t 7))]),
 ⟨none, .store 4 (.t 4) (.t 8), none⟩])
 .ret))
theorem ent311 : EntOK Tryz.prog 311 ⟨9, v311, [.cell 4 (some 4)]⟩ := fun args σ K ha h =>
 enter (own := List.range 9) Tryz.func311 (by kernel_rfl) (by kernel_rfl) (by kernel_rfl) ha h
def v312 : ACode :=
(.seq
 (.reg [oo 2 (.new 227 (.t 0)),
 oo 3 (.new 297 (.t 1)),
 oo 4 (.new 384 (.c (.agg [(.int .i64 0), (.int .i64 0), (.str ⟨#[]⟩), .nils, .nils, .nils, .nils, .nils])))])
 (.seq
 (.seq
 (.reg [oo 15 (.load none (.t 2)),
 oo 16 (.nilck (.t 15)),
 oo 17 (.faddr 3 (.t 16)),
 oo 18 (.load none (.t 17))])
 (.cond (.t 18)
 (.seq
 (.reg [oo 19 (.build [(.int .i64 0), (.int .i64 0), (.str ⟨#[]⟩), .nils, .nils, .nils, .nils, .nils] []),
 ⟨none, .store 8 (.t 4) (.t 19), none⟩])
 .ret)
 .skip))
 (.seq
 (.seq
 (.reg [oo 20 (.faddr 0 (.t 3)),
 oo 21 (.load none (.t 20))])
 (.block 0
 (.seq
 (.reg [oo 23 (.bin .int .eql (.t 21) (.c (.int .i64 1))),
 mv 22 23])
 (.cond (.t 22)
 (.seq
 (.reg [oo 24 (.load none (.t 2)),
 oo 25 (.faddr 1 (.t 3)),
 oo 26 (.load none (.t 25)),
 oo 27 (.call 335 [(.t 24), (.t 26)]),
 ⟨none, .store 8 (.t 4) (.t 27), none⟩])
 .ret)
 (.seq
 (.reg [oo 29 (.bin .int .eql (.t 21) (.c (.int .i64 2))),
 mv 28 29])
 (.cond (.t 28)
 (.seq
 (.reg [oo 31 (.load none (.t 2)),
 oo 32 (.faddr 1 (.t 3)),
 oo 33 (.load none (.t 32)),
 oo 34 (.call 309 [(.t 31), (.t 33)]),
 mv 30 34,
 oo 35 (.extract (.t 30) 0),
 oo 36 (.extract (.t 30) 1),
 oo 37 (.extract (.t 30) 2),
 oo 7 (.new 247 (.c (.agg [(.int .i64 0), (.int .i64 0), (.str ⟨#[]⟩), .nils]))),
 mv 5 35,
 mv 6 36,
 ⟨none, .store 4 (.t 7) (.t 37), none⟩])
 (.seq
 (.reg [mv 38 6,
 oo 39 (.load (some 4) (.t 7)),
 oo 40 (.call 269 [(.t 38), (.t 39)]),
 mv 41 5,
 oo 42 (.build [(.int .i64 0), (.int .i64 0), (.str ⟨#[]⟩), .nils, .nils, .nils, .nils, .nils] [(0, 4, (.t 40)), (4, 1, (.t 41))]),
 ⟨none, .store 8 (.t 4) (.t 42), none⟩])
 .ret))
 (.seq
 (.reg [oo 44 (.bin .int .eql (.t 21) (.c (.int .i64 3))),
 mv 43 44])
 (.cond (.t 43)
 (.seq
 (.reg [oo 45 (.call 308 [(.c (.str ⟨#[73, 110, 116]⟩))]),
 oo 46 (.build [(.int .i64 0), (.int .i64 0), (.str ⟨#[]⟩), .nils, .nils, .nils, .nils, .nils] [(0, 4, (.t 45))]),
 ⟨none, .store 8 (.t 4) (.t 46), none⟩])
 .ret)
 (.seq
 (.reg [oo 48 (.bin .int .eql (.t 21) (.c (.int .i64 4))),
 mv 47 48])
 (.cond (.t 47)
 (.seq
 (.draw [8, 9] [([⟨(some 49), .load none (.t 2), none⟩], []),
 ([⟨(some 50), .faddr 4 (.t 3), none⟩], []),
 ([⟨(some 51), .load none (.t 50), none⟩], []),
 ([⟨(some 52), .iaddr 9 (.t 51) (.c (.int .i64 0)), none⟩], []),
 ([⟨(some 53), .load (some 9) (.t 52), none⟩], []),
 ([⟨(some 55), .load none (.t 2), none⟩], []),
 ([⟨(some 56), .faddr 4 (.t 3), none⟩], []),
 ([⟨(some 57), .load none (.t 56), none⟩], []),
 ([⟨(some 58), .iaddr 9 (.t 57) (.c (.int .i64 1)), none⟩], []),
 ([⟨(some 59), .load (some 9) (.t 58), none⟩], []),
 ([⟨(some 54), .call 312 [(.t 49), (.t 53)], none⟩], [⟨(some 55), .load none (.t 2), none⟩, ⟨(some 56), .faddr 4 (.t 3), none⟩, ⟨(some 57), .load none (.t 56), none⟩, ⟨(some 58), .iaddr 9 (.t 57) (.c (.int .i64 1)), none⟩, ⟨(some 59), .load (some 9) (.t 58), none⟩]),
 ([⟨(some 60), .call 312 [(.t 55), (.t 59)], none⟩], []),
 ([⟨(some 8), .new 384 (.c (.agg [(.int .i64 0), (.int .i64 0), (.str ⟨#[]⟩), .nils, .nils, .nils, .nils, .nils])), none⟩, ⟨none, .store 8 (.t 8) (.t 54), none⟩], []),
 ([⟨(some 9), .new 384 (.c (.agg [(.int .i64 0), (.int .i64 0), (.str ⟨#[]⟩), .nils, .nils, .nils, .nils, .nils])), none⟩, ⟨none, .store 8 (.t 9) (.t 60), none⟩], [])])
 (.seq
 (.reg [oo 61 (.load none (.t 2)),
 oo 62 (.nilck (.t 61)),
 oo 63 (.faddr 0 (.t 62)),
 oo 64 (.load none (.t 63)),
 oo 65 (.call 266 [(.t 64)]),
 oo 10 (.new 247 (.c (.agg [(.int .i64 0), (.int .i64 0), (.str ⟨#[]⟩), .nils]))),
 ⟨none, .store 4 (.t 10) (.t 65), none⟩])
 (.seq
 (.draw [] [([⟨(some 66), .load none (.t 2), none⟩], []),
 ([⟨(some 67), .faddr 0 (.t 8), none⟩], []),
 ([⟨(some 68), .load (some 4) (.t 67), none⟩], []),
 ([⟨(some 69), .faddr 0 (.t 9), none⟩], []),
 ([⟨(some 70), .load (some 4) (.t 69), none⟩], []),
 ([⟨(some 71), .load (some 4) (.t 10), none⟩], []),
 ([⟨(some 73), .faddr 7 (.t 3), none⟩], []),
 ([⟨(some 74), .load (some 2) (.t 73), none⟩], []),
 ([⟨(some 72), .call 311 [(.t 70), (.t 71)], none⟩], [⟨(some 66), .load none (.t 2), none⟩, ⟨(some 67), .faddr 0 (.t 8), none⟩, ⟨(some 68), .load (some 4) (.t 67), none⟩, ⟨(some 73), .faddr 7 (.t 3), none⟩, ⟨(some 74), .load (some 2) (.t 73), none⟩]),
 ([⟨(some 75), .call 268 [(.t 66), (.t 68), (.t 72), (.t 74)], none⟩], [])])
 (.seq
 (.reg [oo 76 (.load (some 4) (.t 10)),
 oo 77 (.load (some 8) (.t 8)),
 oo 78 (.load (some 8) (.t 9)),
 oo 79 (.lit true 384 8 [(.t 77), (.t 78)]),
 oo 80 (.build [(.int .i64 0), (.int .i64 0), (.str ⟨#[]⟩), .nils, .nils, .nils, .nils, .nils] [(0, 4, (.t 76)), (5, 1, (.t 79))]),
 ⟨none, .store 8 (.t 4) (.t 80), none⟩])
 .ret))))
 (.seq
 (.reg [oo 82 (.bin .int .eql (.t 21) (.c (.int .i64 5))),
 mv 81 82])
 (.cond (.t 81)
 (.seq
 (.reg [oo 83 (.load none (.t 2)),
 oo 84 (.load (some 9) (.t 3)),
 oo 85 (.call 336 [(.t 83), (.t 84)]),
 ⟨none, .store 8 (.t 4) (.t 85), none⟩])
 .ret)
 (.seq
 (.reg [oo 87 (.bin .int .eql (.t 21) (.c (.int .i64 6))),
 mv 86 87])
 (.cond (.t 86)
 (.seq
 (.reg [oo 11 (.new 384 (.c (.agg [(.int .i64 0), (.int .i64 0), (.str ⟨#[]⟩), .nils, .nils, .nils, .nils, .nils])))])
 (.seq
 (.reg [oo 88 (.load none (.t 2)),
 oo 89 (.faddr 6 (.t 3)),
 oo 90 (.load none (.t 89)),
 oo 91 (.mkfn (.func 337) [] [(.t 2), (.t 3), (.t 11)]),
 oo 92 (.call 105 [(.t 88), (.t 90), (.t 91)]),
 oo 93 (.faddr 7 (.t 11)),
 ⟨none, .store 1 (.t 93) (.t 92), none⟩])
 (.seq
 (.reg [oo 94 (.faddr 5 (.t 11)),
 oo 95 (.load none (.t 94)),
 oo 96 (.iaddr 8 (.t 95) (.c (.int .i64 0))),
 oo 97 (.faddr 0 (.t 96)),
 oo 98 (.load (some 4) (.t 97)),
 oo 99 (.faddr 0 (.t 11)),
 ⟨none, .store 4 (.t 99) (.t 98), none⟩])
 (.seq
 (.reg [oo 100 (.load (some 8) (.t 11)),
 ⟨none, .store 8 (.t 4) (.t 100), none⟩])
 .ret))))
 (.seq
 (.reg [oo 102 (.bin .int .eql (.t 21) (.c (.int .i64 8))),
 mv 101 102])
 (.cond (.t 101)
 (.seq
 (.draw [12] [([⟨(some 103), .load none (.t 2), none⟩], []),
 ([⟨(some 104), .faddr 4 (.t 3), none⟩], []),
 ([⟨(some 105), .load none (.t 104), none⟩], []),
 ([⟨(some 106), .iaddr 9 (.t 105) (.c (.int .i64 0)), none⟩], []),
 ([⟨(some 107), .load (some 9) (.t 106), none⟩], []),
 ([⟨(some 108), .call 312 [(.t 103), (.t 107)], none⟩], []),
 ([⟨(some 12), .new 384 (.c (.agg [(.int .i64 0), (.int .i64 0), (.str ⟨#[]⟩), .nils, .nils, .nils, .nils, .nils])), none⟩, ⟨none, .store 8 (.t 12) (.t 108), none⟩], [])])
 (.seq
 (.draw [] [([⟨(some 109), .load none (.t 2), none⟩], []),
 ([⟨(some 110), .faddr 0 (.t 12), none⟩], []),
 ([⟨(some 111), .load (some 4) (.t 110), none⟩], []),
 ([⟨(some 113), .faddr 4 (.t 3), none⟩], []),
 ([⟨(some 114), .load none (.t 113), none⟩], []),
 ([⟨(some 115), .iaddr 9 (.t 114) (.c (.int .i64 0)), none⟩], []),
 ([⟨(some 116), .faddr 7 (.t 115), none⟩], []),
 ([⟨(some 117), .load (some 2) (.t 116), none⟩], []),
 ([⟨(some 112), .call 308 [(.c (.str ⟨#[66, 111, 111, 108]⟩))], none⟩], [⟨(some 109), .load none (.t 2), none⟩, ⟨(some 110), .faddr 0 (.t 12), none⟩, ⟨(some 111), .load (some 4) (.t 110), none⟩, ⟨(some 113), .faddr 4 (.t 3), none⟩, ⟨(some 114), .load none (.t 113), none⟩, ⟨(some 115), .iaddr 9 (.t 114) (.c (.int .i64 0)), none⟩, ⟨(some 116), .faddr 7 (.t 115), none⟩, ⟨(some 117), .load (some 2) (.t 116), none⟩]),
 ([⟨(some 118), .call 268 [(.t 109), (.t 111), (.t 112), (.t 117)], none⟩], [])])
 (.seq
 (.draw [13, 14] [([⟨(some 119), .load none (.t 2), none⟩], []),
 ([⟨(some 120), .faddr 4 (.t 3), none⟩], []),
 ([⟨(some 121), .load none (.t 120), none⟩], []),
 ([⟨(some 122), .iaddr 9 (.t 121) (.c (.int .i64 1)), none⟩], []),
 ([⟨(some 123), .load (some 9) (.t 122), none⟩], []),
 ([⟨(some 125), .load none (.t 2), none⟩], []),
 ([⟨(some 126), .faddr 4 (.t 3), none⟩], []),
 ([⟨(some 127), .load none (.t 126), none⟩], []),
 ([⟨(some 128), .iaddr 9 (.t 127) (.c (.int .i64 2)), none⟩], []),
 ([⟨(some 129), .load (some 9) (.t 128), none⟩], []),
 ([⟨(some 124), .call 312 [(.t 119), (.t 123)], none⟩], [⟨(some 125), .load none (.t 2), none⟩, ⟨(some 126), .faddr 4 (.t 3), none⟩, ⟨(some 127), .load none (.t 126), none⟩, ⟨(some 128), .iaddr 9 (.t 127) (.c (.int .i64 2)), none⟩, ⟨(some 129), .load (some 9) (.t 128), none⟩]),
 ([⟨(some 130), .call 312 [(.t 125), (.t 129)], none⟩], []),
 ([⟨(some 13), .new 384 (.c (.agg [(.int .i64 0), (.int .i64 0), (.str ⟨#[]⟩), .nils, .nils, .nils, .nils, .nils])), none⟩, ⟨none, .store 8 (.t 13) (.t 124), none⟩], []),
 ([⟨(some 14), .new 384 (.c (.agg [(.int .i64 0), (.int .i64 0), (.str ⟨#[]⟩), .nils, .nils, .nils, .nils, .nils])), none⟩, ⟨none, .store 8 (.t 14) (.t 130), none⟩], [])])
 (.seq
 (.reg [oo 131 (.load none (.t 2)),
 oo 132 (.faddr 0 (.t 13)),
 oo 133 (.load (some 4) (.t 132)),
 oo 134 (.faddr 0 (.t 14)),
 oo 135 (.load (some 4) (.t 134)),
 oo 136 (.faddr 4 (.t 3)),
 oo 137 (.load none (.t 136)),
 oo 138 (.iaddr 9 (.t 137) (.c (.int .i64 2))),
 oo 139 (.faddr 7 (.t 138)),
 oo 140 (.load (some 2) (.t 139)),
 oo 141 (.call 268 [(.t 131), (.t 133), (.t 135), (.t 140)])])
 (.seq
 (.reg [oo 142 (.faddr 0 (.t 13)),
 oo 143 (.load (some 4) (.t 142)),
 oo 144 (.load (some 8) (.t 12)),
 oo 145 (.load (some 8) (.t 13)),
 oo 146 (.load (some 8) (.t 14)),
 oo 147 (.lit true 384 8 [(.t 144), (.t 145), (.t 146)]),
 oo 148 (.build [(.int .i64 0), (.int .i64 0), (.str ⟨#[]⟩), .nils, .nils, .nils, .nils, .nils] [(0, 4, (.t 143)), (5, 1, (.t 147))]),
 ⟨none, .store 8 (.t 4) (.t 148), none⟩])
 .ret)))))
 .skip))))))))))))))))
 (.seq
 (.reg [oo 149 (.load none (.t 2)),
 oo 150 (.load (some 9) (.t 3)),
 oo 151 (.call 338 [(.t 149), (.t 150)]),
 ⟨none, .store 8 (.t 4) (.t 151), none⟩])
 .ret))))
theorem ent312 : EntOK Tryz.prog 312 ⟨152, v312, [.cell 4 (some 8)]⟩ := fun args σ K ha h =>
 enter (own := List.range 152) Tryz.func312 (by kernel_rfl) (by kernel_rfl) (by kernel_rfl) ha h
def v314 : ACode :=
(.seq
 (.reg [oo 3 (.new 247 (.t 1)),
 oo 4 (.new 247 (.c (.agg [(.int .i64 0), (.int .i64 0), (.str ⟨#[]⟩), .nils])))])
 (.seq
 (.block 0
 (.loop
 (.seq
 (.seq
 (.reg [oo 7 (.faddr 0 (.t 3)),
 oo 8 (.load none (.t 7)),
 oo 9 (.bin .int .eql (.t 8) (.c (.int .i64 1)))])
 (.cond (.t 9)
 .skip
 (.exit 0)))
 (.block 1
 (.seq
 (.draw [] [([⟨(some 11), .move (.t 0), none⟩], []),
 ([⟨(some 12), .nilck (.t 11), none⟩], []),
 ([⟨(some 13), .faddr 0 (.t 12), none⟩], []),
 ([⟨(some 14), .load none (.t 13), none⟩], []),
 ([⟨(some 15), .faddr 1 (.t 3), none⟩], []),
 ([⟨(some 16), .load none (.t 15), none⟩], []),
 ([⟨(some 17), .lookup .int (.agg [(.int .i64 0), (.int .i64 0), (.str ⟨#[]⟩), .nils]) true (.t 14) (.t 16), none⟩], []),
 ([⟨(some 10), .move (.t 17), none⟩], []),
 ([⟨(some 18), .extract (.t 10) 0, none⟩], []),
 ([⟨(some 19), .extract (.t 10) 1, none⟩], []),
 ([⟨(some 5), .new 247 (.c (.agg [(.int .i64 0), (.int .i64 0), (.str ⟨#[]⟩), .nils])), none⟩], [⟨(some 13), .faddr 0 (.t 12), none⟩, ⟨(some 14), .load none (.t 13), none⟩, ⟨(some 15), .faddr 1 (.t 3), none⟩, ⟨(some 16), .load none (.t 15), none⟩, ⟨(some 17), .lookup .int (.agg [(.int .i64 0), (.int .i64 0), (.str ⟨#[]⟩), .nils]) true (.t 14) (.t 16), none⟩]),
 ([⟨none, .store 4 (.t 5) (.t 18), none⟩], []),
 ([⟨(some 6), .move (.t 19), none⟩], [])])
 (.seq
 (.seq
 (.reg [mv 20 6,
 oo 21 (.not (.t 20))])
 (.cond (.t 21)
 (.seq
 (.reg [oo 22 (.load (some 4) (.t 3)),
 ⟨none, .store 4 (.t 4) (.t 22), none⟩])
 .ret)
 .skip))
 (.reg [oo 23 (.load (some 4) (.t 5)),
 ⟨none, .store 4 (.t 3) (.t 23), none⟩])))))))
 (.seq
 (.reg [oo 24 (.load (some 4) (.t 3)),
 ⟨none, .store 4 (.t 4) (.t 24), none⟩])
 .ret)))
theorem ent314 : EntOK Tryz.prog 314 ⟨25, v314, [.cell 4 (some 4)]⟩ := fun args σ K ha h =>
 enter (own := List.range 25) Tryz.func314 (by kernel_rfl) (by kernel_rfl) (by kernel_rfl) ha h
def v315 : ACode :=
(.seq
 (.reg [oo 4 (.move (.c (.bool false)))])
 (.seq
 (.seq
 (.reg [mv 7 0,
 oo 8 (.len .slice (.t 7)),
 oo 9 (.move (.c (.int .i64 0)))])
 (.block 0
 (.loop
 (.seq
 (.reg [oo 10 (.bin .int .lss (.t 9) (.t 8))])
 (.seq
 (.cond (.t 10)
 .skip
 (.exit 0))
 (.seq
 (.block 1
 (.seq
 (.reg [oo 11 (.iaddr 1 (.t 7) (.t 9)),
 oo 12 (.load none (.t 11)),
 mv 6 12])
 (.seq
 (.reg [mv 13 6,
 mv 14 1,
 oo 15 (.bin .int .eql (.t 13) (.t 14))])
 (.cond (.t 15)
 (.seq
 (.reg [oo 4 (.move (.c (.bool true)))])
 .ret)
 .skip))))
 (.reg [oo 16 (.bin .int .add (.t 9) (.c (.int .i64 1))),
 mv 9 16])))))))
 (.seq
 (.reg [oo 4 (.move (.c (.bool false)))])
 .ret)))
theorem ent315 : EntOK Tryz.prog 315 ⟨17, v315, [.slot 4]⟩ := fun args σ K ha h =>
 enter (own := List.range 17) Tryz.func315 (by kernel_rfl) (by kernel_rfl) (by kernel_rfl) ha h
def v317 : ACode :=
(.seq
 (.reg [oo 2 (.new 219 (.c (.agg [(.str ⟨#[]⟩), (.int .i64 0), (.int .i64 0), (.int .i64 0), (.int .i64 0)])))])
 (.seq
 (.reg [mv 5 0,
 oo 6 (.build [(.str ⟨#[]⟩), (.int .i64 0), (.int .i64 0), (.int .i64 0), (.int .i64 0)] [(0, 1, (.t 5)), (1, 1, (.c (.int .i64 1))), (2, 1, (.c (.int .i64 9)))]),
 oo 3 (.new 219 (.c (.agg [(.str ⟨#[]⟩), (.int .i64 0), (.int .i64 0), (.int .i64 0), (.int .i64 0)]))),
 ⟨none, .store 5 (.t 3) (.t 6), none⟩])
 (.seq
 (.seq
 (.reg [mv 7 0,
 oo 8 (.call 71 [(.t 7)]),
 mv 4 8])
 (.block 0
 (.seq
 (.reg [mv 10 4,
 oo 11 (.call 134 [(.t 10)]),
 mv 9 11])
 (.cond (.t 9)
 (.reg [oo 12 (.faddr 1 (.t 3)),
 ⟨none, .store 1 (.t 12) (.c (.int .i64 0)), none⟩,
 oo 13 (.faddr 2 (.t 3)),
 ⟨none, .store 1 (.t 13) (.c (.int .i64 4)), none⟩])
 (.seq
 (.reg [mv 15 0,
 oo 16 (.bin .str .eql (.t 15) (.c (.str ⟨#[43]⟩))),
 mv 17 16,
 og 18 17 false (.move (.t 0)),
 og 19 17 false (.bin .str .eql (.t 18) (.c (.str ⟨#[45]⟩))),
 oo 20 (.pick (.t 17) (.c (.bool true)) (.t 19)),
 mv 14 20])
 (.cond (.t 14)
 (.reg [oo 21 (.faddr 2 (.t 3)),
 ⟨none, .store 1 (.t 21) (.c (.int .i64 6)), none⟩])
 (.seq
 (.reg [mv 23 4,
 oo 24 (.bin .int .gtr (.t 23) (.c (.int .i64 0))),
 mv 22 24])
 (.cond (.t 22)
 (.reg [oo 25 (.faddr 2 (.t 3)),
 ⟨none, .store 1 (.t 25) (.c (.int .i64 7)), none⟩])
 .skip))))))))
 (.seq
 (.reg [oo 26 (.load (some 5) (.t 3)),
 ⟨none, .store 5 (.t 2) (.t 26), none⟩])
 .ret))))
theorem ent317 : EntOK Tryz.prog 317 ⟨27, v317, [.cell 2 (some 5)]⟩ := fun args σ K ha h =>
 enter (own := List.range 27) Tryz.func317 (by kernel_rfl) (by kernel_rfl) (by kernel_rfl) ha h
def v318 : ACode :=
(.seq
 (.reg [oo 1 (.new 219 (.t 0)),
 oo 2 (.move (.c (.bool false)))])
 (.seq
 (.reg [oo 3 (.faddr 1 (.t 1)),
 oo 4 (.load none (.t 3)),
 oo 5 (.bin .int .geq (.t 4) (.c (.int .i64 0))),
 mv 6 5,
 og 7 6 true (.faddr 1 (.t 1)),
 og 8 6 true (.load none (.t 7)),
 og 9 6 true (.bin .int .leq (.t 8) (.c (.int .i64 2))),
 oo 10 (.pick (.t 6) (.t 9) (.c (.bool false))),
 mv 11 10,
 og 12 11 true (.faddr 2 (.t 1)),
 og 13 11 true (.load none (.t 12)),
 og 14 11 true (.bin .int .geq (.t 13) (.c (.int .i64 0))),
 oo 15 (.pick (.t 11) (.t 14) (.c (.bool false))),
 mv 16 15,
 og 17 16 true (.faddr 2 (.t 1)),
 og 18 16 true (.load none (.t 17)),
 og 19 16 true (.bin .int .leq (.t 18) (.c (.int .i64 9))),
 oo 20 (.pick (.t 16) (.t 19) (.c (.bool false))),
 mv 2 20])
 .ret))
theorem ent318 : EntOK Tryz.prog 318 ⟨21, v318, [.slot 2]⟩ := fun args σ K ha h =>
 enter (own := List.range 21) Tryz.func318 (by kernel_rfl) (by kernel_rfl) (by kernel_rfl) ha h
def v319 : ACode :=
(.seq
 (.reg [oo 4 (.move (.c (.bool false)))])
 (.scope
 (.seq
 (.reg [mv 7 0,
 oo 8 (.nilck (.t 7)),
 oo 9 (.faddr 0 (.t 8)),
 oo 10 (.load none (.t 9)),
 mv 11 1,
 oo 12 (.iaddr 5 (.t 10) (.t 11)),
 oo 13 (.load (some 5) (.t 12)),
 oo 5 (.new 219 (.c (.agg [(.str ⟨#[]⟩), (.int .i64 0), (.int .i64 0), (.int .i64 0), (.int .i64 0)]))),
 ⟨none, .store 5 (.t 5) (.t 13), none⟩])
 (.seq
 .skip
 (.seq
 (.block 0
 (.loop
 (.seq
 (.seq
 (.reg [mv 14 0,
 oo 15 (.nilck (.t 14)),
 oo 16 (.faddr 1 (.t 15)),
 oo 17 (.load none (.t 16)),
 oo 18 (.len .slice (.t 17)),
 oo 19 (.bin .int .gtr (.t 18) (.c (.int .i64 0)))])
 (.cond (.t 19)
 .skip
 (.exit 0)))
 (.block 1
 (.seq
 (.draw [] [([⟨(some 20), .move (.t 0), none⟩], []),
 ([⟨(some 21), .nilck (.t 20), none⟩], []),
 ([⟨(some 22), .faddr 0 (.t 21), none⟩], []),
 ([⟨(some 23), .load none (.t 22), none⟩], []),
 ([⟨(some 24), .move (.t 0), none⟩], []),
 ([⟨(some 25), .nilck (.t 24), none⟩], []),
 ([⟨(some 26), .faddr 1 (.t 25), none⟩], []),
 ([⟨(some 27), .load none (.t 26), none⟩], []),
 ([⟨(some 28), .move (.t 0), none⟩], []),
 ([⟨(some 29), .nilck (.t 28), none⟩], []),
 ([⟨(some 30), .faddr 1 (.t 29), none⟩], []),
 ([⟨(some 31), .load none (.t 30), none⟩], []),
 ([⟨(some 32), .len .slice (.t 31), none⟩], []),
 ([⟨(some 33), .bin .int .sub (.t 32) (.c (.int .i64 1)), none⟩], []),
 ([⟨(some 34), .iaddr 1 (.t 27) (.t 33), none⟩], []),
 ([⟨(some 35), .load none (.t 34), none⟩], []),
 ([⟨(some 36), .iaddr 5 (.t 23) (.t 35), none⟩], []),
 ([⟨(some 37), .load (some 5) (.t 36), none⟩], []),
 ([⟨(some 6), .new 219 (.c (.agg [(.str ⟨#[]⟩), (.int .i64 0), (.int .i64 0), (.int .i64 0), (.int .i64 0)])), none⟩], [⟨(some 22), .faddr 0 (.t 21), none⟩, ⟨(some 23), .load none (.t 22), none⟩, ⟨(some 26), .faddr 1 (.t 25), none⟩, ⟨(some 27), .load none (.t 26), none⟩, ⟨(some 30), .faddr 1 (.t 29), none⟩, ⟨(some 31), .load none (.t 30), none⟩, ⟨(some 34), .iaddr 1 (.t 27) (.t 33), none⟩, ⟨(some 35), .load none (.t 34), none⟩, ⟨(some 36), .iaddr 5 (.t 23) (.t 35), none⟩, ⟨(some 37), .load (some 5) (.t 36), none⟩]),
 ([⟨none, .store 5 (.t 6) (.t 37), none⟩], [])])
 (.block 2
 (.seq
 (.reg [oo 39 (.faddr 2 (.t 6)),
 oo 40 (.load none (.t 39)),
 oo 41 (.faddr 2 (.t 5)),
 oo 42 (.load none (.t 41)),
 oo 43 (.bin .int .gtr (.t 40) (.t 42)),
 mv 38 43])
 (.cond (.t 38)
 (.reg [mv 44 0,
 oo 45 (.call 320 [(.t 44)])])
 (.seq
 (.reg [oo 47 (.faddr 2 (.t 6)),
 oo 48 (.load none (.t 47)),
 oo 49 (.faddr 2 (.t 5)),
 oo 50 (.load none (.t 49)),
 oo 51 (.bin .int .lss (.t 48) (.t 50)),
 mv 46 51])
 (.cond (.t 46)
 (.exit 0)
 (.seq
 (.reg [oo 53 (.faddr 1 (.t 6)),
 oo 54 (.load none (.t 53)),
 oo 55 (.bin .int .eql (.t 54) (.c (.int .i64 1))),
 mv 56 55,
 og 57 56 true (.faddr 1 (.t 5)),
 og 58 56 true (.load none (.t 57)),
 og 59 56 true (.bin .int .eql (.t 58) (.c (.int .i64 1))),
 oo 60 (.pick (.t 56) (.t 59) (.c (.bool false))),
 mv 52 60])
 (.cond (.t 52)
 (.reg [mv 61 0,
 oo 62 (.call 320 [(.t 61)])])
 (.seq
 (.reg [oo 64 (.faddr 1 (.t 6)),
 oo 65 (.load none (.t 64)),
 oo 66 (.bin .int .eql (.t 65) (.c (.int .i64 2))),
 mv 67 66,
 og 68 67 true (.faddr 1 (.t 5)),
 og 69 67 true (.load none (.t 68)),
 og 70 67 true (.bin .int .eql (.t 69) (.c (.int .i64 2))),
 oo 71 (.pick (.t 67) (.t 70) (.c (.bool false))),
 mv 63 71])
 (.cond (.t 63)
 (.exit 0)
 (.seq
 (.reg [oo 4 (.move (.c (.bool false)))])
 .ret)))))))))))))))
 (.seq
 (.reg [mv 72 0,
 mv 73 0,
 oo 74 (.nilck (.t 73)),
 oo 75 (.faddr 1 (.t 74)),
 oo 76 (.load none (.t 75)),
 mv 77 1,
 oo 78 (.lit true 3 1 [(.t 77)]),
 oo 79 (.append 3 1 8 (.t 76) (.t 78)),
 oo 80 (.nilck (.t 72)),
 oo 81 (.faddr 1 (.t 80)),
 ⟨none, .store 1 (.t 81) (.t 79), none⟩])
 (.seq
 (.reg [mv 82 0,
 mv 83 0,
 oo 84 (.nilck (.t 83)),
 oo 85 (.faddr 2 (.t 84)),
 oo 86 (.load none (.t 85)),
 mv 87 1,
 oo 88 (.bin .int .add (.t 87) (.c (.int .i64 1))),
 mv 89 1,
 oo 90 (.bin .int .add (.t 89) (.c (.int .i64 1))),
 oo 91 (.build [(.int .i64 0), (.int .i64 0)] [(0, 1, (.t 88)), (1, 1, (.t 90))]),
 oo 92 (.lit true 408 2 [(.t 91)]),
 oo 93 (.append 408 2 16 (.t 86) (.t 92)),
 oo 94 (.nilck (.t 82)),
 oo 95 (.faddr 2 (.t 94)),
 ⟨none, .store 1 (.t 95) (.t 93), none⟩])
 (.seq
 (.reg [oo 4 (.move (.c (.bool true)))])
 .ret))))))))
theorem ent319 : EntOK Tryz.prog 319 ⟨96, v319, [.slot 4]⟩ := fun args σ K ha h =>
 enter (own := List.range 96) Tryz.func319 (by kernel_rfl) (by kernel_rfl) (by kernel_rfl) ha h
def v320 : ACode :=
(.seq
 (.reg [mv 5 0,
 oo 6 (.nilck (.t 5)),
 oo 7 (.faddr 1 (.t 6)),
 oo 8 (.load none (.t 7)),
 mv 9 0,
 oo 10 (.nilck (.t 9)),
 oo 11 (.faddr 1 (.t 10)),
 oo 12 (.load none (.t 11)),
 oo 13 (.len .slice (.t 12)),
 oo 14 (.bin .int .sub (.t 13) (.c (.int .i64 1))),
 oo 15 (.iaddr 1 (.t 8) (.t 14)),
 oo 16 (.load none (.t 15)),
 mv 2 16])
 (.seq
 (.reg [mv 17 0,
 mv 18 0,
 oo 19 (.nilck (.t 18)),
 oo 20 (.faddr 1 (.t 19)),
 oo 21 (.load none (.t 20)),
 mv 22 0,
 oo 23 (.nilck (.t 22)),
 oo 24 (.faddr 1 (.t 23)),
 oo 25 (.load none (.t 24)),
 oo 26 (.len .slice (.t 25)),
 oo 27 (.bin .int .sub (.t 26) (.c (.int .i64 1))),
 oo 28 (.cut .slice 1 (.t 21) none (some (.t 27))),
 oo 29 (.nilck (.t 17)),
 oo 30 (.faddr 1 (.t 29)),
 ⟨none, .store 1 (.t 30) (.t 28), none⟩])
 (.seq
 (.reg [mv 31 0,
 oo 32 (.nilck (.t 31)),
 oo 33 (.faddr 2 (.t 32)),
 oo 34 (.load none (.t 33)),
 oo 35 (.len .slice (.t 34)),
 mv 3 35])
 (.seq
 (.draw [] [([⟨(some 36), .move (.t 0), none⟩], []),
 ([⟨(some 37), .nilck (.t 36), none⟩], []),
 ([⟨(some 38), .faddr 2 (.t 37), none⟩], []),
 ([⟨(some 39), .load none (.t 38), none⟩], []),
 ([⟨(some 40), .move (.t 3), none⟩], []),
 ([⟨(some 41), .bin .int .sub (.t 40) (.c (.int .i64 2)), none⟩], []),
 ([⟨(some 42), .iaddr 2 (.t 39) (.t 41), none⟩], []),
 ([⟨(some 43), .faddr 0 (.t 42), none⟩], []),
 ([⟨(some 44), .load none (.t 43), none⟩], []),
 ([⟨(some 45), .move (.t 0), none⟩], []),
 ([⟨(some 46), .nilck (.t 45), none⟩], []),
 ([⟨(some 47), .faddr 2 (.t 46), none⟩], []),
 ([⟨(some 48), .load none (.t 47), none⟩], []),
 ([⟨(some 49), .move (.t 3), none⟩], []),
 ([⟨(some 50), .bin .int .sub (.t 49) (.c (.int .i64 1)), none⟩], []),
 ([⟨(some 51), .iaddr 2 (.t 48) (.t 50), none⟩], []),
 ([⟨(some 52), .faddr 1 (.t 51), none⟩], []),
 ([⟨(some 53), .load none (.t 52), none⟩], []),
 ([⟨(some 54), .build [(.int .i64 0), (.int .i64 0)] [(0, 1, (.t 44)), (1, 1, (.t 53))], none⟩], []),
 ([⟨(some 4), .new 408 (.c (.agg [(.int .i64 0), (.int .i64 0)])), none⟩], [⟨(some 38), .faddr 2 (.t 37), none⟩, ⟨(some 39), .load none (.t 38), none⟩, ⟨(some 42), .iaddr 2 (.t 39) (.t 41), none⟩, ⟨(some 43), .faddr 0 (.t 42), none⟩, ⟨(some 44), .load none (.t 43), none⟩, ⟨(some 47), .faddr 2 (.t 46), none⟩, ⟨(some 48), .load none (.t 47), none⟩, ⟨(some 51), .iaddr 2 (.t 48) (.t 50), none⟩, ⟨(some 52), .faddr 1 (.t 51), none⟩, ⟨(some 53), .load none (.t 52), none⟩]),
 ([⟨none, .store 2 (.t 4) (.t 54), none⟩], [])])
 (.seq
 (.draw [] [([⟨(some 55), .move (.t 0), none⟩], []),
 ([⟨(some 56), .move (.t 0), none⟩], []),
 ([⟨(some 57), .nilck (.t 56), none⟩], []),
 ([⟨(some 58), .faddr 2 (.t 57), none⟩], []),
 ([⟨(some 59), .load none (.t 58), none⟩], []),
 ([⟨(some 60), .move (.t 3), none⟩], []),
 ([⟨(some 61), .bin .int .sub (.t 60) (.c (.int .i64 2)), none⟩], []),
 ([⟨(some 62), .cut .slice 2 (.t 59) none (some (.t 61)), none⟩], []),
 ([⟨(some 63), .load (some 2) (.t 4), none⟩], []),
 ([⟨(some 64), .lit true 408 2 [(.t 63)], none⟩], [⟨(some 58), .faddr 2 (.t 57), none⟩, ⟨(some 59), .load none (.t 58), none⟩, ⟨(some 62), .cut .slice 2 (.t 59) none (some (.t 61)), none⟩]),
 ([⟨(some 65), .append 408 2 16 (.t 62) (.t 64), none⟩], []),
 ([⟨(some 66), .nilck (.t 55), none⟩], []),
 ([⟨(some 67), .faddr 2 (.t 66), none⟩], []),
 ([⟨none, .store 1 (.t 67) (.t 65), none⟩], [])])
 (.reg [mv 68 0,
 oo 69 (.nilck (.t 68)),
 oo 70 (.faddr 3 (.t 69)),
 oo 71 (.load none (.t 70)),
 mv 72 2,
 oo 73 (.load (some 2) (.t 4)),
 oo 74 (.iaddr 2 (.t 71) (.t 72)),
 ⟨none, .store 2 (.t 74) (.t 73), none⟩]))))))
theorem ent320 : EntOK Tryz.prog 320 ⟨75, v320, []⟩ := fun args σ K ha h =>
 enter (own := List.range 75) Tryz.func320 (by kernel_rfl) (by kernel_rfl) (by kernel_rfl) ha h
def v321 : ACode :=
(.seq
 (.reg [oo 4 (.move (.c (.bool false)))])
 (.seq
 (.seq
 (.reg [mv 7 0,
 oo 8 (.len .slice (.t 7)),
 oo 9 (.move (.c (.int .i64 0)))])
 (.block 0
 (.loop
 (.seq
 (.reg [oo 10 (.bin .int .lss (.t 9) (.t 8))])
 (.seq
 (.cond (.t 10)
 .skip
 (.exit 0))
 (.seq
 (.block 1
 (.seq
 (.reg [oo 11 (.iaddr 9 (.t 7) (.t 9)),
 oo 12 (.load (some 9) (.t 11)),
 oo 6 (.new 297 (.c (.agg [(.int .i64 0), (.str ⟨#[]⟩), (.int .i64 0), .nils, .nils, .nils, .nils, (.int .i64 0), (.int .i64 0)]))),
 ⟨none, .store 9 (.t 6) (.t 12), none⟩])
 (.seq
 (.reg [mv 13 1,
 oo 14 (.load (some 9) (.t 6)),
 oo 15 (.callv (.t 13) [(.t 14)]),
 oo 16 (.not (.t 15))])
 (.cond (.t 16)
 (.seq
 (.reg [oo 4 (.move (.c (.bool false)))])
 .ret)
 .skip))))
 (.reg [oo 17 (.bin .int .add (.t 9) (.c (.int .i64 1))),
 mv 9 17])))))))
 (.seq
 (.reg [oo 4 (.move (.c (.bool true)))])
 .ret)))
theorem ent321 : EntOK Tryz.prog 321 ⟨18, v321, [.slot 4]⟩ := fun args σ K ha h =>
 enter (own := List.range 18) Tryz.func321 (by kernel_rfl) (by kernel_rfl) (by kernel_rfl) ha h
def v322 : ACode :=
(.seq
 (.reg [oo 2 (.move (.c (.bool false)))])
 (.seq
 (.reg [mv 3 0,
 oo 4 (.bin .str .eql (.t 3) (.c (.str ⟨#[95]⟩))),
 mv 5 4,
 og 6 5 false (.move (.t 0)),
 og 7 5 false (.call 251 [(.t 6), (.c (.int .i64 1))]),
 oo 8 (.pick (.t 5) (.c (.bool true)) (.t 7)),
 mv 2 8])
 .ret))
theorem ent322 : EntOK Tryz.prog 322 ⟨9, v322, [.slot 2]⟩ := fun args σ K ha h =>
 enter (own := List.range 9) Tryz.func322 (by kernel_rfl) (by kernel_rfl) (by kernel_rfl) ha h
def v325 : ACode :=
(.seq
 (.reg [oo 2 (.new 302 (.t 0)),
 oo 3 (.new 297 (.t 1))])
 (.seq
 (.reg [oo 12 (.mkfn (.func 339) [] [(.t 3), (.t 2)]),
 mv 4 12])
 (.seq
 (.reg [oo 13 (.faddr 0 (.t 3)),
 oo 14 (.load none (.t 13))])
 (.block 0
 (.seq
 (.reg [oo 33 (.bin .int .eql (.t 14) (.c (.int .i64 1))),
 mv 32 33])
 (.cond (.t 32)
 (.seq
 (.reg [oo 34 (.faddr 1 (.t 3)),
 oo 35 (.load none (.t 34)),
 oo 36 (.call 71 [(.t 35)]),
 oo 37 (.bin .int .eql (.t 36) (.c (.int .i64 0))),
 mv 38 37,
 og 39 38 true (.load none (.t 2)),
 og 40 38 true (.nilck (.t 39)),
 og 41 38 true (.faddr 1 (.t 40)),
 og 42 38 true (.load none (.t 41)),
 og 43 38 true (.faddr 1 (.t 3)),
 og 44 38 true (.load none (.t 43)),
 og 45 38 true (.call 151 [(.t 42), (.t 44)]),
 og 46 38 true (.not (.t 45)),
 oo 47 (.pick (.t 38) (.t 46) (.c (.bool false)))])
 (.cond (.t 47)
 (.reg [oo 48 (.load none (.t 2)),
 oo 49 (.faddr 7 (.t 3)),
 oo 50 (.load (some 2) (.t 49)),
 oo 51 (.call 152 [(.t 48), (.c (.int .i64 81)), (.t 50)])])
 .skip))
 (.seq
 (.reg [oo 53 (.bin .int .eql (.t 14) (.c (.int .i64 2))),
 mv 52 53])
 (.cond (.t 52)
 (.seq
 (.draw [5] [([⟨(some 55), .load none (.t 2), none⟩], []),
 ([⟨(some 56), .nilck (.t 55), none⟩], []),
 ([⟨(some 57), .faddr 0 (.t 56), none⟩], []),
 ([⟨(some 58), .load none (.t 57), none⟩], []),
 ([⟨(some 59), .faddr 1 (.t 3), none⟩], []),
 ([⟨(some 60), .load none (.t 59), none⟩], []),
 ([⟨(some 61), .call 68 [(.t 58), (.t 60)], none⟩], []),
 ([⟨(some 54), .move (.t 61), none⟩], []),
 ([⟨(some 62), .extract (.t 54) 0, none⟩], []),
 ([⟨(some 63), .extract (.t 54) 1, none⟩], []),
 ([⟨(some 5), .new 172 (.c (.agg [(.str ⟨#[]⟩), (.str ⟨#[]⟩), (.int .i64 0), (.int .i64 0), .nils])), none⟩, ⟨none, .store 5 (.t 5) (.t 62), none⟩], []),
 ([⟨(some 6), .move (.t 63), none⟩], [])])
 (.seq
 (.reg [mv 64 6,
 oo 65 (.not (.t 64))])
 (.cond (.t 65)
 (.reg [oo 66 (.load none (.t 2)),
 oo 67 (.faddr 7 (.t 3)),
 oo 68 (.load (some 2) (.t 67)),
 oo 69 (.call 152 [(.t 66), (.c (.int .i64 81)), (.t 68)])])
 .skip)))
 (.seq
 (.reg [oo 71 (.bin .int .eql (.t 14) (.c (.int .i64 5))),
 mv 70 71])
 (.cond (.t 70)
 (.seq
 (.reg [oo 72 (.faddr 3 (.t 3)),
 oo 73 (.load none (.t 72)),
 oo 74 (.call 340 [(.t 73)]),
 mv 7 74])
 (.seq
 (.seq
 (.reg [mv 75 7,
 oo 76 (.len .slice (.t 75)),
 oo 77 (.move (.c (.int .i64 0)))])
 (.block 3
 (.loop
 (.seq
 (.reg [oo 78 (.bin .int .lss (.t 77) (.t 76))])
 (.seq
 (.cond (.t 78)
 .skip
 (.exit 3))
 (.seq
 (.block 4
 (.seq
 (.reg [mv 79 77,
 oo 80 (.iaddr 1 (.t 75) (.t 77)),
 oo 81 (.load none (.t 80)),
 mv 8 79,
 mv 9 81])
 (.seq
 (.reg [mv 82 7,
 mv 83 8,
 oo 84 (.cut .slice 1 (.t 82) none (some (.t 83))),
 mv 85 9,
 oo 86 (.call 151 [(.t 84), (.t 85)])])
 (.cond (.t 86)
 (.reg [oo 87 (.load none (.t 2)),
 oo 88 (.faddr 7 (.t 3)),
 oo 89 (.load (some 2) (.t 88)),
 oo 90 (.call 152 [(.t 87), (.c (.int .i64 80)), (.t 89)])])
 .skip))))
 (.reg [oo 91 (.bin .int .add (.t 77) (.c (.int .i64 1))),
 mv 77 91])))))))
 (.reg [oo 92 (.load none (.t 2)),
 mv 93 7,
 mv 94 4,
 oo 95 (.call 206 [(.t 92), (.t 93), (.t 94)])])))
 (.seq
 (.reg [oo 97 (.bin .int .eql (.t 14) (.c (.int .i64 6))),
 mv 96 97])
 (.cond (.t 96)
 (.reg [oo 98 (.load none (.t 2)),
 oo 99 (.faddr 6 (.t 3)),
 oo 100 (.load none (.t 99)),
 mv 101 4,
 oo 102 (.call 153 [(.t 98), (.t 100), (.t 101)])])
 (.seq
 (.reg [mv 15 4,
 oo 16 (.callv (.t 15) [])])
 (.seq
 (.reg [oo 17 (.faddr 5 (.t 3)),
 oo 18 (.load none (.t 17)),
 oo 19 (.len .slice (.t 18)),
 oo 20 (.move (.c (.int .i64 0)))])
 (.block 1
 (.loop
 (.seq
 (.reg [oo 21 (.bin .int .lss (.t 20) (.t 19))])
 (.seq
 (.cond (.t 21)
 .skip
 (.exit 1))
 (.seq
 (.block 2
 (.seq
 (.reg [oo 22 (.iaddr 7 (.t 18) (.t 20)),
 oo 23 (.load (some 7) (.t 22)),
 oo 11 (.new 356 (.c (.agg [(.int .i64 0), (.str ⟨#[]⟩), (.int .i64 0), .nils, (.int .i64 0), (.int .i64 0), .nils]))),
 ⟨none, .store 7 (.t 11) (.t 23), none⟩])
 (.reg [oo 24 (.load none (.t 2)),
 oo 25 (.faddr 0 (.t 11)),
 oo 26 (.load (some 6) (.t 25)),
 oo 27 (.lit true 291 6 [(.t 26)]),
 oo 28 (.faddr 6 (.t 11)),
 oo 29 (.load none (.t 28)),
 oo 30 (.call 261 [(.t 24), (.t 27), (.t 29)])])))
 (.reg [oo 31 (.bin .int .add (.t 20) (.c (.int .i64 1))),
 mv 20 31]))))))))))))))))))))
theorem ent325 : EntOK Tryz.prog 325 ⟨103, v325, []⟩ := fun args σ K ha h =>
 enter (own := List.range 103) Tryz.func325 (by kernel_rfl) (by kernel_rfl) (by kernel_rfl) ha h
def v327 : ACode :=
(.seq
 (.reg [mv 7 0,
 oo 8 (.nilck (.t 7)),
 oo 9 (.faddr 0 (.t 8)),
 oo 10 (.load none (.t 9)),
 oo 11 (.len .slice (.t 10)),
 mv 6 11])
 (.seq
 (.reg [mv 12 0,
 mv 13 0,
 oo 14 (.nilck (.t 13)),
 oo 15 (.faddr 0 (.t 14)),
 oo 16 (.load none (.t 15)),
 mv 17 1,
 oo 18 (.append 9 1 16 (.t 16) (.t 17)),
 oo 19 (.nilck (.t 12)),
 oo 20 (.faddr 0 (.t 19)),
 ⟨none, .store 1 (.t 20) (.t 18), none⟩])
 (.seq
 (.reg [mv 21 2,
 oo 22 (.callv (.t 21) [])])
 (.reg [mv 23 0,
 mv 24 0,
 oo 25 (.nilck (.t 24)),
 oo 26 (.faddr 0 (.t 25)),
 oo 27 (.load none (.t 26)),
 mv 28 6,
 oo 29 (.cut .slice 1 (.t 27) none (some (.t 28))),
 oo 30 (.nilck (.t 23)),
 oo 31 (.faddr 0 (.t 30)),
 ⟨none, .store 1 (.t 31) (.t 29), none⟩]))))
theorem ent327 : EntOK Tryz.prog 327 ⟨32, v327, []⟩ := fun args σ K ha h =>
 enter (own := List.range 32) Tryz.func327 (by kernel_rfl) (by kernel_rfl) (by kernel_rfl) ha h
def v328 : ACode :=
(.seq
 (.reg [oo 6 (.load none (.t 0)),
 oo 7 (.len .slice (.t 6)),
 oo 8 (.move (.c (.int .i64 0)))])
 (.block 0
 (.loop
 (.seq
 (.reg [oo 9 (.bin .int .lss (.t 8) (.t 7))])
 (.seq
 (.cond (.t 9)
 .skip
 (.exit 0))
 (.seq
 (.block 1
 (.seq
 (.reg [oo 10 (.iaddr 10 (.t 6) (.t 8)),
 oo 11 (.load (some 10) (.t 10)),
 oo 3 (.new 299 (.c (.agg [.nils, (.int .i64 0), (.str ⟨#[]⟩), (.int .i64 0), .nils, .nils, .nils, .nils, (.int .i64 0), (.int .i64 0)]))),
 ⟨none, .store 10 (.t 3) (.t 11), none⟩])
 (.seq
 (.seq
 (.reg [oo 12 (.faddr 0 (.t 3)),
 oo 13 (.load none (.t 12)),
 oo 14 (.len .slice (.t 13)),
 oo 15 (.move (.c (.int .i64 0)))])
 (.block 2
 (.loop
 (.seq
 (.reg [oo 16 (.bin .int .lss (.t 15) (.t 14))])
 (.seq
 (.cond (.t 16)
 .skip
 (.exit 2))
 (.seq
 (.block 3
 (.seq
 (.reg [oo 17 (.iaddr 9 (.t 13) (.t 15)),
 oo 18 (.load (some 9) (.t 17)),
 oo 5 (.new 297 (.c (.agg [(.int .i64 0), (.str ⟨#[]⟩), (.int .i64 0), .nils, .nils, .nils, .nils, (.int .i64 0), (.int .i64 0)]))),
 ⟨none, .store 9 (.t 5) (.t 18), none⟩])
 (.reg [oo 19 (.load none (.t 1)),
 oo 20 (.load (some 9) (.t 5)),
 oo 21 (.call 329 [(.t 19), (.t 20)])])))
 (.reg [oo 22 (.bin .int .add (.t 15) (.c (.int .i64 1))),
 mv 15 22])))))))
 (.reg [oo 23 (.load none (.t 1)),
 oo 24 (.faddr 1 (.t 3)),
 oo 25 (.load (some 9) (.t 24)),
 oo 26 (.call 329 [(.t 23), (.t 25)])]))))
 (.reg [oo 27 (.bin .int .add (.t 8) (.c (.int .i64 1))),
 mv 8 27])))))))
theorem ent328 : EntOK Tryz.prog 328 ⟨28, v328, []⟩ := fun args σ K ha h =>
 enter (own := List.range 28) Tryz.func328 (by kernel_rfl) (by kernel_rfl) (by kernel_rfl) ha h
def v329 : ACode :=
(.seq
 (.reg [oo 2 (.new 418 (.t 0)),
 oo 3 (.new 297 (.t 1))])
 (.seq
 (.reg [oo 8 (.mkfn (.func 341) [] [(.t 3), (.t 2)]),
 oo 4 (.new 1 (.c .nilf)),
 ⟨none, .store 1 (.t 4) (.t 8), none⟩])
 (.seq
 (.reg [oo 9 (.faddr 0 (.t 3)),
 oo 10 (.load none (.t 9))])
 (.block 0
 (.seq
 (.reg [oo 29 (.bin .int .eql (.t 10) (.c (.int .i64 1))),
 mv 28 29])
 (.cond (.t 28)
 (.reg [oo 30 (.load none (.t 2)),
 oo 31 (.faddr 1 (.t 3)),
 oo 32 (.load none (.t 31)),
 oo 33 (.call 342 [(.t 30), (.t 32)])])
 (.seq
 (.reg [oo 35 (.bin .int .eql (.t 10) (.c (.int .i64 4))),
 mv 34 35])
 (.cond (.t 34)
 (.seq
 (.seq
 (.reg [oo 36 (.faddr 4 (.t 3)),
 oo 37 (.load none (.t 36)),
 oo 38 (.iaddr 9 (.t 37) (.c (.int .i64 0))),
 oo 39 (.load (some 9) (.t 38)),
 oo 5 (.new 297 (.c (.agg [(.int .i64 0), (.str ⟨#[]⟩), (.int .i64 0), .nils, .nils, .nils, .nils, (.int .i64 0), (.int .i64 0)]))),
 ⟨none, .store 9 (.t 5) (.t 39), none⟩])
 (.seq
 (.reg [oo 40 (.faddr 0 (.t 5)),
 oo 41 (.load none (.t 40)),
 oo 42 (.bin .int .eql (.t 41) (.c (.int .i64 4))),
 mv 43 42,
 og 44 43 true (.faddr 4 (.t 5)),
 og 45 43 true (.load none (.t 44)),
 og 46 43 true (.iaddr 9 (.t 45) (.c (.int .i64 0))),
 og 47 43 true (.load (some 9) (.t 46)),
 og 48 43 true (.call 343 [(.t 47)]),
 oo 49 (.pick (.t 43) (.t 48) (.c (.bool false)))])
 (.cond (.t 49)
 (.seq
 (.reg [oo 50 (.load none (.t 2)),
 oo 51 (.faddr 4 (.t 5)),
 oo 52 (.load none (.t 51)),
 oo 53 (.iaddr 9 (.t 52) (.c (.int .i64 1))),
 oo 54 (.load (some 9) (.t 53)),
 oo 55 (.call 329 [(.t 50), (.t 54)])])
 (.seq
 (.reg [oo 56 (.load none (.t 2)),
 oo 57 (.faddr 4 (.t 5)),
 oo 58 (.load none (.t 57)),
 oo 59 (.iaddr 9 (.t 58) (.c (.int .i64 0))),
 oo 60 (.load (some 9) (.t 59)),
 oo 61 (.call 329 [(.t 56), (.t 60)])])
 (.seq
 (.reg [oo 62 (.load none (.t 2)),
 oo 63 (.faddr 4 (.t 3)),
 oo 64 (.load none (.t 63)),
 oo 65 (.iaddr 9 (.t 64) (.c (.int .i64 1))),
 oo 66 (.load (some 9) (.t 65)),
 oo 67 (.call 329 [(.t 62), (.t 66)])])
 .ret)))
 .skip)))
 (.reg [oo 68 (.load none (.t 4)),
 oo 69 (.callv (.t 68) [])]))
 (.seq
 (.reg [oo 71 (.bin .int .eql (.t 10) (.c (.int .i64 5))),
 mv 70 71])
 (.cond (.t 70)
 (.draw [] [([⟨(some 72), .load none (.t 2), none⟩], []),
 ([⟨(some 73), .faddr 3 (.t 3), none⟩], []),
 ([⟨(some 74), .load none (.t 73), none⟩], []),
 ([⟨(some 76), .load none (.t 4), none⟩], []),
 ([⟨(some 75), .call 340 [(.t 74)], none⟩], [⟨(some 72), .load none (.t 2), none⟩, ⟨(some 76), .load none (.t 4), none⟩]),
 ([⟨(some 77), .call 327 [(.t 72), (.t 75), (.t 76)], none⟩], [])])
 (.seq
 (.reg [oo 79 (.bin .int .eql (.t 10) (.c (.int .i64 6))),
 mv 78 79])
 (.cond (.t 78)
 (.draw [] [([⟨(some 80), .load none (.t 2), none⟩], []),
 ([⟨(some 81), .faddr 6 (.t 3), none⟩], []),
 ([⟨(some 82), .load none (.t 81), none⟩], []),
 ([⟨(some 84), .mkfn (.func 345) [] [(.t 2), (.t 3), (.t 4)], none⟩], []),
 ([⟨(some 83), .call 344 [(.t 82)], none⟩], [⟨(some 80), .load none (.t 2), none⟩]),
 ([⟨(some 85), .call 327 [(.t 80), (.t 83), (.t 84)], none⟩], [])])
 (.seq
 (.reg [oo 11 (.load none (.t 4)),
 oo 12 (.callv (.t 11) [])])
 (.seq
 (.reg [oo 13 (.faddr 5 (.t 3)),
 oo 14 (.load none (.t 13)),
 oo 15 (.len .slice (.t 14)),
 oo 16 (.move (.c (.int .i64 0)))])
 (.block 1
 (.loop
 (.seq
 (.reg [oo 17 (.bin .int .lss (.t 16) (.t 15))])
 (.seq
 (.cond (.t 17)
 .skip
 (.exit 1))
 (.seq
 (.block 2
 (.seq
 (.reg [oo 18 (.iaddr 7 (.t 14) (.t 16)),
 oo 19 (.load (some 7) (.t 18)),
 oo 7 (.new 356 (.c (.agg [(.int .i64 0), (.str ⟨#[]⟩), (.int .i64 0), .nils, (.int .i64 0), (.int .i64 0), .nils]))),
 ⟨none, .store 7 (.t 7) (.t 19), none⟩])
 (.reg [oo 20 (.load none (.t 2)),
 oo 21 (.faddr 0 (.t 7)),
 oo 22 (.load (some 6) (.t 21)),
 oo 23 (.lit true 291 6 [(.t 22)]),
 oo 24 (.faddr 6 (.t 7)),
 oo 25 (.load none (.t 24)),
 oo 26 (.call 304 [(.t 20), (.t 23), (.t 25)])])))
 (.reg [oo 27 (.bin .int .add (.t 16) (.c (.int .i64 1))),
 mv 16 27]))))))))))))))))))))
theorem ent329 : EntOK Tryz.prog 329 ⟨86, v329, []⟩ := fun args σ K ha h =>
 enter (own := List.range 86) Tryz.func329 (by kernel_rfl) (by kernel_rfl) (by kernel_rfl) ha h
def v330 : ACode :=
(.seq
 (.reg [oo 4 (.new 489 (.c (.agg [(.int .i64 0), (.int .i64 0)])))])
 (.seq
 (.reg [mv 5 0,
 oo 6 (.nilck (.t 5)),
 oo 7 (.faddr 6 (.t 6)),
 oo 8 (.load none (.t 7)),
 oo 9 (.bin .int .add (.t 8) (.c (.int .i64 1))),
 oo 10 (.nilck (.t 5)),
 oo 11 (.faddr 6 (.t 10)),
 ⟨none, .store 1 (.t 11) (.t 9), none⟩])
 (.seq
 (.reg [mv 12 0,
 oo 13 (.nilck (.t 12)),
 oo 14 (.faddr 1 (.t 13)),
 oo 15 (.load none (.t 14)),
 mv 16 1,
 mv 17 0,
 oo 18 (.nilck (.t 17)),
 oo 19 (.faddr 2 (.t 18)),
 oo 20 (.load none (.t 19)),
 mv 21 1,
 mv 22 0,
 oo 23 (.nilck (.t 22)),
 oo 24 (.faddr 6 (.t 23)),
 oo 25 (.load none (.t 24)),
 mv 26 0,
 oo 27 (.nilck (.t 26)),
 oo 28 (.faddr 6 (.t 27)),
 oo 29 (.load none (.t 28)),
 oo 30 (.iaddr 1 (.t 15) (.t 16)),
 ⟨none, .store 1 (.t 30) (.t 25), none⟩,
 oo 31 (.iaddr 1 (.t 20) (.t 21)),
 ⟨none, .store 1 (.t 31) (.t 29), none⟩])
 (.seq
 (.reg [mv 32 0,
 mv 33 0,
 oo 34 (.nilck (.t 33)),
 oo 35 (.faddr 3 (.t 34)),
 oo 36 (.load none (.t 35)),
 mv 37 1,
 oo 38 (.lit true 3 1 [(.t 37)]),
 oo 39 (.append 3 1 8 (.t 36) (.t 38)),
 oo 40 (.nilck (.t 32)),
 oo 41 (.faddr 3 (.t 40)),
 ⟨none, .store 1 (.t 41) (.t 39), none⟩])
 (.seq
 (.reg [mv 42 0,
 oo 43 (.nilck (.t 42)),
 oo 44 (.faddr 4 (.t 43)),
 oo 45 (.load none (.t 44)),
 mv 46 1,
 oo 47 (.iaddr 1 (.t 45) (.t 46)),
 ⟨none, .store 1 (.t 47) (.c (.bool true)), none⟩])
 (.seq
 (.reg [mv 48 1,
 oo 49 (.build [(.int .i64 0), (.int .i64 0)] [(0, 1, (.t 48))]),
 ⟨none, .store 2 (.t 4) (.t 49), none⟩])
 .ret))))))
theorem ent330 : EntOK Tryz.prog 330 ⟨50, v330, [.cell 4 (some 2)]⟩ := fun args σ K ha h =>
 enter (own := List.range 50) Tryz.func330 (by kernel_rfl) (by kernel_rfl) (by kernel_rfl) ha h
def v331 : ACode :=
(.seq
 (.seq
 (.reg [mv 5 0,
 oo 6 (.nilck (.t 5)),
 oo 7 (.faddr 2 (.t 6)),
 oo 8 (.load none (.t 7)),
 mv 9 1,
 oo 10 (.iaddr 1 (.t 8) (.t 9)),
 oo 11 (.load none (.t 10)),
 mv 12 0,
 oo 13 (.nilck (.t 12)),
 oo 14 (.faddr 1 (.t 13)),
 oo 15 (.load none (.t 14)),
 mv 16 1,
 oo 17 (.iaddr 1 (.t 15) (.t 16)),
 oo 18 (.load none (.t 17)),
 oo 19 (.bin .int .neq (.t 11) (.t 18))])
 (.cond (.t 19)
 .ret
 .skip))
 (.seq
 (.block 0
 (.loop
 (.block 1
 (.seq
 (.reg [mv 20 0,
 oo 21 (.nilck (.t 20)),
 oo 22 (.faddr 3 (.t 21)),
 oo 23 (.load none (.t 22)),
 mv 24 0,
 oo 25 (.nilck (.t 24)),
 oo 26 (.faddr 3 (.t 25)),
 oo 27 (.load none (.t 26)),
 oo 28 (.len .slice (.t 27)),
 oo 29 (.bin .int .sub (.t 28) (.c (.int .i64 1))),
 oo 30 (.iaddr 1 (.t 23) (.t 29)),
 oo 31 (.load none (.t 30)),
 mv 4 31])
 (.seq
 (.reg [mv 32 0,
 mv 33 0,
 oo 34 (.nilck (.t 33)),
 oo 35 (.faddr 3 (.t 34)),
 oo 36 (.load none (.t 35)),
 mv 37 0,
 oo 38 (.nilck (.t 37)),
 oo 39 (.faddr 3 (.t 38)),
 oo 40 (.load none (.t 39)),
 oo 41 (.len .slice (.t 40)),
 oo 42 (.bin .int .sub (.t 41) (.c (.int .i64 1))),
 oo 43 (.cut .slice 1 (.t 36) none (some (.t 42))),
 oo 44 (.nilck (.t 32)),
 oo 45 (.faddr 3 (.t 44)),
 ⟨none, .store 1 (.t 45) (.t 43), none⟩])
 (.seq
 (.reg [mv 46 0,
 oo 47 (.nilck (.t 46)),
 oo 48 (.faddr 4 (.t 47)),
 oo 49 (.load none (.t 48)),
 mv 50 4,
 oo 51 (.iaddr 1 (.t 49) (.t 50)),
 ⟨none, .store 1 (.t 51) (.c (.bool false)), none⟩])
 (.seq
 (.reg [mv 52 0,
 oo 53 (.nilck (.t 52)),
 oo 54 (.faddr 5 (.t 53)),
 oo 55 (.load none (.t 54)),
 mv 56 4,
 mv 57 0,
 oo 58 (.nilck (.t 57)),
 oo 59 (.faddr 7 (.t 58)),
 oo 60 (.load none (.t 59)),
 oo 61 (.iaddr 1 (.t 55) (.t 56)),
 ⟨none, .store 1 (.t 61) (.t 60), none⟩])
 (.seq
 (.reg [mv 62 4,
 mv 63 1,
 oo 64 (.bin .int .eql (.t 62) (.t 63))])
 (.cond (.t 64)
 (.exit 0)
 .skip)))))))))
 (.reg [mv 65 0,
 oo 66 (.nilck (.t 65)),
 oo 67 (.faddr 7 (.t 66)),
 oo 68 (.load none (.t 67)),
 oo 69 (.bin .int .add (.t 68) (.c (.int .i64 1))),
 oo 70 (.nilck (.t 65)),
 oo 71 (.faddr 7 (.t 70)),
 ⟨none, .store 1 (.t 71) (.t 69), none⟩])))
theorem ent331 : EntOK Tryz.prog 331 ⟨72, v331, []⟩ := fun args σ K ha h =>
 enter (own := List.range 72) Tryz.func331 (by kernel_rfl) (by kernel_rfl) (by kernel_rfl) ha h
def v333 : ACode :=
(.seq
 (.reg [oo 4 (.new 247 (.t 1)),
 oo 5 (.new 247 (.t 2)),
 oo 6 (.move (.c (.int .i64 0)))])
 (.seq
 (.seq
 (.reg [oo 9 (.faddr 0 (.t 4)),
 oo 10 (.load none (.t 9)),
 oo 11 (.bin .int .neq (.t 10) (.c (.int .i64 1))),
 mv 12 11,
 og 13 12 false (.faddr 0 (.t 5)),
 og 14 12 false (.load none (.t 13)),
 og 15 12 false (.bin .int .neq (.t 14) (.c (.int .i64 1))),
 oo 16 (.pick (.t 12) (.c (.bool true)) (.t 15))])
 (.cond (.t 16)
 (.seq
 (.draw [] [([⟨(some 17), .move (.t 0), none⟩], []),
 ([⟨(some 18), .move (.t 0), none⟩], []),
 ([⟨(some 19), .load (some 4) (.t 4), none⟩], []),
 ([⟨(some 21), .move (.t 0), none⟩], []),
 ([⟨(some 22), .load (some 4) (.t 5), none⟩], []),
 ([⟨(some 20), .call 314 [(.t 18), (.t 19)], none⟩], [⟨(some 22), .load (some 4) (.t 5), none⟩]),
 ([⟨(some 23), .call 314 [(.t 21), (.t 22)], none⟩], []),
 ([⟨(some 24), .call 347 [(.t 17), (.t 20), (.t 23)], none⟩], []),
 ([⟨(some 6), .move (.t 24), none⟩], [])])
 .ret)
 .skip))
 (.seq
 (.reg [oo 25 (.faddr 1 (.t 4)),
 oo 26 (.load none (.t 25)),
 oo 27 (.faddr 1 (.t 5)),
 oo 28 (.load none (.t 27)),
 oo 29 (.build [(.int .i64 0), (.int .i64 0)] [(0, 1, (.t 26)), (1, 1, (.t 28))]),
 oo 7 (.new 498 (.c (.agg [(.int .i64 0), (.int .i64 0)]))),
 ⟨none, .store 2 (.t 7) (.t 29), none⟩])
 (.seq
 (.seq
 (.reg [oo 30 (.faddr 1 (.t 4)),
 oo 31 (.load none (.t 30)),
 oo 32 (.faddr 1 (.t 5)),
 oo 33 (.load none (.t 32)),
 oo 34 (.bin .int .eql (.t 31) (.t 33)),
 mv 35 34,
 og 36 35 false (.move (.t 0)),
 og 37 35 false (.nilck (.t 36)),
 og 38 35 false (.faddr 3 (.t 37)),
 og 39 35 false (.load none (.t 38)),
 og 40 35 false (.load (some 2) (.t 7)),
 og 41 35 false (.lookup (.row [.int, .int]) (.bool false) false (.t 39) (.t 40)),
 oo 42 (.pick (.t 35) (.c (.bool true)) (.t 41))])
 (.cond (.t 42)
 (.seq
 (.reg [oo 6 (.move (.c (.int .i64 0)))])
 .ret)
 .skip))
 (.seq
 (.draw [] [([⟨(some 43), .move (.t 0), none⟩], []),
 ([⟨(some 44), .move (.t 0), none⟩], []),
 ([⟨(some 45), .load (some 4) (.t 4), none⟩], []),
 ([⟨(some 47), .move (.t 0), none⟩], []),
 ([⟨(some 48), .load (some 4) (.t 5), none⟩], []),
 ([⟨(some 46), .call 314 [(.t 44), (.t 45)], none⟩], [⟨(some 48), .load (some 4) (.t 5), none⟩]),
 ([⟨(some 49), .call 314 [(.t 47), (.t 48)], none⟩], []),
 ([⟨(some 50), .call 347 [(.t 43), (.t 46), (.t 49)], none⟩], []),
 ([⟨(some 8), .move (.t 50), none⟩], [])])
 (.seq
 (.seq
 (.reg [mv 51 8,
 oo 52 (.bin .int .eql (.t 51) (.c (.int .i64 0)))])
 (.cond (.t 52)
 (.reg [mv 53 0,
 oo 54 (.nilck (.t 53)),
 oo 55 (.faddr 3 (.t 54)),
 oo 56 (.load none (.t 55)),
 oo 57 (.load (some 2) (.t 7)),
 ⟨none, .mapset (.row [.int, .int]) (.t 56) (.t 57) (.c (.bool true)), none⟩])
 .skip))
 (.seq
 (.reg [mv 58 8,
 mv 6 58])
 .ret)))))))
theorem ent333 : EntOK Tryz.prog 333 ⟨59, v333, [.slot 6]⟩ := fun args σ K ha h =>
 enter (own := List.range 59) Tryz.func333 (by kernel_rfl) (by kernel_rfl) (by kernel_rfl) ha h
def v334 : ACode :=
(.seq
 (.reg [oo 1 (.new 247 (.t 0)),
 oo 2 (.new 247 (.c (.agg [(.int .i64 0), (.int .i64 0), (.str ⟨#[]⟩), .nils])))])
 (.seq
 (.reg [oo 3 (.move (.c .nils))])
 (.seq
 (.seq
 (.reg [oo 6 (.faddr 3 (.t 1)),
 oo 7 (.load none (.t 6)),
 oo 8 (.len .slice (.t 7)),
 oo 9 (.move (.c (.int .i64 0)))])
 (.block 0
 (.loop
 (.seq
 (.reg [oo 10 (.bin .int .lss (.t 9) (.t 8))])
 (.seq
 (.cond (.t 10)
 .skip
 (.exit 0))
 (.seq
 (.block 1
 (.seq
 (.reg [oo 11 (.iaddr 4 (.t 7) (.t 9)),
 oo 12 (.load (some 4) (.t 11)),
 oo 5 (.new 247 (.c (.agg [(.int .i64 0), (.int .i64 0), (.str ⟨#[]⟩), .nils]))),
 ⟨none, .store 4 (.t 5) (.t 12), none⟩])
 (.reg [mv 13 3,
 oo 14 (.load (some 4) (.t 5)),
 oo 15 (.call 334 [(.t 14)]),
 oo 16 (.lit true 247 4 [(.t 15)]),
 oo 17 (.append 247 4 56 (.t 13) (.t 16)),
 mv 3 17])))
 (.reg [oo 18 (.bin .int .add (.t 9) (.c (.int .i64 1))),
 mv 9 18])))))))
 (.seq
 (.reg [mv 19 3,
 oo 20 (.faddr 3 (.t 1)),
 ⟨none, .store 1 (.t 20) (.t 19), none⟩])
 (.seq
 (.reg [oo 21 (.load (some 4) (.t 1)),
 ⟨none, .store 4 (.t 2) (.t 21), none⟩])
 .ret)))))
theorem ent334 : EntOK Tryz.prog 334 ⟨22, v334, [.cell 2 (some 4)]⟩ := fun args σ K ha h =>
 enter (own := List.range 22) Tryz.func334 (by kernel_rfl) (by kernel_rfl) (by kernel_rfl) ha h
def v335 : ACode :=
(.seq
 (.reg [oo 4 (.new 384 (.c (.agg [(.int .i64 0), (.int .i64 0), (.str ⟨#[]⟩), .nils, .nils, .nils, .nils, .nils])))])
 (.seq
 (.reg [mv 9 0,
 mv 10 1,
 oo 11 (.call 348 [(.t 9), (.t 10)]),
 mv 8 11,
 oo 12 (.extract (.t 8) 0),
 oo 13 (.extract (.t 8) 1),
 oo 5 (.new 371 (.c (.agg [(.str ⟨#[]⟩), .nils, (.int .i64 0), (.int .i64 0), (.str ⟨#[]⟩), .nils, (.bool false)]))),
 ⟨none, .store 7 (.t 5) (.t 12), none⟩,
 mv 6 13])
 (.seq
 (.seq
 (.reg [mv 14 6,
 oo 15 (.not (.t 14))])
 (.cond (.t 15)
 (.seq
 (.reg [mv 16 1,
 oo 17 (.call 71 [(.t 16)]),
 oo 18 (.call 349 [(.t 17)]),
 oo 19 (.build [(.int .i64 0), (.int .i64 0), (.str ⟨#[]⟩), .nils, .nils, .nils, .nils, .nils] [(0, 4, (.t 18))]),
 ⟨none, .store 8 (.t 4) (.t 19), none⟩])
 .ret)
 .skip))
 (.seq
 (.seq
 (.reg [oo 20 (.faddr 6 (.t 5)),
 oo 21 (.load none (.t 20)),
 oo 22 (.not (.t 21))])
 (.cond (.t 22)
 (.seq
 (.reg [oo 23 (.faddr 1 (.t 5)),
 oo 24 (.faddr 1 (.t 23)),
 oo 25 (.load (some 4) (.t 24)),
 oo 26 (.build [(.int .i64 0), (.int .i64 0), (.str ⟨#[]⟩), .nils, .nils, .nils, .nils, .nils] [(0, 4, (.t 25))]),
 ⟨none, .store 8 (.t 4) (.t 26), none⟩])
 .ret)
 .skip))
 (.seq
 (.reg [mv 27 0,
 oo 28 (.faddr 1 (.t 5)),
 oo 29 (.faddr 0 (.t 28)),
 oo 30 (.load none (.t 29)),
 oo 31 (.len .slice (.t 30)),
 oo 32 (.call 211 [(.t 27), (.t 31)]),
 mv 7 32])
 (.seq
 (.reg [oo 33 (.faddr 1 (.t 5)),
 oo 34 (.faddr 1 (.t 33)),
 oo 35 (.load (some 4) (.t 34)),
 oo 36 (.faddr 1 (.t 5)),
 oo 37 (.faddr 0 (.t 36)),
 oo 38 (.load none (.t 37)),
 mv 39 7,
 oo 40 (.call 332 [(.t 35), (.t 38), (.t 39)]),
 mv 41 7,
 oo 42 (.build [(.int .i64 0), (.int .i64 0), (.str ⟨#[]⟩), .nils, .nils, .nils, .nils, .nils] [(0, 4, (.t 40)), (4, 1, (.t 41))]),
 ⟨none, .store 8 (.t 4) (.t 42), none⟩])
 .ret))))))
theorem ent335 : EntOK Tryz.prog 335 ⟨43, v335, [.cell 4 (some 8)]⟩ := fun args σ K ha h =>
 enter (own := List.range 43) Tryz.func335 (by kernel_rfl) (by kernel_rfl) (by kernel_rfl) ha h
def v336 : ACode :=
(.seq
 (.reg [oo 2 (.new 227 (.t 0)),
 oo 3 (.new 297 (.t 1)),
 oo 4 (.new 384 (.c (.agg [(.int .i64 0), (.int .i64 0), (.str ⟨#[]⟩), .nils, .nils, .nils, .nils, .nils])))])
 (.seq
 (.reg [oo 10 (.load none (.t 2)),
 oo 11 (.faddr 3 (.t 3)),
 oo 12 (.load none (.t 11)),
 oo 13 (.len .slice (.t 12)),
 oo 14 (.call 211 [(.t 10), (.t 13)]),
 mv 5 14])
 (.seq
 (.reg [oo 6 (.move (.c .nils))])
 (.seq
 (.seq
 (.reg [oo 15 (.faddr 3 (.t 3)),
 oo 16 (.load none (.t 15)),
 oo 17 (.len .slice (.t 16)),
 oo 18 (.move (.c (.int .i64 0)))])
 (.block 0
 (.loop
 (.seq
 (.reg [oo 19 (.bin .int .lss (.t 18) (.t 17))])
 (.seq
 (.cond (.t 19)
 .skip
 (.exit 0))
 (.seq
 (.block 1
 (.seq
 (.reg [mv 20 18,
 oo 21 (.iaddr 1 (.t 16) (.t 18)),
 oo 22 (.load none (.t 21)),
 mv 7 20,
 mv 8 22])
 (.seq
 (.reg [mv 23 8,
 oo 24 (.bin .str .neq (.t 23) (.c (.str ⟨#[95]⟩)))])
 (.cond (.t 24)
 (.reg [mv 25 6,
 mv 26 8,
 mv 27 5,
 mv 28 7,
 oo 29 (.iaddr 4 (.t 27) (.t 28)),
 oo 30 (.load (some 4) (.t 29)),
 oo 31 (.build [.nils, (.int .i64 0), (.int .i64 0), (.str ⟨#[]⟩), .nils] [(1, 4, (.t 30))]),
 oo 32 (.build [(.str ⟨#[]⟩), .nils, (.int .i64 0), (.int .i64 0), (.str ⟨#[]⟩), .nils, (.bool false)] [(0, 1, (.t 26)), (1, 5, (.t 31))]),
 oo 33 (.lit true 371 7 [(.t 32)]),
 oo 34 (.append 371 7 104 (.t 25) (.t 33)),
 mv 6 34])
 .skip))))
 (.reg [oo 35 (.bin .int .add (.t 18) (.c (.int .i64 1))),
 mv 18 35])))))))
 (.seq
 (.reg [oo 9 (.new 384 (.c (.agg [(.int .i64 0), (.int .i64 0), (.str ⟨#[]⟩), .nils, .nils, .nils, .nils, .nils])))])
 (.seq
 (.reg [oo 36 (.load none (.t 2)),
 mv 37 6,
 oo 38 (.mkfn (.func 350) [] [(.t 2), (.t 3), (.t 9)]),
 oo 39 (.call 212 [(.t 36), (.t 37), (.t 38)])])
 (.seq
 (.reg [mv 40 5,
 oo 41 (.faddr 5 (.t 9)),
 oo 42 (.load none (.t 41)),
 oo 43 (.iaddr 8 (.t 42) (.c (.int .i64 0))),
 oo 44 (.faddr 0 (.t 43)),
 oo 45 (.load (some 4) (.t 44)),
 oo 46 (.call 269 [(.t 40), (.t 45)]),
 oo 47 (.faddr 0 (.t 9)),
 ⟨none, .store 4 (.t 47) (.t 46), none⟩])
 (.seq
 (.reg [oo 48 (.load (some 8) (.t 9)),
 ⟨none, .store 8 (.t 4) (.t 48), none⟩])
 .ret))))))))
theorem ent336 : EntOK Tryz.prog 336 ⟨49, v336, [.cell 4 (some 8)]⟩ := fun args σ K ha h =>
 enter (own := List.range 49) Tryz.func336 (by kernel_rfl) (by kernel_rfl) (by kernel_rfl) ha h
def v339 : ACode :=
(.seq
 (.reg [oo 4 (.faddr 4 (.t 0)),
 oo 5 (.load none (.t 4)),
 oo 6 (.len .slice (.t 5)),
 oo 7 (.move (.c (.int .i64 0)))])
 (.block 0
 (.loop
 (.seq
 (.reg [oo 8 (.bin .int .lss (.t 7) (.t 6))])
 (.seq
 (.cond (.t 8)
 .skip
 (.exit 0))
 (.seq
 (.block 1
 (.seq
 (.reg [oo 9 (.iaddr 9 (.t 5) (.t 7)),
 oo 10 (.load (some 9) (.t 9)),
 oo 3 (.new 297 (.c (.agg [(.int .i64 0), (.str ⟨#[]⟩), (.int .i64 0), .nils, .nils, .nils, .nils, (.int .i64 0), (.int .i64 0)]))),
 ⟨none, .store 9 (.t 3) (.t 10), none⟩])
 (.reg [oo 11 (.load none (.t 1)),
 oo 12 (.load (some 9) (.t 3)),
 oo 13 (.call 325 [(.t 11), (.t 12)])])))
 (.reg [oo 14 (.bin .int .add (.t 7) (.c (.int .i64 1))),
 mv 7 14])))))))
theorem ent339 : EntOK Tryz.prog 339 ⟨15, v339, []⟩ := fun args σ K ha h =>
 enter (own := List.range 15) Tryz.func339 (by kernel_rfl) (by kernel_rfl) (by kernel_rfl) ha h
def v340 : ACode :=
(.seq
 (.reg [oo 2 (.move (.c .nils))])
 (.seq
 (.reg [oo 3 (.move (.c .nils))])
 (.seq
 (.seq
 (.reg [mv 6 0,
 oo 7 (.len .slice (.t 6)),
 oo 8 (.move (.c (.int .i64 0)))])
 (.block 0
 (.loop
 (.seq
 (.reg [oo 9 (.bin .int .lss (.t 8) (.t 7))])
 (.seq
 (.cond (.t 9)
 .skip
 (.exit 0))
 (.seq
 (.block 1
 (.seq
 (.reg [oo 10 (.iaddr 1 (.t 6) (.t 8)),
 oo 11 (.load none (.t 10)),
 mv 5 11])
 (.seq
 (.reg [mv 12 5,
 oo 13 (.bin .str .neq (.t 12) (.c (.str ⟨#[95]⟩)))])
 (.cond (.t 13)
 (.reg [mv 14 3,
 mv 15 5,
 oo 16 (.lit true 9 1 [(.t 15)]),
 oo 17 (.append 9 1 16 (.t 14) (.t 16)),
 mv 3 17])
 .skip))))
 (.reg [oo 18 (.bin .int .add (.t 8) (.c (.int .i64 1))),
 mv 8 18])))))))
 (.seq
 (.reg [mv 19 3,
 mv 2 19])
 .ret))))
theorem ent340 : EntOK Tryz.prog 340 ⟨20, v340, [.slot 2]⟩ := fun args σ K ha h =>
 enter (own := List.range 20) Tryz.func340 (by kernel_rfl) (by kernel_rfl) (by kernel_rfl) ha h
def v341 : ACode :=
(.seq
 (.reg [oo 4 (.faddr 4 (.t 0)),
 oo 5 (.load none (.t 4)),
 oo 6 (.len .slice (.t 5)),
 oo 7 (.move (.c (.int .i64 0)))])
 (.block 0
 (.loop
 (.seq
 (.reg [oo 8 (.bin .int .lss (.t 7) (.t 6))])
 (.seq
 (.cond (.t 8)
 .skip
 (.exit 0))
 (.seq
 (.block 1
 (.seq
 (.reg [oo 9 (.iaddr 9 (.t 5) (.t 7)),
 oo 10 (.load (some 9) (.t 9)),
 oo 3 (.new 297 (.c (.agg [(.int .i64 0), (.str ⟨#[]⟩), (.int .i64 0), .nils, .nils, .nils, .nils, (.int .i64 0), (.int .i64 0)]))),
 ⟨none, .store 9 (.t 3) (.t 10), none⟩])
 (.reg [oo 11 (.load none (.t 1)),
 oo 12 (.load (some 9) (.t 3)),
 oo 13 (.call 329 [(.t 11), (.t 12)])])))
 (.reg [oo 14 (.bin .int .add (.t 7) (.c (.int .i64 1))),
 mv 7 14])))))))
theorem ent341 : EntOK Tryz.prog 341 ⟨15, v341, []⟩ := fun args σ K ha h =>
 enter (own := List.range 15) Tryz.func341 (by kernel_rfl) (by kernel_rfl) (by kernel_rfl) ha h
def v342 : ACode :=
(.seq
 (.reg [mv 4 0,
 oo 5 (.nilck (.t 4)),
 oo 6 (.faddr 0 (.t 5)),
 oo 7 (.load none (.t 6)),
 mv 8 1,
 oo 9 (.call 151 [(.t 7), (.t 8)]),
 oo 10 (.not (.t 9)),
 mv 11 10,
 og 12 11 true (.move (.t 0)),
 og 13 11 true (.nilck (.t 12)),
 og 14 11 true (.faddr 1 (.t 13)),
 og 15 11 true (.load none (.t 14)),
 og 16 11 true (.move (.t 1)),
 og 17 11 true (.call 151 [(.t 15), (.t 16)]),
 og 18 11 true (.not (.t 17)),
 oo 19 (.pick (.t 11) (.t 18) (.c (.bool false)))])
 (.cond (.t 19)
 (.reg [mv 20 0,
 mv 21 0,
 oo 22 (.nilck (.t 21)),
 oo 23 (.faddr 1 (.t 22)),
 oo 24 (.load none (.t 23)),
 mv 25 1,
 oo 26 (.lit true 9 1 [(.t 25)]),
 oo 27 (.append 9 1 16 (.t 24) (.t 26)),
 oo 28 (.nilck (.t 20)),
 oo 29 (.faddr 1 (.t 28)),
 ⟨none, .store 1 (.t 29) (.t 27), none⟩])
 .skip))
theorem ent342 : EntOK Tryz.prog 342 ⟨30, v342, []⟩ := fun args σ K ha h =>
 enter (own := List.range 30) Tryz.func342 (by kernel_rfl) (by kernel_rfl) (by kernel_rfl) ha h
def v343 : ACode :=
(.seq
 (.reg [oo 1 (.new 297 (.t 0)),
 oo 2 (.move (.c (.bool false)))])
 (.seq
 (.reg [oo 6 (.faddr 1 (.t 1)),
 oo 7 (.load none (.t 6)),
 oo 8 (.call 297 [(.t 7)]),
 mv 5 8,
 oo 9 (.extract (.t 5) 0),
 oo 10 (.extract (.t 5) 1),
 oo 3 (.new 132 (.c (.agg [(.int .i64 0), (.str ⟨#[]⟩), (.int .i64 0), (.int .i64 0), (.int .i64 0), (.bool false)]))),
 ⟨none, .store 6 (.t 3) (.t 9), none⟩,
 mv 4 10])
 (.seq
 (.reg [oo 11 (.faddr 0 (.t 1)),
 oo 12 (.load none (.t 11)),
 oo 13 (.bin .int .eql (.t 12) (.c (.int .i64 1))),
 mv 14 13,
 og 15 14 true (.move (.t 4)),
 oo 16 (.pick (.t 14) (.t 15) (.c (.bool false))),
 mv 17 16,
 og 18 17 true (.faddr 0 (.t 3)),
 og 19 17 true (.load none (.t 18)),
 og 20 17 true (.bin .int .eql (.t 19) (.c (.int .i64 3))),
 oo 21 (.pick (.t 17) (.t 20) (.c (.bool false))),
 mv 2 21])
 .ret)))
theorem ent343 : EntOK Tryz.prog 343 ⟨22, v343, [.slot 2]⟩ := fun args σ K ha h =>
 enter (own := List.range 22) Tryz.func343 (by kernel_rfl) (by kernel_rfl) (by kernel_rfl) ha h
def v347 : ACode :=
(.seq
 (.reg [oo 4 (.new 247 (.t 1)),
 oo 5 (.new 247 (.t 2)),
 oo 6 (.move (.c (.int .i64 0)))])
 (.seq
 (.block 0
 (.seq
 (.reg [oo 10 (.faddr 0 (.t 4)),
 oo 11 (.load none (.t 10)),
 oo 12 (.bin .int .eql (.t 11) (.c (.int .i64 1))),
 mv 13 12,
 og 14 13 true (.faddr 0 (.t 5)),
 og 15 13 true (.load none (.t 14)),
 og 16 13 true (.bin .int .eql (.t 15) (.c (.int .i64 1))),
 oo 17 (.pick (.t 13) (.t 16) (.c (.bool false))),
 mv 9 17])
 (.cond (.t 9)
 (.seq
 (.seq
 (.reg [oo 18 (.faddr 1 (.t 4)),
 oo 19 (.load none (.t 18)),
 oo 20 (.faddr 1 (.t 5)),
 oo 21 (.load none (.t 20)),
 oo 22 (.bin .int .neq (.t 19) (.t 21))])
 (.cond (.t 22)
 (.draw [] [([⟨(some 23), .move (.t 0), none⟩], []),
 ([⟨(some 24), .faddr 1 (.t 4), none⟩], []),
 ([⟨(some 25), .load none (.t 24), none⟩], []),
 ([⟨(some 26), .faddr 1 (.t 5), none⟩], []),
 ([⟨(some 27), .load none (.t 26), none⟩], []),
 ([⟨(some 28), .max2 (.t 25) (.t 27), none⟩], []),
 ([⟨(some 29), .faddr 1 (.t 4), none⟩], []),
 ([⟨(some 30), .load none (.t 29), none⟩], []),
 ([⟨(some 31), .faddr 1 (.t 5), none⟩], []),
 ([⟨(some 32), .load none (.t 31), none⟩], []),
 ([⟨(some 33), .min2 (.t 30) (.t 32), none⟩], []),
 ([⟨(some 34), .call 307 [(.t 33)], none⟩], [⟨(some 24), .faddr 1 (.t 4), none⟩, ⟨(some 25), .load none (.t 24), none⟩, ⟨(some 26), .faddr 1 (.t 5), none⟩, ⟨(some 27), .load none (.t 26), none⟩]),
 ([⟨(some 35), .call 352 [(.t 23), (.t 28), (.t 34)], none⟩], [])])
 .skip))
 (.seq
 (.reg [oo 6 (.move (.c (.int .i64 0)))])
 .ret))
 (.seq
 (.reg [oo 37 (.faddr 0 (.t 4)),
 oo 38 (.load none (.t 37)),
 oo 39 (.bin .int .eql (.t 38) (.c (.int .i64 1))),
 mv 36 39])
 (.cond (.t 36)
 (.seq
 (.reg [mv 40 0,
 oo 41 (.faddr 1 (.t 4)),
 oo 42 (.load none (.t 41)),
 oo 43 (.load (some 4) (.t 5)),
 oo 44 (.call 353 [(.t 40), (.t 42), (.t 43)]),
 mv 6 44])
 .ret)
 (.seq
 (.reg [oo 46 (.faddr 0 (.t 5)),
 oo 47 (.load none (.t 46)),
 oo 48 (.bin .int .eql (.t 47) (.c (.int .i64 1))),
 mv 45 48])
 (.cond (.t 45)
 (.seq
 (.reg [mv 49 0,
 oo 50 (.faddr 1 (.t 5)),
 oo 51 (.load none (.t 50)),
 oo 52 (.load (some 4) (.t 4)),
 oo 53 (.call 353 [(.t 49), (.t 51), (.t 52)]),
 mv 6 53])
 .ret)
 .skip)))))))
 (.seq
 (.seq
 (.reg [oo 54 (.faddr 0 (.t 4)),
 oo 55 (.load none (.t 54)),
 oo 56 (.faddr 0 (.t 5)),
 oo 57 (.load none (.t 56)),
 oo 58 (.bin .int .neq (.t 55) (.t 57)),
 mv 59 58,
 og 60 59 false (.faddr 2 (.t 4)),
 og 61 59 false (.load none (.t 60)),
 og 62 59 false (.faddr 2 (.t 5)),
 og 63 59 false (.load none (.t 62)),
 og 64 59 false (.bin .str .neq (.t 61) (.t 63)),
 oo 65 (.pick (.t 59) (.c (.bool true)) (.t 64)),
 mv 66 65,
 og 67 66 false (.faddr 3 (.t 4)),
 og 68 66 false (.load none (.t 67)),
 og 69 66 false (.len .slice (.t 68)),
 og 70 66 false (.faddr 3 (.t 5)),
 og 71 66 false (.load none (.t 70)),
 og 72 66 false (.len .slice (.t 71)),
 og 73 66 false (.bin .int .neq (.t 69) (.t 72)),
 oo 74 (.pick (.t 66) (.c (.bool true)) (.t 73))])
 (.cond (.t 74)
 (.seq
 (.reg [oo 6 (.move (.c (.int .i64 100)))])
 .ret)
 .skip))
 (.seq
 (.seq
 (.reg [oo 75 (.faddr 3 (.t 4)),
 oo 76 (.load none (.t 75)),
 oo 77 (.len .slice (.t 76)),
 oo 78 (.move (.c (.int .i64 0)))])
 (.block 1
 (.loop
 (.seq
 (.reg [oo 79 (.bin .int .lss (.t 78) (.t 77))])
 (.seq
 (.cond (.t 79)
 .skip
 (.exit 1))
 (.seq
 (.block 2
 (.seq
 (.reg [mv 80 78,
 mv 7 80])
 (.seq
 (.reg [mv 81 0,
 oo 82 (.faddr 3 (.t 4)),
 oo 83 (.load none (.t 82)),
 mv 84 7,
 oo 85 (.iaddr 4 (.t 83) (.t 84)),
 oo 86 (.load (some 4) (.t 85)),
 oo 87 (.faddr 3 (.t 5)),
 oo 88 (.load none (.t 87)),
 mv 89 7,
 oo 90 (.iaddr 4 (.t 88) (.t 89)),
 oo 91 (.load (some 4) (.t 90)),
 oo 92 (.call 333 [(.t 81), (.t 86), (.t 91)]),
 mv 8 92])
 (.seq
 (.reg [mv 93 8,
 oo 94 (.bin .int .neq (.t 93) (.c (.int .i64 0)))])
 (.cond (.t 94)
 (.seq
 (.reg [mv 95 8,
 mv 6 95])
 .ret)
 .skip)))))
 (.reg [oo 96 (.bin .int .add (.t 78) (.c (.int .i64 1))),
 mv 78 96])))))))
 (.seq
 (.reg [oo 6 (.move (.c (.int .i64 0)))])
 .ret)))))
theorem ent347 : EntOK Tryz.prog 347 ⟨97, v347, [.slot 6]⟩ := fun args σ K ha h =>
 enter (own := List.range 97) Tryz.func347 (by kernel_rfl) (by kernel_rfl) (by kernel_rfl) ha h
def v348 : ACode :=
(.seq
 (.reg [oo 4 (.new 371 (.c (.agg [(.str ⟨#[]⟩), .nils, (.int .i64 0), (.int .i64 0), (.str ⟨#[]⟩), .nils, (.bool false)]))),
 oo 5 (.move (.c (.bool false)))])
 (.seq
 (.seq
 (.reg [mv 7 0,
 oo 8 (.nilck (.t 7)),
 oo 9 (.faddr 2 (.t 8)),
 oo 10 (.load none (.t 9)),
 oo 11 (.len .slice (.t 10)),
 oo 12 (.bin .int .sub (.t 11) (.c (.int .i64 1))),
 mv 6 12])
 (.block 0
 (.loop
 (.seq
 (.seq
 (.reg [mv 13 6,
 oo 14 (.bin .int .geq (.t 13) (.c (.int .i64 0)))])
 (.cond (.t 14)
 .skip
 (.exit 0)))
 (.seq
 (.block 1
 (.seq
 (.reg [mv 17 0,
 oo 18 (.nilck (.t 17)),
 oo 19 (.faddr 2 (.t 18)),
 oo 20 (.load none (.t 19)),
 mv 21 6,
 oo 22 (.iaddr 7 (.t 20) (.t 21)),
 oo 23 (.faddr 0 (.t 22)),
 oo 24 (.load none (.t 23)),
 mv 25 1,
 oo 26 (.bin .str .eql (.t 24) (.t 25))])
 (.cond (.t 26)
 (.seq
 (.reg [mv 27 0,
 oo 28 (.nilck (.t 27)),
 oo 29 (.faddr 2 (.t 28)),
 oo 30 (.load none (.t 29)),
 mv 31 6,
 oo 32 (.iaddr 7 (.t 30) (.t 31)),
 oo 33 (.load (some 7) (.t 32)),
 ⟨none, .store 7 (.t 4) (.t 33), none⟩,
 oo 5 (.move (.c (.bool true)))])
 .ret)
 .skip)))
 (.reg [mv 15 6,
 oo 16 (.bin .int .sub (.t 15) (.c (.int .i64 1))),
 mv 6 16]))))))
 (.seq
 (.reg [oo 34 (.build [(.str ⟨#[]⟩), .nils, (.int .i64 0), (.int .i64 0), (.str ⟨#[]⟩), .nils, (.bool false)] []),
 ⟨none, .store 7 (.t 4) (.t 34), none⟩,
 oo 5 (.move (.c (.bool false)))])
 .ret)))
theorem ent348 : EntOK Tryz.prog 348 ⟨35, v348, [.cell 4 (some 7), .slot 5]⟩ := fun args σ K ha h =>
 enter (own := List.range 35) Tryz.func348 (by kernel_rfl) (by kernel_rfl) (by kernel_rfl) ha h
def v349 : ACode :=
(.seq
 (.reg [oo 2 (.new 247 (.c (.agg [(.int .i64 0), (.int .i64 0), (.str ⟨#[]⟩), .nils])))])
 (.seq
 (.reg [oo 4 (.call 308 [(.c (.str ⟨#[73, 110, 116]⟩))]),
 oo 3 (.new 247 (.c (.agg [(.int .i64 0), (.int .i64 0), (.str ⟨#[]⟩), .nils]))),
 ⟨none, .store 4 (.t 3) (.t 4), none⟩])
 (.seq
 (.seq
 (.reg [mv 5 0,
 oo 6 (.call 134 [(.t 5)])])
 (.cond (.t 6)
 (.reg [oo 7 (.call 308 [(.c (.str ⟨#[66, 111, 111, 108]⟩))]),
 ⟨none, .store 4 (.t 3) (.t 7), none⟩])
 .skip))
 (.seq
 (.draw [] [([⟨(some 10), .load (some 4) (.t 3), none⟩], []),
 ([⟨(some 8), .call 308 [(.c (.str ⟨#[73, 110, 116]⟩))], none⟩], [⟨(some 10), .load (some 4) (.t 3), none⟩]),
 ([⟨(some 9), .call 308 [(.c (.str ⟨#[73, 110, 116]⟩))], none⟩], [⟨(some 10), .load (some 4) (.t 3), none⟩]),
 ([⟨(some 11), .call 311 [(.t 9), (.t 10)], none⟩], []),
 ([⟨(some 12), .call 311 [(.t 8), (.t 11)], none⟩], []),
 ([⟨none, .store 4 (.t 2) (.t 12), none⟩], [])])
 .ret))))
theorem ent349 : EntOK Tryz.prog 349 ⟨13, v349, [.cell 2 (some 4)]⟩ := fun args σ K ha h =>
 enter (own := List.range 13) Tryz.func349 (by kernel_rfl) (by kernel_rfl) (by kernel_rfl) ha h
def v350 : ACode :=
(.reg [oo 3 (.load none (.t 0)),
 oo 4 (.faddr 4 (.t 1)),
 oo 5 (.load none (.t 4)),
 oo 6 (.iaddr 9 (.t 5) (.c (.int .i64 0))),
 oo 7 (.load (some 9) (.t 6)),
 oo 8 (.call 312 [(.t 3), (.t 7)]),
 oo 9 (.lit true 384 8 [(.t 8)]),
 oo 10 (.faddr 5 (.t 2)),
 ⟨none, .store 1 (.t 10) (.t 9), none⟩])
theorem ent350 : EntOK Tryz.prog 350 ⟨11, v350, []⟩ := fun args σ K ha h =>
 enter (own := List.range 11) Tryz.func350 (by kernel_rfl) (by kernel_rfl) (by kernel_rfl) ha h
def v352 : ACode :=
(.seq
 (.reg [oo 5 (.new 247 (.t 2))])
 (.seq
 (.reg [mv 6 0,
 oo 7 (.nilck (.t 6)),
 oo 8 (.faddr 0 (.t 7)),
 oo 9 (.load none (.t 8)),
 mv 10 1,
 oo 11 (.load (some 4) (.t 5)),
 ⟨none, .mapset .int (.t 9) (.t 10) (.t 11), none⟩])
 (.reg [mv 12 0,
 mv 13 0,
 oo 14 (.nilck (.t 13)),
 oo 15 (.faddr 2 (.t 14)),
 oo 16 (.load none (.t 15)),
 mv 17 1,
 oo 18 (.lit true 3 1 [(.t 17)]),
 oo 19 (.append 3 1 8 (.t 16) (.t 18)),
 oo 20 (.nilck (.t 12)),
 oo 21 (.faddr 2 (.t 20)),
 ⟨none, .store 1 (.t 21) (.t 19), none⟩])))
theorem ent352 : EntOK Tryz.prog 352 ⟨22, v352, []⟩ := fun args σ K ha h =>
 enter (own := List.range 22) Tryz.func352 (by kernel_rfl) (by kernel_rfl) (by kernel_rfl) ha h
def v353 : ACode :=
(.seq
 (.reg [oo 5 (.new 247 (.t 2)),
 oo 6 (.move (.c (.int .i64 0)))])
 (.seq
 (.seq
 (.reg [mv 7 0,
 mv 8 1,
 oo 9 (.load (some 4) (.t 5)),
 oo 10 (.mkmap),
 oo 11 (.call 354 [(.t 7), (.t 8), (.t 9), (.t 10)])])
 (.cond (.t 11)
 (.seq
 (.reg [oo 6 (.move (.c (.int .i64 101)))])
 .ret)
 .skip))
 (.seq
 (.reg [mv 12 0,
 mv 13 1,
 oo 14 (.load (some 4) (.t 5)),
 oo 15 (.call 352 [(.t 12), (.t 13), (.t 14)])])
 (.seq
 (.reg [oo 6 (.move (.c (.int .i64 0)))])
 .ret))))
theorem ent353 : EntOK Tryz.prog 353 ⟨16, v353, [.slot 6]⟩ := fun args σ K ha h =>
 enter (own := List.range 16) Tryz.func353 (by kernel_rfl) (by kernel_rfl) (by kernel_rfl) ha h
def v354 : ACode :=
(.seq
 (.reg [oo 6 (.new 247 (.t 2)),
 oo 8 (.move (.c (.bool false)))])
 (.seq
 (.seq
 (.reg [oo 13 (.faddr 0 (.t 6)),
 oo 14 (.load none (.t 13)),
 oo 15 (.bin .int .eql (.t 14) (.c (.int .i64 1)))])
 (.cond (.t 15)
 (.seq
 (.seq
 (.reg [oo 16 (.faddr 1 (.t 6)),
 oo 17 (.load none (.t 16)),
 mv 18 1,
 oo 19 (.bin .int .eql (.t 17) (.t 18))])
 (.cond (.t 19)
 (.seq
 (.reg [oo 8 (.move (.c (.bool true)))])
 .ret)
 .skip))
 (.seq
 (.draw [] [([⟨(some 21), .move (.t 0), none⟩], []),
 ([⟨(some 22), .nilck (.t 21), none⟩], []),
 ([⟨(some 23), .faddr 0 (.t 22), none⟩], []),
 ([⟨(some 24), .load none (.t 23), none⟩], []),
 ([⟨(some 25), .faddr 1 (.t 6), none⟩], []),
 ([⟨(some 26), .load none (.t 25), none⟩], []),
 ([⟨(some 27), .lookup .int (.agg [(.int .i64 0), (.int .i64 0), (.str ⟨#[]⟩), .nils]) true (.t 24) (.t 26), none⟩], []),
 ([⟨(some 20), .move (.t 27), none⟩], []),
 ([⟨(some 28), .extract (.t 20) 0, none⟩], []),
 ([⟨(some 29), .extract (.t 20) 1, none⟩], []),
 ([⟨(some 9), .new 247 (.c (.agg [(.int .i64 0), (.int .i64 0), (.str ⟨#[]⟩), .nils])), none⟩], [⟨(some 23), .faddr 0 (.t 22), none⟩, ⟨(some 24), .load none (.t 23), none⟩, ⟨(some 25), .faddr 1 (.t 6), none⟩, ⟨(some 26), .load none (.t 25), none⟩, ⟨(some 27), .lookup .int (.agg [(.int .i64 0), (.int .i64 0), (.str ⟨#[]⟩), .nils]) true (.t 24) (.t 26), none⟩]),
 ([⟨none, .store 4 (.t 9) (.t 28), none⟩], []),
 ([⟨(some 10), .move (.t 29), none⟩], [])])
 (.seq
 (.seq
 (.reg [mv 30 10,
 oo 31 (.not (.t 30)),
 mv 32 31,
 og 33 32 false (.move (.t 3)),
 og 34 32 false (.faddr 1 (.t 6)),
 og 35 32 false (.load none (.t 34)),
 og 36 32 false (.lookup .int (.bool false) false (.t 33) (.t 35)),
 oo 37 (.pick (.t 32) (.c (.bool true)) (.t 36))])
 (.cond (.t 37)
 (.seq
 (.reg [oo 8 (.move (.c (.bool false)))])
 .ret)
 .skip))
 (.seq
 (.reg [mv 38 3,
 oo 39 (.faddr 1 (.t 6)),
 oo 40 (.load none (.t 39)),
 ⟨none, .mapset .int (.t 38) (.t 40) (.c (.bool true)), none⟩])
 (.seq
 (.reg [mv 41 0,
 mv 42 1,
 oo 43 (.load (some 4) (.t 9)),
 mv 44 3,
 oo 45 (.call 354 [(.t 41), (.t 42), (.t 43), (.t 44)]),
 mv 8 45])
 .ret)))))
 .skip))
 (.seq
 (.seq
 (.reg [oo 46 (.faddr 3 (.t 6)),
 oo 47 (.load none (.t 46)),
 oo 48 (.len .slice (.t 47)),
 oo 49 (.move (.c (.int .i64 0)))])
 (.block 0
 (.loop
 (.seq
 (.reg [oo 50 (.bin .int .lss (.t 49) (.t 48))])
 (.seq
 (.cond (.t 50)
 .skip
 (.exit 0))
 (.seq
 (.block 1
 (.seq
 (.reg [oo 51 (.iaddr 4 (.t 47) (.t 49)),
 oo 52 (.load (some 4) (.t 51)),
 oo 12 (.new 247 (.c (.agg [(.int .i64 0), (.int .i64 0), (.str ⟨#[]⟩), .nils]))),
 ⟨none, .store 4 (.t 12) (.t 52), none⟩])
 (.seq
 (.reg [mv 53 0,
 mv 54 1,
 oo 55 (.load (some 4) (.t 12)),
 mv 56 3,
 oo 57 (.call 354 [(.t 53), (.t 54), (.t 55), (.t 56)])])
 (.cond (.t 57)
 (.seq
 (.reg [oo 8 (.move (.c (.bool true)))])
 .ret)
 .skip))))
 (.reg [oo 58 (.bin .int .add (.t 49) (.c (.int .i64 1))),
 mv 49 58])))))))
 (.seq
 (.reg [oo 8 (.move (.c (.bool false)))])
 .ret))))
theorem ent354 : EntOK Tryz.prog 354 ⟨59, v354, [.slot 8]⟩ := fun args σ K ha h =>
 enter (own := List.range 59) Tryz.func354 (by kernel_rfl) (by kernel_rfl) (by kernel_rfl) ha h
noncomputable def tabL : List (Nat × FEnt) := [(4, ⟨28, v4, [.cell 8 (some 5), .slot 9]⟩),
 (5, ⟨90, v5, [.slot 8, .slot 9]⟩),
 (6, ⟨43, v6, [.slot 2]⟩),
 (7, ⟨10, v7, [.cell 2 (some 5)]⟩),
 (12, ⟨64, v12, [.cell 2 (some 3), .slot 3, .slot 4, .slot 5]⟩),
 (13, ⟨5, v13, [.cell 2 (some 9)]⟩),
 (15, ⟨39, v15, [.slot 0]⟩),
 (16, ⟨36, v16, [.slot 2]⟩),
 (17, ⟨64, v17, [.cell 6 (some 4), .slot 7]⟩),
 (18, ⟨13, v18, [.slot 2, .slot 3]⟩),
 (19, ⟨95, v19, [.slot 4, .slot 5]⟩),
 (20, ⟨21, v20, []⟩),
 (21, ⟨50, v21, []⟩),
 (22, ⟨105, v22, []⟩),
 (24, ⟨55, v24, [.cell 2 (some 3), .cell 3 (some 3)]⟩),
 (25, ⟨49, v25, [.slot 2, .cell 3 (some 3)]⟩),
 (26, ⟨59, v26, [.slot 2, .cell 3 (some 3)]⟩),
 (27, ⟨57, v27, [.slot 2, .slot 3]⟩),
 (28, ⟨64, v28, [.slot 4, .slot 5]⟩),
 (29, ⟨32, v29, [.slot 2]⟩),
 (30, ⟨38, v30, [.cell 2 (some 5)]⟩),
 (31, ⟨34, v31, [.slot 4, .slot 5]⟩),
 (32, ⟨72, v32, [.slot 2]⟩),
 (33, ⟨28, v33, [.cell 4 (some 11)]⟩),
 (34, ⟨91, v34, [.slot 4]⟩),
 (35, ⟨48, v35, [.slot 4]⟩),
 (36, ⟨133, v36, []⟩),
 (37, ⟨25, v37, [.slot 6]⟩),
 (38, ⟨12, v38, [.slot 2]⟩),
 (39, ⟨18, v39, [.slot 4]⟩),
 (40, ⟨11, v40, [.cell 2 (some 3)]⟩),
 (41, ⟨19, v41, [.slot 4]⟩),
 (42, ⟨17, v42, [.cell 4 (some 3)]⟩),
 (43, ⟨16, v43, []⟩),
 (44, ⟨61, v44, []⟩),
 (45, ⟨99, v45, []⟩),
 (46, ⟨44, v46, [.cell 2 (some 4)]⟩),
 (47, ⟨22, v47, []⟩),
 (48, ⟨27, v48, []⟩),
 (49, ⟨19, v49, []⟩),
 (50, ⟨39, v50, []⟩),
 (52, ⟨74, v52, []⟩),
 (53, ⟨28, v53, [.slot 2]⟩),
 (54, ⟨36, v54, [.slot 4]⟩),
 (55, ⟨4, v55, []⟩),
 (56, ⟨49, v56, []⟩),
 (57, ⟨13, v57, [.cell 4 (some 6)]⟩),
 (58, ⟨21, v58, []⟩),
 (59, ⟨42, v59, [.slot 4]⟩),
 (60, ⟨46, v60, [.cell 2 (some 1), .cell 3 (some 3)]⟩),
 (61, ⟨62, v61, [.cell 8 (some 9)]⟩),
 (62, ⟨14, v62, [.slot 0]⟩),
 (65, ⟨63, v65, [.slot 2]⟩),
 (66, ⟨24, v66, [.cell 4 (some 9)]⟩),
 (67, ⟨62, v67, [.slot 4, .slot 5]⟩),
 (68, ⟨42, v68, [.cell 4 (some 5), .slot 5]⟩),
 (69, ⟨2, v69, [.cell 0 (some 4)]⟩),
 (70, ⟨82, v70, [.slot 4, .slot 5]⟩),
 (71, ⟨15, v71, [.slot 2]⟩),
 (72, ⟨9, v72, [.slot 4]⟩),
 (73, ⟨23, v73, [.slot 2]⟩),
 (74, ⟨92, v74, [.slot 4]⟩),
 (75, ⟨266, v75, [.slot 6]⟩),
 (76, ⟨30, v76, [.slot 6]⟩),
 (77, ⟨25, v77, [.slot 4]⟩),
 (78, ⟨25, v78, [.slot 4]⟩),
 (79, ⟨18, v79, []⟩),
 (82, ⟨26, v82, [.slot 4]⟩),
 (83, ⟨25, v83, [.cell 4 (some 3), .slot 5]⟩),
 (84, ⟨27, v84, [.slot 2]⟩),
 (85, ⟨32, v85, [.slot 6]⟩),
 (86, ⟨62, v86, [.slot 4, .slot 5]⟩),
 (87, ⟨17, v87, [.slot 4]⟩),
 (91, ⟨65, v91, []⟩),
 (92, ⟨71, v92, []⟩),
 (93, ⟨44, v93, [.cell 2 (some 3), .slot 3]⟩),
 (94, ⟨49, v94, [.slot 2, .cell 3 (some 3)]⟩),
 (95, ⟨99, v95, [.slot 2]⟩),
 (96, ⟨22, v96, [.slot 4]⟩),
 (97, ⟨31, v97, [.cell 2 (some 6)]⟩),
 (101, ⟨72, v101, [.slot 4]⟩),
 (102, ⟨44, v102, [.slot 4]⟩),
 (103, ⟨55, v103, [.cell 2 (some 3)]⟩),
 (104, ⟨4, v104, [.slot 0]⟩),
 (105, ⟨47, v105, [.slot 6]⟩),
 (106, ⟨0, v106, []⟩),
 (107, ⟨66, v107, [.slot 4]⟩),
 (108, ⟨52, v108, [.cell 10 (some 9)]⟩),
 (110, ⟨20, v110, [.slot 4]⟩),
 (112, ⟨22, v112, []⟩),
 (115, ⟨20, v115, [.slot 2]⟩),
 (117, ⟨101, v117, [.cell 8 (some 9)]⟩),
 (119, ⟨31, v119, [.cell 4 (some 4)]⟩),
 (120, ⟨44, v120, [.cell 6 (some 4)]⟩),
 (121, ⟨29, v121, [.cell 4 (some 4)]⟩),
 (123, ⟨26, v123, [.slot 2]⟩),
 (124, ⟨19, v124, [.slot 4]⟩),
 (125, ⟨20, v125, [.slot 2]⟩),
 (126, ⟨12, v126, [.slot 4]⟩),
 (130, ⟨34, v130, [.slot 8]⟩),
 (133, ⟨52, v133, [.slot 6, .slot 7]⟩),
 (134, ⟨9, v134, [.slot 2]⟩),
 (135, ⟨103, v135, [.slot 2]⟩),
 (136, ⟨123, v136, [.cell 2 (some 6), .slot 3]⟩),
 (137, ⟨33, v137, [.slot 4]⟩),
 (139, ⟨65, v139, []⟩),
 (140, ⟨64, v140, []⟩),
 (141, ⟨19, v141, []⟩),
 (142, ⟨30, v142, [.cell 2 (some 6)]⟩),
 (143, ⟨13, v143, [.cell 4 (some 6)]⟩),
 (144, ⟨10, v144, [.slot 4]⟩),
 (146, ⟨21, v146, [.slot 2]⟩),
 (148, ⟨37, v148, [.slot 4]⟩),
 (149, ⟨71, v149, [.cell 4 (some 9)]⟩),
 (150, ⟨16, v150, [.slot 2]⟩),
 (151, ⟨17, v151, [.slot 4]⟩),
 (153, ⟨43, v153, []⟩),
 (154, ⟨0, v154, []⟩),
 (155, ⟨61, v155, [.slot 2]⟩),
 (156, ⟨162, v156, [.cell 6 (some 4)]⟩),
 (157, ⟨22, v157, [.slot 4]⟩),
 (158, ⟨32, v158, [.slot 4]⟩),
 (159, ⟨28, v159, [.slot 4]⟩),
 (160, ⟨163, v160, [.cell 8 (some 9)]⟩),
 (162, ⟨6, v162, [.slot 2]⟩),
 (170, ⟨36, v170, [.slot 4]⟩),
 (171, ⟨79, v171, [.slot 2, .slot 3]⟩),
 (173, ⟨60, v173, [.slot 2]⟩),
 (174, ⟨102, v174, []⟩),
 (175, ⟨12, v175, []⟩),
 (176, ⟨8, v176, [.slot 4]⟩),
 (182, ⟨56, v182, [.slot 2]⟩),
 (183, ⟨32, v183, [.slot 4]⟩),
 (184, ⟨28, v184, [.slot 4]⟩),
 (185, ⟨15, v185, [.slot 2, .slot 3]⟩),
 (186, ⟨27, v186, [.slot 2]⟩),
 (187, ⟨18, v187, []⟩),
 (189, ⟨30, v189, [.slot 2]⟩),
 (194, ⟨17, v194, [.slot 2, .cell 3 (some 2)]⟩),
 (199, ⟨37, v199, [.cell 2 (some 9)]⟩),
 (200, ⟨40, v200, [.cell 4 (some 9)]⟩),
 (201, ⟨18, v201, [.slot 4]⟩),
 (203, ⟨18, v203, [.slot 4]⟩),
 (205, ⟨58, v205, [.slot 2]⟩),
 (206, ⟨32, v206, []⟩),
 (207, ⟨17, v207, []⟩),
 (208, ⟨58, v208, []⟩),
 (209, ⟨19, v209, [.slot 2]⟩),
 (210, ⟨65, v210, [.slot 2, .slot 3]⟩),
 (211, ⟨19, v211, [.slot 4]⟩),
 (212, ⟨32, v212, []⟩),
 (213, ⟨30, v213, []⟩),
 (214, ⟨80, v214, [.cell 6 (some 1)]⟩),
 (215, ⟨35, v215, [.slot 2]⟩),
 (216, ⟨40, v216, [.cell 4 (some 4), .slot 5]⟩),
 (219, ⟨8, v219, [.slot 2]⟩),
 (220, ⟨17, v220, [.slot 4]⟩),
 (221, ⟨26, v221, [.cell 4 (some 5)]⟩),
 (222, ⟨27, v222, [.cell 4 (some 4)]⟩),
 (223, ⟨22, v223, [.slot 4]⟩),
 (224, ⟨56, v224, [.cell 4 (some 8)]⟩),
 (225, ⟨30, v225, [.cell 6 (some 9)]⟩),
 (227, ⟨51, v227, [.slot 4]⟩),
 (228, ⟨17, v228, [.slot 6]⟩),
 (231, ⟨5, v231, [.cell 2 (some 9)]⟩),
 (236, ⟨19, v236, [.slot 4]⟩),
 (241, ⟨18, v241, [.slot 4]⟩),
 (245, ⟨16, v245, [.slot 2]⟩),
 (247, ⟨96, v247, [.cell 2 (some 9)]⟩),
 (248, ⟨59, v248, [.slot 4]⟩),
 (249, ⟨60, v249, [.cell 8 (some 9)]⟩),
 (251, ⟨19, v251, [.slot 4]⟩),
 (252, ⟨18, v252, [.slot 4]⟩),
 (257, ⟨9, v257, [.slot 2]⟩),
 (258, ⟨18, v258, [.slot 4]⟩),
 (260, ⟨26, v260, [.slot 2]⟩),
 (261, ⟨24, v261, []⟩),
 (262, ⟨29, v262, []⟩),
 (263, ⟨32, v263, [.slot 2]⟩),
 (264, ⟨45, v264, [.slot 2, .slot 3]⟩),
 (265, ⟨47, v265, [.slot 8]⟩),
 (266, ⟨20, v266, [.cell 2 (some 4)]⟩),
 (268, ⟨26, v268, []⟩),
 (269, ⟨20, v269, [.cell 4 (some 4)]⟩),
 (270, ⟨10, v270, []⟩),
 (271, ⟨64, v271, [.slot 6]⟩),
 (273, ⟨65, v273, [.slot 2]⟩),
 (274, ⟨31, v274, []⟩),
 (275, ⟨51, v275, [.cell 4 (some 4)]⟩),
 (276, ⟨34, v276, [.slot 4]⟩),
 (289, ⟨35, v289, [.cell 2 (some 9)]⟩),
 (293, ⟨83, v293, [.cell 2 (some 9)]⟩),
 (294, ⟨17, v294, [.slot 2]⟩),
 (295, ⟨21, v295, [.cell 4 (some 5)]⟩),
 (296, ⟨55, v296, [.slot 2, .slot 3, .slot 4]⟩),
 (297, ⟨31, v297, [.cell 2 (some 6), .slot 3]⟩),
 (298, ⟨137, v298, [.slot 2]⟩),
 (302, ⟨5, v302, []⟩),
 (303, ⟨30, v303, []⟩),
 (304, ⟨24, v304, []⟩),
 (305, ⟨154, v305, []⟩),
 (306, ⟨49, v306, [.slot 8]⟩),
 (307, ⟨5, v307, [.cell 2 (some 4)]⟩),
 (308, ⟨5, v308, [.cell 2 (some 4)]⟩),
 (310, ⟨66, v310, [.slot 6]⟩),
 (311, ⟨9, v311, [.cell 4 (some 4)]⟩),
 (312, ⟨152, v312, [.cell 4 (some 8)]⟩),
 (314, ⟨25, v314, [.cell 4 (some 4)]⟩),
 (315, ⟨17, v315, [.slot 4]⟩),
 (317, ⟨27, v317, [.cell 2 (some 5)]⟩),
 (318, ⟨21, v318, [.slot 2]⟩),
 (319, ⟨96, v319, [.slot 4]⟩),
 (320, ⟨75, v320, []⟩),
 (321, ⟨18, v321, [.slot 4]⟩),
 (322, ⟨9, v322, [.slot 2]⟩),
 (325, ⟨103, v325, []⟩),
 (327, ⟨32, v327, []⟩),
 (328, ⟨28, v328, []⟩),
 (329, ⟨86, v329, []⟩),
 (330, ⟨50, v330, [.cell 4 (some 2)]⟩),
 (331, ⟨72, v331, []⟩),
 (333, ⟨59, v333, [.slot 6]⟩),
 (334, ⟨22, v334, [.cell 2 (some 4)]⟩),
 (335, ⟨43, v335, [.cell 4 (some 8)]⟩),
 (336, ⟨49, v336, [.cell 4 (some 8)]⟩),
 (339, ⟨15, v339, []⟩),
 (340, ⟨20, v340, [.slot 2]⟩),
 (341, ⟨15, v341, []⟩),
 (342, ⟨30, v342, []⟩),
 (343, ⟨22, v343, [.slot 2]⟩),
 (347, ⟨97, v347, [.slot 6]⟩),
 (348, ⟨35, v348, [.cell 4 (some 7), .slot 5]⟩),
 (349, ⟨13, v349, [.cell 2 (some 4)]⟩),
 (350, ⟨11, v350, []⟩),
 (352, ⟨22, v352, []⟩),
 (353, ⟨16, v353, [.slot 6]⟩),
 (354, ⟨59, v354, [.slot 8]⟩)]
theorem ents_ok : EntsOK Tryz.prog tabL := (by
 unfold tabL
 refine .cons ent4 ?_
 refine .cons ent5 ?_
 refine .cons ent6 ?_
 refine .cons ent7 ?_
 refine .cons ent12 ?_
 refine .cons ent13 ?_
 refine .cons ent15 ?_
 refine .cons ent16 ?_
 refine .cons ent17 ?_
 refine .cons ent18 ?_
 refine .cons ent19 ?_
 refine .cons ent20 ?_
 refine .cons ent21 ?_
 refine .cons ent22 ?_
 refine .cons ent24 ?_
 refine .cons ent25 ?_
 refine .cons ent26 ?_
 refine .cons ent27 ?_
 refine .cons ent28 ?_
 refine .cons ent29 ?_
 refine .cons ent30 ?_
 refine .cons ent31 ?_
 refine .cons ent32 ?_
 refine .cons ent33 ?_
 refine .cons ent34 ?_
 refine .cons ent35 ?_
 refine .cons ent36 ?_
 refine .cons ent37 ?_
 refine .cons ent38 ?_
 refine .cons ent39 ?_
 refine .cons ent40 ?_
 refine .cons ent41 ?_
 refine .cons ent42 ?_
 refine .cons ent43 ?_
 refine .cons ent44 ?_
 refine .cons ent45 ?_
 refine .cons ent46 ?_
 refine .cons ent47 ?_
 refine .cons ent48 ?_
 refine .cons ent49 ?_
 refine .cons ent50 ?_
 refine .cons ent52 ?_
 refine .cons ent53 ?_
 refine .cons ent54 ?_
 refine .cons ent55 ?_
 refine .cons ent56 ?_
 refine .cons ent57 ?_
 refine .cons ent58 ?_
 refine .cons ent59 ?_
 refine .cons ent60 ?_
 refine .cons ent61 ?_
 refine .cons ent62 ?_
 refine .cons ent65 ?_
 refine .cons ent66 ?_
 refine .cons ent67 ?_
 refine .cons ent68 ?_
 refine .cons ent69 ?_
 refine .cons ent70 ?_
 refine .cons ent71 ?_
 refine .cons ent72 ?_
 refine .cons ent73 ?_
 refine .cons ent74 ?_
 refine .cons ent75 ?_
 refine .cons ent76 ?_
 refine .cons ent77 ?_
 refine .cons ent78 ?_
 refine .cons ent79 ?_
 refine .cons ent82 ?_
 refine .cons ent83 ?_
 refine .cons ent84 ?_
 refine .cons ent85 ?_
 refine .cons ent86 ?_
 refine .cons ent87 ?_
 refine .cons ent91 ?_
 refine .cons ent92 ?_
 refine .cons ent93 ?_
 refine .cons ent94 ?_
 refine .cons ent95 ?_
 refine .cons ent96 ?_
 refine .cons ent97 ?_
 refine .cons ent101 ?_
 refine .cons ent102 ?_
 refine .cons ent103 ?_
 refine .cons ent104 ?_
 refine .cons ent105 ?_
 refine .cons ent106 ?_
 refine .cons ent107 ?_
 refine .cons ent108 ?_
 refine .cons ent110 ?_
 refine .cons ent112 ?_
 refine .cons ent115 ?_
 refine .cons ent117 ?_
 refine .cons ent119 ?_
 refine .cons ent120 ?_
 refine .cons ent121 ?_
 refine .cons ent123 ?_
 refine .cons ent124 ?_
 refine .cons ent125 ?_
 refine .cons ent126 ?_
 refine .cons ent130 ?_
 refine .cons ent133 ?_
 refine .cons ent134 ?_
 refine .cons ent135 ?_
 refine .cons ent136 ?_
 refine .cons ent137 ?_
 refine .cons ent139 ?_
 refine .cons ent140 ?_
 refine .cons ent141 ?_
 refine .cons ent142 ?_
 refine .cons ent143 ?_
 refine .cons ent144 ?_
 refine .cons ent146 ?_
 refine .cons ent148 ?_
 refine .cons ent149 ?_
 refine .cons ent150 ?_
 refine .cons ent151 ?_
 refine .cons ent153 ?_
 refine .cons ent154 ?_
 refine .cons ent155 ?_
 refine .cons ent156 ?_
 refine .cons ent157 ?_
 refine .cons ent158 ?_
 refine .cons ent159 ?_
 refine .cons ent160 ?_
 refine .cons ent162 ?_
 refine .cons ent170 ?_
 refine .cons ent171 ?_
 refine .cons ent173 ?_
 refine .cons ent174 ?_
 refine .cons ent175 ?_
 refine .cons ent176 ?_
 refine .cons ent182 ?_
 refine .cons ent183 ?_
 refine .cons ent184 ?_
 refine .cons ent185 ?_
 refine .cons ent186 ?_
 refine .cons ent187 ?_
 refine .cons ent189 ?_
 refine .cons ent194 ?_
 refine .cons ent199 ?_
 refine .cons ent200 ?_
 refine .cons ent201 ?_
 refine .cons ent203 ?_
 refine .cons ent205 ?_
 refine .cons ent206 ?_
 refine .cons ent207 ?_
 refine .cons ent208 ?_
 refine .cons ent209 ?_
 refine .cons ent210 ?_
 refine .cons ent211 ?_
 refine .cons ent212 ?_
 refine .cons ent213 ?_
 refine .cons ent214 ?_
 refine .cons ent215 ?_
 refine .cons ent216 ?_
 refine .cons ent219 ?_
 refine .cons ent220 ?_
 refine .cons ent221 ?_
 refine .cons ent222 ?_
 refine .cons ent223 ?_
 refine .cons ent224 ?_
 refine .cons ent225 ?_
 refine .cons ent227 ?_
 refine .cons ent228 ?_
 refine .cons ent231 ?_
 refine .cons ent236 ?_
 refine .cons ent241 ?_
 refine .cons ent245 ?_
 refine .cons ent247 ?_
 refine .cons ent248 ?_
 refine .cons ent249 ?_
 refine .cons ent251 ?_
 refine .cons ent252 ?_
 refine .cons ent257 ?_
 refine .cons ent258 ?_
 refine .cons ent260 ?_
 refine .cons ent261 ?_
 refine .cons ent262 ?_
 refine .cons ent263 ?_
 refine .cons ent264 ?_
 refine .cons ent265 ?_
 refine .cons ent266 ?_
 refine .cons ent268 ?_
 refine .cons ent269 ?_
 refine .cons ent270 ?_
 refine .cons ent271 ?_
 refine .cons ent273 ?_
 refine .cons ent274 ?_
 refine .cons ent275 ?_
 refine .cons ent276 ?_
 refine .cons ent289 ?_
 refine .cons ent293 ?_
 refine .cons ent294 ?_
 refine .cons ent295 ?_
 refine .cons ent296 ?_
 refine .cons ent297 ?_
 refine .cons ent298 ?_
 refine .cons ent302 ?_
 refine .cons ent303 ?_
 refine .cons ent304 ?_
 refine .cons ent305 ?_
 refine .cons ent306 ?_
 refine .cons ent307 ?_
 refine .cons ent308 ?_
 refine .cons ent310 ?_
 refine .cons ent311 ?_
 refine .cons ent312 ?_
 refine .cons ent314 ?_
 refine .cons ent315 ?_
 refine .cons ent317 ?_
 refine .cons ent318 ?_
 refine .cons ent319 ?_
 refine .cons ent320 ?_
 refine .cons ent321 ?_
 refine .cons ent322 ?_
 refine .cons ent325 ?_
 refine .cons ent327 ?_
 refine .cons ent328 ?_
 refine .cons ent329 ?_
 refine .cons ent330 ?_
 refine .cons ent331 ?_
 refine .cons ent333 ?_
 refine .cons ent334 ?_
 refine .cons ent335 ?_
 refine .cons ent336 ?_
 refine .cons ent339 ?_
 refine .cons ent340 ?_
 refine .cons ent341 ?_
 refine .cons ent342 ?_
 refine .cons ent343 ?_
 refine .cons ent347 ?_
 refine .cons ent348 ?_
 refine .cons ent349 ?_
 refine .cons ent350 ?_
 refine .cons ent352 ?_
 refine .cons ent353 ?_
 refine .cons ent354 ?_
 exact .nil)
theorem tab_ok : (tabOf tabL).OK Tryz.prog := tabOf_ok ents_ok
end Go.Proofs.YtojfdejpoideaaaGreat

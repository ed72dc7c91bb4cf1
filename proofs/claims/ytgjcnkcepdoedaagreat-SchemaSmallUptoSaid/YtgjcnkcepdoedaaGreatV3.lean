/- A part of the proof of the claim (no condition of its own). -/
import Derived.Test.YtgjcnkcepdoedaaGreatV2
set_option linter.unusedVariables false
namespace Go.Proofs.YtgjcnkcepdoedaaGreat
open Go.AL
def v253 : ACode :=
(.seq
 (.reg [y9 2,
 x5 3 0,
 x5 4 0])
 (.seq
 (.seq
 (.reg [mv 9 0,
 y1 10 9,
 oo 11 (.bin .int .gtr (.t 10) (.c (.int .i64 1024)))])
 (.cond (.t 11)
 (.seq
 (.reg [y9 2,
 x5 3 0,
 x5 4 2])
 .ret)
 .skip))
 (.seq
 (.seq
 (.reg [mv 12 0,
 y1 13 12,
 x5 14 0])
 (.block 0
 (.loop
 (.seq
 (.reg [x9 15 14 13])
 (.seq
 (.cond (.t 15)
 .skip
 (.exit 0))
 (.seq
 (.block 1
 (.seq
 (.reg [mv 16 14,
 x8 17 5 12 14,
 x4 18 5 17,
 oo 6 (.new 116 (.c (.agg [(.str ⟨#[]⟩), (.int .i64 0), (.int .i64 0), (.int .i64 0), (.int .i64 0)]))),
 mv 5 16,
 x3 5 6 18])
 (.seq
 (.reg [x4 19 5 6,
 y5 20 296 19,
 oo 21 (.not (.t 20))])
 (.cond (.t 21)
 (.seq
 (.reg [mv 22 5,
 y9 2,
 mv 3 22,
 x5 4 1])
 .ret)
 .skip))))
 (.reg [x6 23 14 1,
 mv 14 23])))))))
 (.seq
 (.reg [mv 24 0,
 oo 25 (.build [(.int .i64 0), (.int .i64 0)] []),
 z8 26 322 2 25,
 mv 27 0,
 y1 28 27,
 oo 29 (.mkslice 322 2 16 [(.int .i64 0), (.int .i64 0)] (.t 28) (.t 28)),
 oo 30 (.build [.nils, .nils, .nils, .nils] [(0, 1, (.t 24)), (2, 1, (.t 26)), (3, 1, (.t 29))]),
 y8 31 417 30,
 mv 7 31])
 (.seq
 (.seq
 (.reg [mv 32 0,
 y1 33 32,
 x5 34 0])
 (.block 2
 (.loop
 (.seq
 (.reg [x9 35 34 33])
 (.seq
 (.cond (.t 35)
 .skip
 (.exit 2))
 (.seq
 (.block 3
 (.seq
 (.reg [mv 36 34,
 mv 8 36])
 (.seq
 (.reg [mv 37 7,
 mv 38 8,
 y2 39 297 37 38,
 oo 40 (.not (.t 39))])
 (.cond (.t 40)
 (.seq
 (.reg [mv 41 8,
 y9 2,
 mv 3 41,
 x5 4 50])
 .ret)
 .skip))))
 (.reg [x6 42 34 1,
 mv 34 42])))))))
 (.seq
 (.block 4
 (.loop
 (.seq
 (.seq
 (.reg [mv 43 7,
 y3 44 43,
 x2 45 1 44,
 x1 46 45,
 y1 47 46,
 oo 48 (.bin .int .gtr (.t 47) (.c (.int .i64 0)))])
 (.cond (.t 48)
 .skip
 (.exit 4)))
 (.block 5
 (.reg [mv 49 7,
 y5 50 298 49])))))
 (.seq
 (.reg [mv 51 7,
 y3 52 51,
 x2 53 3 52,
 x1 54 53,
 mv 2 54,
 x5 3 0,
 x5 4 0])
 .ret)))))))
theorem ent253 : EntOK Tryz.prog 253 ⟨55, v253, [.slot 2, .slot 3, .slot 4]⟩ := fun args σ K ha h =>
 enter (own := List.range 55) Tryz.func253 (by kernel_rfl) (by kernel_rfl) (by kernel_rfl) ha h
def v254 : ACode :=
(.seq
 (.reg [oo 2 (.move (.c (.str ⟨#[]⟩)))])
 (.seq
 (.seq
 (.reg [mv 3 0])
 (.block 0
 (.seq
 (.reg [x7 5 3 1,
 mv 4 5])
 (.cond (.t 4)
 (.seq
 (.reg [oo 2 (.move (.c (.str ⟨#[43]⟩)))])
 .ret)
 (.seq
 (.reg [x7 7 3 2,
 mv 6 7])
 (.cond (.t 6)
 (.seq
 (.reg [oo 2 (.move (.c (.str ⟨#[45]⟩)))])
 .ret)
 (.seq
 (.reg [x7 9 3 3,
 mv 8 9])
 (.cond (.t 8)
 (.seq
 (.reg [oo 2 (.move (.c (.str ⟨#[42]⟩)))])
 .ret)
 (.seq
 (.reg [x7 11 3 4,
 mv 10 11])
 (.cond (.t 10)
 (.seq
 (.reg [oo 2 (.move (.c (.str ⟨#[47]⟩)))])
 .ret)
 (.seq
 (.reg [x7 13 3 5,
 mv 12 13])
 (.cond (.t 12)
 (.seq
 (.reg [oo 2 (.move (.c (.str ⟨#[37]⟩)))])
 .ret)
 (.seq
 (.reg [x7 15 3 6,
 mv 14 15])
 (.cond (.t 14)
 (.seq
 (.reg [oo 2 (.move (.c (.str ⟨#[61, 61]⟩)))])
 .ret)
 (.seq
 (.reg [x7 17 3 7,
 mv 16 17])
 (.cond (.t 16)
 (.seq
 (.reg [oo 2 (.move (.c (.str ⟨#[47, 61]⟩)))])
 .ret)
 (.seq
 (.reg [x7 19 3 8,
 mv 18 19])
 (.cond (.t 18)
 (.seq
 (.reg [oo 2 (.move (.c (.str ⟨#[60]⟩)))])
 .ret)
 (.seq
 (.reg [x7 21 3 9,
 mv 20 21])
 (.cond (.t 20)
 (.seq
 (.reg [oo 2 (.move (.c (.str ⟨#[60, 61]⟩)))])
 .ret)
 (.seq
 (.reg [x7 23 3 10,
 mv 22 23])
 (.cond (.t 22)
 (.seq
 (.reg [oo 2 (.move (.c (.str ⟨#[62]⟩)))])
 .ret)
 (.seq
 (.reg [x7 25 3 11,
 mv 24 25])
 (.cond (.t 24)
 (.seq
 (.reg [oo 2 (.move (.c (.str ⟨#[62, 61]⟩)))])
 .ret)
 .skip))))))))))))))))))))))))
 (.seq
 (.reg [oo 2 (.move (.c (.str ⟨#[]⟩)))])
 .ret)))
theorem ent254 : EntOK Tryz.prog 254 ⟨26, v254, [.slot 2]⟩ := fun args σ K ha h =>
 enter (own := List.range 26) Tryz.func254 (by kernel_rfl) (by kernel_rfl) (by kernel_rfl) ha h
def v255 : ACode :=
(.seq
 (.reg [y8 3 256 0,
 y8 5 122 2])
 (.seq
 (.reg [y9 6])
 (.seq
 (.seq
 (.reg [mv 9 1,
 y1 10 9,
 x5 11 0])
 (.block 0
 (.loop
 (.seq
 (.reg [x9 12 11 10])
 (.seq
 (.cond (.t 12)
 .skip
 (.exit 0))
 (.seq
 (.block 1
 (.seq
 (.reg [x8 13 6 9 11,
 x4 14 6 13,
 oo 8 (.new 187 (.c (.agg [(.int .i64 0), (.str ⟨#[]⟩), (.int .i64 0), .nils, (.int .i64 0), (.int .i64 0)]))),
 x3 6 8 14])
 (.reg [x1 15 3,
 x4 16 6 8,
 mv 17 6,
 oo 18 (.call 299 [(.t 15), (.t 16), (.t 17)]),
 mv 6 18])))
 (.reg [x6 19 11 1,
 mv 11 19])))))))
 (.reg [x1 20 3,
 mv 21 6,
 oo 22 (.mkfn (.func 300) [] [(.t 3), (.t 5)]),
 oo 23 (.call 200 [(.t 20), (.t 21), (.t 22)])]))))
theorem ent255 : EntOK Tryz.prog 255 ⟨24, v255, []⟩ := fun args σ K ha h =>
 enter (own := List.range 24) Tryz.func255 (by kernel_rfl) (by kernel_rfl) (by kernel_rfl) ha h
def v256 : ACode :=
(.seq
 (.reg [mv 8 1,
 y1 9 8,
 x5 10 0])
 (.block 0
 (.loop
 (.seq
 (.reg [x9 11 10 9])
 (.seq
 (.cond (.t 11)
 .skip
 (.exit 0))
 (.seq
 (.block 1
 (.seq
 (.reg [x8 12 4 8 10,
 x4 13 4 12,
 oo 5 (.new 120 (.c (.agg [(.str ⟨#[]⟩), .nils, (.int .i64 0), (.int .i64 0)]))),
 x3 4 5 13])
 (.seq
 (.reg [x2 14 1 5,
 x1 15 14,
 y1 16 15,
 x5 17 0])
 (.block 2
 (.loop
 (.seq
 (.reg [x9 18 17 16])
 (.seq
 (.cond (.t 18)
 .skip
 (.exit 2))
 (.seq
 (.block 3
 (.seq
 (.reg [x8 19 2 15 17,
 x4 20 2 19,
 oo 7 (.new 124 q3),
 x3 2 7 20])
 (.reg [mv 21 0,
 x2 22 0 7,
 x1 23 22,
 x2 24 1 7,
 x1 25 24,
 oo 26 (.call 302 [(.t 21), (.t 23), (.t 25)])])))
 (.reg [x6 27 17 1,
 mv 17 27])))))))))
 (.reg [x6 28 10 1,
 mv 10 28])))))))
theorem ent256 : EntOK Tryz.prog 256 ⟨29, v256, []⟩ := fun args σ K ha h =>
 enter (own := List.range 29) Tryz.func256 (by kernel_rfl) (by kernel_rfl) (by kernel_rfl) ha h
def v257 : ACode :=
(.seq
 (.reg [x5 2 0])
 (.seq
 (.seq
 (.reg [mv 7 0,
 y1 8 7,
 oo 9 (.bin .int .gtr (.t 8) (.c (.int .i64 2048)))])
 (.cond (.t 9)
 (.seq
 (.reg [x5 2 2])
 .ret)
 .skip))
 (.seq
 (.seq
 (.reg [mv 10 0,
 y1 11 10,
 x5 12 0])
 (.block 0
 (.loop
 (.seq
 (.reg [x9 13 12 11])
 (.seq
 (.cond (.t 13)
 .skip
 (.exit 0))
 (.seq
 (.block 1
 (.seq
 (.reg [x8 14 1 10 12,
 x1 15 14,
 mv 4 15])
 (.seq
 (.reg [mv 16 4,
 y1 17 16,
 x5 18 0])
 (.block 2
 (.loop
 (.seq
 (.reg [x9 19 18 17])
 (.seq
 (.cond (.t 19)
 .skip
 (.exit 2))
 (.seq
 (.block 3
 (.seq
 (.reg [x8 20 1 16 18,
 x1 21 20,
 mv 6 21])
 (.seq
 (.reg [mv 22 6,
 oo 23 (.bin .int .lss (.t 22) (.c (.int .i64 0))),
 mv 24 23,
 z5 25 24 6,
 z5 26 24 0,
 og 27 24 false (.len .slice (.t 26)),
 og 28 24 false (.bin .int .geq (.t 25) (.t 27)),
 y4 29 24 28])
 (.cond (.t 29)
 (.seq
 (.reg [x5 2 1])
 .ret)
 .skip))))
 (.reg [x6 30 18 1,
 mv 18 30])))))))))
 (.reg [x6 31 12 1,
 mv 12 31])))))))
 (.seq
 (.reg [x5 2 0])
 .ret))))
theorem ent257 : EntOK Tryz.prog 257 ⟨32, v257, [.slot 2]⟩ := fun args σ K ha h =>
 enter (own := List.range 32) Tryz.func257 (by kernel_rfl) (by kernel_rfl) (by kernel_rfl) ha h
def v258 : ACode :=
(.seq
 (.reg [y9 2,
 x5 3 0])
 (.seq
 (.reg [mv 7 0,
 y1 8 7,
 mv 4 8])
 (.seq
 (.perm [([⟨(some 9), .move (.t 0), none⟩], []),
 ([⟨(some 10), .move (.t 4), none⟩], []),
 ([⟨(some 12), .move (.t 4), none⟩], []),
 ([⟨(some 14), .move (.t 4), none⟩], []),
 ([⟨(some 16), .move (.t 4), none⟩], [])] [(2, [⟨(some 11), .mkslice 3 1 8 [(.int .i64 0)] (.t 10) (.t 10), none⟩], []),
 (4, [⟨(some 13), .mkslice 3 1 8 [(.int .i64 0)] (.t 12) (.t 12), none⟩], []),
 (6, [⟨(some 15), .mkslice 4 1 1 [(.bool false)] (.t 14) (.t 14), none⟩], []),
 (8, [⟨(some 17), .mkslice 3 1 8 [(.int .i64 0)] (.t 16) (.t 16), none⟩], [])] [([⟨(some 18), .build [.nils, .nils, .nils, .nils, .nils, .nils, (.int .i64 0), (.int .i64 0)] [(0, 1, (.t 9)), (1, 1, (.t 11)), (2, 1, (.t 13)), (4, 1, (.t 15)), (5, 1, (.t 17))], none⟩], []),
 ([⟨(some 19), .new 422 (.t 18), none⟩], []),
 ([⟨(some 5), .move (.t 19), none⟩], [])])
 (.seq
 (.seq
 (.reg [mv 20 0,
 y1 21 20,
 x5 22 0])
 (.block 0
 (.loop
 (.seq
 (.reg [x9 23 22 21])
 (.seq
 (.cond (.t 23)
 .skip
 (.exit 0))
 (.seq
 (.block 1
 (.seq
 (.reg [mv 24 22,
 mv 6 24])
 (.seq
 (.reg [mv 25 5,
 y3 26 25,
 x2 27 1 26,
 x1 28 27,
 mv 29 6,
 x8 30 1 28 29,
 x1 31 30,
 x7 32 31 0])
 (.cond (.t 32)
 (.reg [mv 33 5,
 mv 34 6,
 y2 35 303 33 34])
 .skip))))
 (.reg [x6 36 22 1,
 mv 22 36])))))))
 (.seq
 (.reg [mv 37 5,
 y3 38 37,
 x2 39 5 38,
 x1 40 39,
 mv 41 5,
 y3 42 41,
 x2 43 7 42,
 x1 44 43,
 mv 2 40,
 mv 3 44])
 .ret)))))
theorem ent258 : EntOK Tryz.prog 258 ⟨45, v258, [.slot 2, .slot 3]⟩ := fun args σ K ha h =>
 enter (own := List.range 45) Tryz.func258 (by kernel_rfl) (by kernel_rfl) (by kernel_rfl) ha h
def v259 : ACode :=
(.seq
 (.reg [x5 8 0])
 (.seq
 (.seq
 (.reg [mv 11 0,
 y1 12 11,
 x5 13 0])
 (.block 0
 (.loop
 (.seq
 (.reg [x9 14 13 12])
 (.seq
 (.cond (.t 14)
 .skip
 (.exit 0))
 (.seq
 (.block 1
 (.seq
 (.reg [mv 15 13,
 mv 9 15])
 (.seq
 (.reg [mv 16 1,
 mv 17 9,
 x8 18 1 16 17,
 x1 19 18,
 mv 10 19])
 (.seq
 (.reg [mv 20 3,
 mv 21 10,
 x8 22 1 20 21,
 x1 23 22,
 oo 24 (.not (.t 23)),
 mv 25 24,
 z6 26 25 2,
 z6 27 25 10,
 og 28 25 true (.iaddr 1 (.t 26) (.t 27)),
 z4 29 25 28,
 og 30 25 true (.iaddr 1 (.t 29) (.c (.int .i64 0))),
 z4 31 25 30,
 z6 32 25 9,
 og 33 25 true (.bin .int .eql (.t 31) (.t 32)),
 y7 34 25 33,
 mv 35 34,
 z6 36 35 0,
 z6 37 35 1,
 z6 38 35 2,
 z6 39 35 10,
 og 40 35 true (.iaddr 1 (.t 38) (.t 39)),
 z4 41 35 40,
 z6 42 35 3,
 og 43 35 true (.call 304 [(.t 36), (.t 37), (.t 41), (.t 42)]),
 y7 44 35 43])
 (.cond (.t 44)
 (.seq
 (.reg [mv 45 10,
 mv 8 45])
 .ret)
 .skip)))))
 (.reg [x6 46 13 1,
 mv 13 46])))))))
 (.seq
 (.reg [x5 8 0])
 .ret)))
theorem ent259 : EntOK Tryz.prog 259 ⟨47, v259, [.slot 8]⟩ := fun args σ K ha h =>
 enter (own := List.range 47) Tryz.func259 (by kernel_rfl) (by kernel_rfl) (by kernel_rfl) ha h
def v260 : ACode :=
(.seq
 (.reg [oo 2 (.new 137 (.c (.agg [(.int .i64 0), (.int .i64 0), (.str ⟨#[]⟩), .nils])))])
 (.seq
 (.seq
 (.reg [mv 4 0,
 oo 5 (.nileq .ptr false (.t 4) (.c .nilp))])
 (.cond (.t 5)
 (.seq
 (.reg [oo 6 (.call 102 [(.c (.int .i64 0))]),
 x3 4 2 6])
 .ret)
 .skip))
 (.seq
 (.reg [mv 7 0,
 y3 8 7,
 x2 9 1 8,
 x1 10 9,
 mv 3 10])
 (.seq
 (.reg [mv 11 0,
 y3 12 11,
 x2 13 1 12,
 x1 14 13,
 x6 15 14 1,
 y3 16 11,
 x2 17 1 16,
 x3 1 17 15])
 (.seq
 (.reg [mv 18 3,
 y5 19 102 18,
 x3 4 2 19])
 .ret)))))
theorem ent260 : EntOK Tryz.prog 260 ⟨20, v260, [.cell 2 (some 4)]⟩ := fun args σ K ha h =>
 enter (own := List.range 20) Tryz.func260 (by kernel_rfl) (by kernel_rfl) (by kernel_rfl) ha h
def v261 : ACode :=
(.seq
 (.reg [y8 3 187 1,
 oo 4 (.new 339 (.c (.agg [(.int .i64 0), (.int .i64 0), (.str ⟨#[]⟩), .nils, .nils, .nils]))),
 y9 5])
 (.seq
 (.seq
 (.reg [x2 16 0 3,
 x1 17 16])
 (.block 0
 (.seq
 (.reg [x7 19 17 2,
 mv 18 19])
 (.cond (.t 18)
 (.seq
 (.reg [mv 20 0,
 y3 21 20,
 x2 22 0 21,
 x1 23 22,
 y5 24 260 23,
 oo 6 (.new 137 (.c (.agg [(.int .i64 0), (.int .i64 0), (.str ⟨#[]⟩), .nils]))),
 x3 4 6 24])
 (.seq
 (.perm [([⟨(some 25), .load (some 4) (.t 6), none⟩], []),
 ([⟨(some 26), .build [(.int .i64 0), (.int .i64 0), (.str ⟨#[]⟩), .nils, .nils, .nils] [(0, 4, (.t 25))], none⟩], []),
 ([⟨(some 27), .faddr 1 (.t 3), none⟩], []),
 ([⟨(some 28), .load none (.t 27), none⟩], []),
 ([⟨(some 29), .load (some 4) (.t 6), none⟩], []),
 ([⟨(some 30), .build [.nils, (.int .i64 0), (.int .i64 0), (.str ⟨#[]⟩), .nils] [(1, 4, (.t 29))], none⟩], []),
 ([⟨(some 31), .build [(.str ⟨#[]⟩), .nils, (.int .i64 0), (.int .i64 0), (.str ⟨#[]⟩), .nils, (.bool false)] [(0, 1, (.t 28)), (1, 5, (.t 30))], none⟩], [])] [(7, [⟨(some 32), .lit true 331 7 [(.t 31)], none⟩], [⟨(some 25), .load (some 4) (.t 6), none⟩]),
 (8, [x3 6 4 26], [⟨(some 27), .faddr 1 (.t 3), none⟩, ⟨(some 28), .load none (.t 27), none⟩, ⟨(some 29), .load (some 4) (.t 6), none⟩])] [([⟨(some 5), .move (.t 32), none⟩], [])])
 .ret))
 (.seq
 (.reg [x7 34 17 3,
 mv 33 34])
 (.cond (.t 33)
 (.seq
 (.reg [oo 35 (.call 305 [(.c (.str ⟨#[73, 110, 116]⟩))]),
 oo 36 (.build [(.int .i64 0), (.int .i64 0), (.str ⟨#[]⟩), .nils, .nils, .nils] [(0, 4, (.t 35))]),
 x3 6 4 36,
 y9 5])
 .ret)
 (.seq
 (.reg [x7 38 17 4,
 mv 37 38])
 (.cond (.t 37)
 (.seq
 (.reg [mv 40 0,
 x2 41 1 3,
 x1 42 41,
 y2 43 306 40 42,
 mv 39 43,
 z9 44 39 0,
 z9 45 39 1,
 z9 46 39 2,
 oo 9 (.new 137 (.c (.agg [(.int .i64 0), (.int .i64 0), (.str ⟨#[]⟩), .nils]))),
 mv 7 44,
 mv 8 45,
 x3 4 9 46])
 (.seq
 (.reg [x4 47 4 9,
 mv 48 7,
 oo 49 (.build [(.int .i64 0), (.int .i64 0), (.str ⟨#[]⟩), .nils, .nils, .nils] [(0, 4, (.t 47)), (4, 1, (.t 48))]),
 oo 10 (.new 339 (.c (.agg [(.int .i64 0), (.int .i64 0), (.str ⟨#[]⟩), .nils, .nils, .nils]))),
 x3 6 10 49])
 (.seq
 (.reg [y9 11])
 (.seq
 (.seq
 (.reg [x2 50 3 3,
 x1 51 50,
 y1 52 51,
 x5 53 0])
 (.block 1
 (.loop
 (.seq
 (.reg [x9 54 53 52])
 (.seq
 (.cond (.t 54)
 .skip
 (.exit 1))
 (.seq
 (.block 2
 (.seq
 (.reg [mv 55 53,
 x8 56 6 51 53,
 x4 57 6 56,
 oo 13 (.new 187 (.c (.agg [(.int .i64 0), (.str ⟨#[]⟩), (.int .i64 0), .nils, (.int .i64 0), (.int .i64 0)]))),
 mv 12 55,
 x3 6 13 57])
 (.seq
 (.reg [mv 59 0,
 x4 60 6 13,
 y2 61 261 59 60,
 mv 58 61,
 z9 62 58 0,
 z9 63 58 1,
 oo 14 (.new 339 (.c (.agg [(.int .i64 0), (.int .i64 0), (.str ⟨#[]⟩), .nils, .nils, .nils]))),
 x3 6 14 62,
 mv 15 63])
 (.seq
 (.reg [mv 64 0,
 x2 65 0 14,
 x4 66 4 65,
 mv 67 8,
 mv 68 12,
 x8 69 4 67 68,
 x4 70 4 69,
 x2 71 4 13,
 x4 72 2 71,
 oo 73 (.call 262 [(.t 64), (.t 66), (.t 70), (.t 72)])])
 (.seq
 (.reg [x2 74 5 10,
 x1 75 74,
 x4 76 6 14,
 z8 77 339 6 76,
 z7 78 339 6 104 75 77,
 x2 79 5 10,
 x3 1 79 78])
 (.reg [mv 80 11,
 mv 81 15,
 z7 82 331 7 104 80 81,
 mv 11 82]))))))
 (.reg [x6 83 53 1,
 mv 53 83])))))))
 (.seq
 (.reg [x4 84 6 10,
 mv 85 11,
 x3 6 4 84,
 mv 5 85])
 .ret)))))
 .skip))))))))
 (.seq
 (.reg [mv 86 0,
 y3 87 86,
 x2 88 0 87,
 x1 89 88,
 y5 90 260 89,
 oo 91 (.build [(.int .i64 0), (.int .i64 0), (.str ⟨#[]⟩), .nils, .nils, .nils] [(0, 4, (.t 90))]),
 x3 6 4 91,
 y9 5])
 .ret)))
theorem ent261 : EntOK Tryz.prog 261 ⟨92, v261, [.cell 4 (some 6), .slot 5]⟩ := fun args σ K ha h =>
 enter (own := List.range 92) Tryz.func261 (by kernel_rfl) (by kernel_rfl) (by kernel_rfl) ha h
def v262 : ACode :=
(.seq
 (.reg [y8 5 137 1,
 y8 6 137 2,
 y8 7 64 3])
 (.seq
 (.seq
 (.reg [mv 9 0,
 y3 10 9,
 x2 11 3 10,
 x1 12 11])
 (.cond (.t 12)
 .ret
 .skip))
 (.seq
 (.reg [mv 13 0,
 y3 14 13,
 x2 15 0 14,
 x1 16 15,
 x4 17 4 5,
 x4 18 4 6,
 oo 19 (.call 307 [(.t 16), (.t 17), (.t 18)]),
 mv 8 19])
 (.seq
 (.reg [mv 20 8,
 oo 21 (.bin .int .neq (.t 20) (.c (.int .i64 0)))])
 (.cond (.t 21)
 (.reg [mv 22 0,
 mv 23 8,
 x4 24 2 7,
 oo 25 (.call 212 [(.t 22), (.t 23), (.t 24)])])
 .skip)))))
theorem ent262 : EntOK Tryz.prog 262 ⟨26, v262, []⟩ := fun args σ K ha h =>
 enter (own := List.range 26) Tryz.func262 (by kernel_rfl) (by kernel_rfl) (by kernel_rfl) ha h
def v263 : ACode :=
(.seq
 (.reg [y8 3 137 1,
 oo 4 (.new 137 (.c (.agg [(.int .i64 0), (.int .i64 0), (.str ⟨#[]⟩), .nils])))])
 (.seq
 (.seq
 (.reg [mv 6 0,
 y1 7 6,
 oo 8 (.bin .int .sub (.t 7) (.c (.int .i64 1))),
 mv 5 8])
 (.block 0
 (.loop
 (.seq
 (.seq
 (.reg [mv 9 5,
 oo 10 (.bin .int .geq (.t 9) (.c (.int .i64 0)))])
 (.cond (.t 10)
 .skip
 (.exit 0)))
 (.seq
 (.block 1
 (.reg [mv 13 0,
 mv 14 5,
 x8 15 4 13 14,
 x4 16 4 15,
 x4 17 4 3,
 y2 18 308 16 17,
 x3 4 3 18]))
 (.reg [mv 11 5,
 oo 12 (.bin .int .sub (.t 11) (.c (.int .i64 1))),
 mv 5 12]))))))
 (.seq
 (.reg [x4 19 4 3,
 x3 4 4 19])
 .ret)))
theorem ent263 : EntOK Tryz.prog 263 ⟨20, v263, [.cell 4 (some 4)]⟩ := fun args σ K ha h =>
 enter (own := List.range 20) Tryz.func263 (by kernel_rfl) (by kernel_rfl) (by kernel_rfl) ha h
def v264 : ACode :=
(.reg [x1 4 0,
 x2 5 1 1,
 x1 6 5,
 x4 7 4 2,
 oo 8 (.call 265 [(.t 4), (.t 6), (.t 7)]),
 x2 9 1 3,
 x3 1 9 8])
theorem ent264 : EntOK Tryz.prog 264 ⟨10, v264, []⟩ := fun args σ K ha h =>
 enter (own := List.range 10) Tryz.func264 (by kernel_rfl) (by kernel_rfl) (by kernel_rfl) ha h
def v265 : ACode :=
(.seq
 (.reg [y8 5 137 2,
 y9 6])
 (.seq
 (.reg [y9 7])
 (.seq
 (.seq
 (.reg [mv 14 1,
 y1 15 14,
 x5 16 0])
 (.block 0
 (.loop
 (.seq
 (.reg [x9 17 16 15])
 (.seq
 (.cond (.t 17)
 .skip
 (.exit 0))
 (.seq
 (.block 1
 (.seq
 (.reg [x8 18 10 14 16,
 x4 19 10 18,
 oo 9 (.new 195 (.c (.agg [.nils, (.int .i64 0), (.str ⟨#[]⟩), (.int .i64 0), .nils, .nils, .nils, .nils, (.int .i64 0), (.int .i64 0)]))),
 x3 10 9 19])
 (.seq
 (.reg [oo 10 (.new 345 (.c (.agg [.nils, (.int .i64 0), (.int .i64 0), (.str ⟨#[]⟩), .nils, .nils, .nils, .nils, .nils])))])
 (.seq
 (.seq
 (.reg [x2 20 0 9,
 x1 21 20,
 y1 22 21,
 x5 23 0])
 (.block 2
 (.loop
 (.seq
 (.reg [x9 24 23 22])
 (.seq
 (.cond (.t 24)
 .skip
 (.exit 2))
 (.seq
 (.block 3
 (.seq
 (.reg [x8 25 9 21 23,
 x4 26 9 25,
 oo 12 (.new 193 (.c (.agg [(.int .i64 0), (.str ⟨#[]⟩), (.int .i64 0), .nils, .nils, .nils, .nils, (.int .i64 0), (.int .i64 0)]))),
 x3 9 12 26])
 (.seq
 (.reg [mv 27 0,
 x4 28 9 12,
 y2 29 309 27 28,
 oo 13 (.new 343 (.c (.agg [(.int .i64 0), (.int .i64 0), (.str ⟨#[]⟩), .nils, .nils, .nils, .nils, .nils]))),
 x3 8 13 29])
 (.seq
 (.draw [] [([⟨(some 30), .move (.t 0), none⟩], []),
 ([⟨(some 31), .faddr 0 (.t 13), none⟩], []),
 ([⟨(some 32), .load (some 4) (.t 31), none⟩], []),
 ([⟨(some 34), .faddr 7 (.t 12), none⟩], []),
 ([⟨(some 35), .load (some 2) (.t 34), none⟩], []),
 ([⟨(some 33), .call 305 [(.c (.str ⟨#[66, 111, 111, 108]⟩))], none⟩], [⟨(some 31), .faddr 0 (.t 13), none⟩, ⟨(some 32), .load (some 4) (.t 31), none⟩, ⟨(some 34), .faddr 7 (.t 12), none⟩, ⟨(some 35), .load (some 2) (.t 34), none⟩]),
 ([⟨(some 36), .call 262 [(.t 30), (.t 32), (.t 33), (.t 35)], none⟩], [])])
 (.reg [x2 37 0 10,
 x1 38 37,
 x4 39 8 13,
 z8 40 343 8 39,
 z7 41 343 8 152 38 40,
 x2 42 0 10,
 x3 1 42 41])))))
 (.reg [x6 43 23 1,
 mv 23 43])))))))
 (.seq
 (.reg [mv 44 0,
 x2 45 1 9,
 x4 46 9 45,
 y2 47 309 44 46,
 x2 48 1 10,
 x3 8 48 47])
 (.seq
 (.reg [mv 49 0,
 x2 50 1 10,
 x2 51 0 50,
 x4 52 4 51,
 x4 53 4 5,
 x2 54 1 9,
 x2 55 7 54,
 x4 56 2 55,
 oo 57 (.call 262 [(.t 49), (.t 52), (.t 53), (.t 56)])])
 (.reg [mv 58 7,
 x4 59 9 10,
 z8 60 345 9 59,
 z7 61 345 9 176 58 60,
 mv 7 61])))))))
 (.reg [x6 62 16 1,
 mv 16 62])))))))
 (.seq
 (.reg [mv 63 7,
 mv 6 63])
 .ret))))
theorem ent265 : EntOK Tryz.prog 265 ⟨64, v265, [.slot 6]⟩ := fun args σ K ha h =>
 enter (own := List.range 64) Tryz.func265 (by kernel_rfl) (by kernel_rfl) (by kernel_rfl) ha h
def v267 : ACode :=
(.seq
 (.reg [y8 3 137 1])
 (.seq
 (.seq
 (.reg [x2 6 0 3,
 x1 7 6,
 x7 8 7 1])
 (.cond (.t 8)
 (.reg [mv 9 0,
 mv 10 0,
 y3 11 10,
 x2 12 1 11,
 x1 13 12,
 x2 14 1 3,
 x1 15 14,
 x6 16 15 1,
 oo 17 (.max2 (.t 13) (.t 16)),
 y3 18 9,
 x2 19 1 18,
 x3 1 19 17])
 .skip))
 (.seq
 (.reg [x2 20 3 3,
 x1 21 20,
 y1 22 21,
 x5 23 0])
 (.block 0
 (.loop
 (.seq
 (.reg [x9 24 23 22])
 (.seq
 (.cond (.t 24)
 .skip
 (.exit 0))
 (.seq
 (.block 1
 (.seq
 (.reg [x8 25 4 21 23,
 x4 26 4 25,
 oo 5 (.new 137 (.c (.agg [(.int .i64 0), (.int .i64 0), (.str ⟨#[]⟩), .nils]))),
 x3 4 5 26])
 (.reg [mv 27 0,
 x4 28 4 5,
 y2 29 267 27 28])))
 (.reg [x6 30 23 1,
 mv 23 30])))))))))
theorem ent267 : EntOK Tryz.prog 267 ⟨31, v267, []⟩ := fun args σ K ha h =>
 enter (own := List.range 31) Tryz.func267 (by kernel_rfl) (by kernel_rfl) (by kernel_rfl) ha h
def v268 : ACode :=
(.seq
 (.reg [y8 3 137 1,
 oo 4 (.new 137 (.c (.agg [(.int .i64 0), (.int .i64 0), (.str ⟨#[]⟩), .nils])))])
 (.seq
 (.reg [mv 8 0,
 y3 9 8,
 x2 10 0 9,
 x1 11 10,
 x4 12 4 3,
 y2 13 311 11 12,
 x3 4 3 13])
 (.seq
 (.reg [mv 14 0,
 y3 15 14,
 x2 16 1 15,
 x1 17 16,
 x6 18 17 1,
 y3 19 14,
 x2 20 1 19,
 x3 1 20 18])
 (.seq
 (.reg [x2 21 0 3,
 x1 22 21,
 x2 23 1 3,
 x1 24 23,
 x2 25 2 3,
 x1 26 25,
 oo 27 (.build [(.int .i64 0), (.int .i64 0), (.str ⟨#[]⟩), .nils] [(0, 1, (.t 22)), (1, 1, (.t 24)), (2, 1, (.t 26))]),
 oo 5 (.new 137 (.c (.agg [(.int .i64 0), (.int .i64 0), (.str ⟨#[]⟩), .nils]))),
 x3 4 5 27])
 (.seq
 (.seq
 (.reg [x2 28 3 3,
 x1 29 28,
 y1 30 29,
 x5 31 0])
 (.block 0
 (.loop
 (.seq
 (.reg [x9 32 31 30])
 (.seq
 (.cond (.t 32)
 .skip
 (.exit 0))
 (.seq
 (.block 1
 (.seq
 (.reg [x8 33 4 29 31,
 x4 34 4 33,
 oo 7 (.new 137 (.c (.agg [(.int .i64 0), (.int .i64 0), (.str ⟨#[]⟩), .nils]))),
 x3 4 7 34])
 (.seq
 (.seq
 (.reg [mv 35 0,
 y3 36 35,
 x2 37 1 36,
 x1 38 37,
 oo 39 (.bin .int .gtr (.t 38) (.c (.int .i64 256)))])
 (.cond (.t 39)
 (.seq
 (.reg [oo 40 (.build [(.int .i64 0), (.int .i64 0), (.str ⟨#[]⟩), .nils] []),
 x3 4 4 40])
 .ret)
 .skip))
 (.draw [] [([⟨(some 41), .faddr 3 (.t 5), none⟩], []),
 ([⟨(some 42), .load none (.t 41), none⟩], []),
 ([⟨(some 43), .move (.t 0), none⟩], []),
 ([⟨(some 44), .load (some 4) (.t 7), none⟩], []),
 ([⟨(some 45), .call 268 [(.t 43), (.t 44)], none⟩], [⟨(some 41), .faddr 3 (.t 5), none⟩, ⟨(some 42), .load none (.t 41), none⟩]),
 ([⟨(some 46), .lit true 137 4 [(.t 45)], none⟩], [⟨(some 41), .faddr 3 (.t 5), none⟩, ⟨(some 42), .load none (.t 41), none⟩]),
 ([⟨(some 47), .append 137 4 56 (.t 42) (.t 46), none⟩], []),
 ([⟨(some 48), .faddr 3 (.t 5), none⟩], []),
 ([x3 1 48 47], [])]))))
 (.reg [x6 49 31 1,
 mv 31 49])))))))
 (.seq
 (.reg [x4 50 4 5,
 x3 4 4 50])
 .ret))))))
theorem ent268 : EntOK Tryz.prog 268 ⟨51, v268, [.cell 4 (some 4)]⟩ := fun args σ K ha h =>
 enter (own := List.range 51) Tryz.func268 (by kernel_rfl) (by kernel_rfl) (by kernel_rfl) ha h
def v269 : ACode :=
(.seq
 (.reg [y6 4])
 (.seq
 (.seq
 (.reg [mv 7 0,
 y1 8 7,
 x5 9 0])
 (.block 0
 (.loop
 (.seq
 (.reg [x9 10 9 8])
 (.seq
 (.cond (.t 10)
 .skip
 (.exit 0))
 (.seq
 (.block 1
 (.seq
 (.reg [x8 11 9 7 9,
 x4 12 9 11,
 oo 6 (.new 193 (.c (.agg [(.int .i64 0), (.str ⟨#[]⟩), (.int .i64 0), .nils, .nils, .nils, .nils, (.int .i64 0), (.int .i64 0)]))),
 x3 9 6 12])
 (.seq
 (.reg [mv 13 1,
 x4 14 9 6,
 oo 15 (.callv (.t 13) [(.t 14)]),
 oo 16 (.not (.t 15))])
 (.cond (.t 16)
 (.seq
 (.reg [y6 4])
 .ret)
 .skip))))
 (.reg [x6 17 9 1,
 mv 9 17])))))))
 (.seq
 (.reg [oo 4 (.move (.c (.bool true)))])
 .ret)))
theorem ent269 : EntOK Tryz.prog 269 ⟨18, v269, [.slot 4]⟩ := fun args σ K ha h =>
 enter (own := List.range 18) Tryz.func269 (by kernel_rfl) (by kernel_rfl) (by kernel_rfl) ha h
def v278 : ACode :=
(.seq
 (.reg [oo 4 (.new 49 q1)])
 (.seq
 (.reg [x4 6 4 1,
 oo 5 (.new 120 (.c (.agg [(.str ⟨#[]⟩), .nils, (.int .i64 0), (.int .i64 0)]))),
 x3 4 5 6])
 (.seq
 (.reg [mv 7 0,
 x2 8 1 5,
 x3 1 8 7])
 (.seq
 (.reg [x1 9 2,
 x4 10 4 5,
 oo 11 (.callv (.t 9) [(.t 10)]),
 x3 3 4 11])
 .ret))))
theorem ent278 : EntOK Tryz.prog 278 ⟨12, v278, [.cell 4 (some 3)]⟩ := fun args σ K ha h =>
 enter (own := List.range 12) Tryz.func278 (by kernel_rfl) (by kernel_rfl) (by kernel_rfl) ha h
def v281 : ACode :=
(.seq
 (.reg [y8 4 121 1,
 y8 5 402 2])
 (.seq
 (.reg [x1 8 4,
 y1 9 8,
 x5 10 0])
 (.block 0
 (.loop
 (.seq
 (.reg [x9 11 10 9])
 (.seq
 (.cond (.t 11)
 .skip
 (.exit 0))
 (.seq
 (.block 1
 (.seq
 (.reg [mv 12 10,
 x8 13 6 8 10,
 x4 14 6 13,
 oo 6 (.new 3 (.c (.int .i64 0))),
 oo 7 (.new 187 (.c (.agg [(.int .i64 0), (.str ⟨#[]⟩), (.int .i64 0), .nils, (.int .i64 0), (.int .i64 0)]))),
 x3 1 6 12,
 x3 6 7 14])
 (.reg [mv 15 0,
 x4 16 6 7,
 oo 17 (.mkfn (.func 315) [] [(.t 5), (.t 4), (.t 6)]),
 oo 18 (.call 314 [(.t 15), (.t 16), (.t 17)])])))
 (.reg [x6 19 10 1,
 mv 10 19]))))))))
theorem ent281 : EntOK Tryz.prog 281 ⟨20, v281, []⟩ := fun args σ K ha h =>
 enter (own := List.range 20) Tryz.func281 (by kernel_rfl) (by kernel_rfl) (by kernel_rfl) ha h
def v283 : ACode :=
(.seq
 (.reg [y8 5 124 2,
 y9 6])
 (.seq
 (.reg [mv 8 0,
 y5 9 313 8,
 mv 7 9])
 (.seq
 (.reg [mv 10 7,
 mv 11 1,
 x4 12 2 5,
 x8 13 2 10 11,
 x3 2 13 12])
 (.seq
 (.reg [mv 14 7,
 mv 6 14])
 .ret))))
theorem ent283 : EntOK Tryz.prog 283 ⟨15, v283, [.slot 6]⟩ := fun args σ K ha h =>
 enter (own := List.range 15) Tryz.func283 (by kernel_rfl) (by kernel_rfl) (by kernel_rfl) ha h
def v284 : ACode :=
(.seq
 (.reg [y8 4 122 1,
 y8 5 404 2])
 (.seq
 (.reg [x1 11 4,
 y1 12 11,
 x5 13 0])
 (.block 0
 (.loop
 (.seq
 (.reg [x9 14 13 12])
 (.seq
 (.cond (.t 14)
 .skip
 (.exit 0))
 (.seq
 (.block 1
 (.seq
 (.reg [mv 15 13,
 x8 16 10 11 13,
 x4 17 10 16,
 oo 6 (.new 3 (.c (.int .i64 0))),
 oo 7 (.new 195 (.c (.agg [.nils, (.int .i64 0), (.str ⟨#[]⟩), (.int .i64 0), .nils, .nils, .nils, .nils, (.int .i64 0), (.int .i64 0)]))),
 x3 1 6 15,
 x3 10 7 17])
 (.seq
 (.seq
 (.reg [x2 18 0 7,
 x1 19 18,
 y1 20 19,
 x5 21 0])
 (.block 2
 (.loop
 (.seq
 (.reg [x9 22 21 20])
 (.seq
 (.cond (.t 22)
 .skip
 (.exit 2))
 (.seq
 (.block 3
 (.seq
 (.reg [mv 23 21,
 x8 24 9 19 21,
 x4 25 9 24,
 oo 8 (.new 3 (.c (.int .i64 0))),
 oo 9 (.new 193 (.c (.agg [(.int .i64 0), (.str ⟨#[]⟩), (.int .i64 0), .nils, .nils, .nils, .nils, (.int .i64 0), (.int .i64 0)]))),
 x3 1 8 23,
 x3 9 9 25])
 (.seq
 (.reg [oo 26 (.mkfn (.func 317) [] [(.t 5), (.t 4), (.t 6), (.t 7), (.t 8)]),
 mv 10 26])
 (.seq
 (.reg [mv 27 0,
 y3 28 27,
 x2 29 1 28,
 x1 30 29,
 x6 31 30 1,
 y3 32 27,
 x2 33 1 32,
 x3 1 33 31])
 (.seq
 (.draw [] [([⟨(some 34), .move (.t 0), none⟩], []),
 ([⟨(some 35), .nilck (.t 34), none⟩], []),
 ([⟨(some 36), .faddr 2 (.t 35), none⟩], []),
 ([⟨(some 37), .load none (.t 36), none⟩], []),
 ([⟨(some 38), .move (.t 10), none⟩], []),
 ([⟨(some 39), .load (some 9) (.t 9), none⟩], []),
 ([⟨(some 40), .call 320 [(.t 39)], none⟩], [⟨(some 36), .faddr 2 (.t 35), none⟩, ⟨(some 37), .load none (.t 36), none⟩]),
 ([⟨(some 41), .callv (.t 38) [(.t 40)], none⟩], [⟨(some 36), .faddr 2 (.t 35), none⟩, ⟨(some 37), .load none (.t 36), none⟩]),
 ([⟨(some 42), .callv (.t 37) [(.c (.int .i64 9)), (.t 41)], none⟩], [])])
 (.reg [mv 43 0,
 x4 44 9 9,
 mv 45 10,
 oo 46 (.call 321 [(.t 43), (.t 44), (.t 45)])]))))))
 (.reg [x6 47 21 1,
 mv 21 47])))))))
 (.reg [mv 48 0,
 x2 49 1 7,
 x4 50 9 49,
 oo 51 (.mkfn (.func 322) [] [(.t 5), (.t 4), (.t 6), (.t 7)]),
 oo 52 (.call 321 [(.t 48), (.t 50), (.t 51)])]))))
 (.reg [x6 53 13 1,
 mv 13 53]))))))))
theorem ent284 : EntOK Tryz.prog 284 ⟨54, v284, []⟩ := fun args σ K ha h =>
 enter (own := List.range 54) Tryz.func284 (by kernel_rfl) (by kernel_rfl) (by kernel_rfl) ha h
def v285 : ACode :=
(.seq
 (.reg [oo 6 (.new 49 q1)])
 (.seq
 (.draw [] [([⟨(some 7), .load none (.t 1), none⟩], []),
 ([⟨(some 8), .faddr 1 (.t 2), none⟩], []),
 ([⟨(some 9), .load none (.t 8), none⟩], []),
 ([⟨(some 10), .load none (.t 3), none⟩], []),
 ([⟨(some 11), .faddr 0 (.t 4), none⟩], []),
 ([⟨(some 12), .load none (.t 11), none⟩], []),
 ([⟨(some 13), .move (.t 0), none⟩], []),
 ([⟨(some 14), .build [.nils, .nils] [(0, 1, (.t 12)), (1, 1, (.t 13))], none⟩], []),
 ([⟨(some 15), .call 283 [(.t 9), (.t 10), (.t 14)], none⟩], [⟨(some 7), .load none (.t 1), none⟩]),
 ([⟨(some 16), .callv (.t 7) [(.t 15)], none⟩], []),
 ([x3 3 6 16], [])])
 .ret))
theorem ent285 : EntOK Tryz.prog 285 ⟨17, v285, [.cell 6 (some 3)]⟩ := fun args σ K ha h =>
 enter (own := List.range 17) Tryz.func285 (by kernel_rfl) (by kernel_rfl) (by kernel_rfl) ha h
def v286 : ACode :=
(.seq
 (.reg [y9 2])
 (.seq
 (.seq
 (.reg [mv 3 0,
 oo 4 (.nileq .slice false (.t 3) (.c .nils))])
 (.cond (.t 4)
 (.seq
 (.reg [y9 2])
 .ret)
 .skip))
 (.seq
 (.reg [oo 5 (.lit true 120 4 []),
 mv 6 0,
 z7 7 120 4 56 5 6,
 mv 2 7])
 .ret)))
theorem ent286 : EntOK Tryz.prog 286 ⟨8, v286, [.slot 2]⟩ := fun args σ K ha h =>
 enter (own := List.range 8) Tryz.func286 (by kernel_rfl) (by kernel_rfl) (by kernel_rfl) ha h
def v295 : ACode :=
(.seq
 (.reg [oo 2 (.new 116 (.c (.agg [(.str ⟨#[]⟩), (.int .i64 0), (.int .i64 0), (.int .i64 0), (.int .i64 0)])))])
 (.seq
 (.reg [mv 5 0,
 oo 6 (.build [(.str ⟨#[]⟩), (.int .i64 0), (.int .i64 0), (.int .i64 0), (.int .i64 0)] [(0, 1, (.t 5)), (1, 1, (.c (.int .i64 1))), (2, 1, (.c (.int .i64 9)))]),
 oo 3 (.new 116 (.c (.agg [(.str ⟨#[]⟩), (.int .i64 0), (.int .i64 0), (.int .i64 0), (.int .i64 0)]))),
 x3 5 3 6])
 (.seq
 (.seq
 (.reg [mv 7 0,
 y5 8 199 7,
 mv 4 8])
 (.block 0
 (.seq
 (.reg [mv 10 4,
 y5 11 325 10,
 mv 9 11])
 (.cond (.t 9)
 (.reg [x2 12 1 3,
 ⟨none, .store 1 (.t 12) (.c (.int .i64 0)), none⟩,
 x2 13 2 3,
 ⟨none, .store 1 (.t 13) (.c (.int .i64 4)), none⟩])
 (.seq
 (.reg [mv 15 0,
 oo 16 (.bin .str .eql (.t 15) (.c (.str ⟨#[43]⟩))),
 mv 17 16,
 z5 18 17 0,
 og 19 17 false (.bin .str .eql (.t 18) (.c (.str ⟨#[45]⟩))),
 y4 20 17 19,
 mv 14 20])
 (.cond (.t 14)
 (.reg [x2 21 2 3,
 ⟨none, .store 1 (.t 21) (.c (.int .i64 6)), none⟩])
 (.seq
 (.reg [mv 23 4,
 oo 24 (.bin .int .gtr (.t 23) (.c (.int .i64 0))),
 mv 22 24])
 (.cond (.t 22)
 (.reg [x2 25 2 3,
 ⟨none, .store 1 (.t 25) (.c (.int .i64 7)), none⟩])
 .skip))))))))
 (.seq
 (.reg [x4 26 5 3,
 x3 5 2 26])
 .ret))))
theorem ent295 : EntOK Tryz.prog 295 ⟨27, v295, [.cell 2 (some 5)]⟩ := fun args σ K ha h =>
 enter (own := List.range 27) Tryz.func295 (by kernel_rfl) (by kernel_rfl) (by kernel_rfl) ha h
def v296 : ACode :=
(.seq
 (.reg [y8 1 116 0,
 y6 2])
 (.seq
 (.reg [x2 3 1 1,
 x1 4 3,
 oo 5 (.bin .int .geq (.t 4) (.c (.int .i64 0))),
 mv 6 5,
 z2 7 6 1 1,
 z4 8 6 7,
 og 9 6 true (.bin .int .leq (.t 8) (.c (.int .i64 2))),
 y7 10 6 9,
 mv 11 10,
 z2 12 11 2 1,
 z4 13 11 12,
 og 14 11 true (.bin .int .geq (.t 13) (.c (.int .i64 0))),
 y7 15 11 14,
 mv 16 15,
 z2 17 16 2 1,
 z4 18 16 17,
 og 19 16 true (.bin .int .leq (.t 18) (.c (.int .i64 9))),
 y7 20 16 19,
 mv 2 20])
 .ret))
theorem ent296 : EntOK Tryz.prog 296 ⟨21, v296, [.slot 2]⟩ := fun args σ K ha h =>
 enter (own := List.range 21) Tryz.func296 (by kernel_rfl) (by kernel_rfl) (by kernel_rfl) ha h
def v297 : ACode :=
(.seq
 (.reg [y6 4])
 (.scope
 (.seq
 (.reg [mv 7 0,
 y3 8 7,
 x2 9 0 8,
 x1 10 9,
 mv 11 1,
 x8 12 5 10 11,
 x4 13 5 12,
 oo 5 (.new 116 (.c (.agg [(.str ⟨#[]⟩), (.int .i64 0), (.int .i64 0), (.int .i64 0), (.int .i64 0)]))),
 x3 5 5 13])
 (.seq
 .skip
 (.seq
 (.block 0
 (.loop
 (.seq
 (.seq
 (.reg [mv 14 0,
 y3 15 14,
 x2 16 1 15,
 x1 17 16,
 y1 18 17,
 oo 19 (.bin .int .gtr (.t 18) (.c (.int .i64 0)))])
 (.cond (.t 19)
 .skip
 (.exit 0)))
 (.block 1
 (.seq
 (.draw [] [([⟨(some 20), .move (.t 0), none⟩], []),
 ([⟨(some 21), .nilck (.t 20), none⟩], []),
 ([⟨(some 22), .faddr 0 (.t 21), none⟩], []),
 ([⟨(some 23), .load none (.t 22), none⟩], []),
 ([⟨(some 24), .move (.t 0), none⟩], []),
 ([⟨(some 25), .nilck (.t 24), none⟩], []),
 ([⟨(some 26), .faddr 1 (.t 25), none⟩], []),
 ([⟨(some 27), .load none (.t 26), none⟩], []),
 ([⟨(some 28), .move (.t 0), none⟩], []),
 ([⟨(some 29), .nilck (.t 28), none⟩], []),
 ([⟨(some 30), .faddr 1 (.t 29), none⟩], []),
 ([⟨(some 31), .load none (.t 30), none⟩], []),
 ([⟨(some 32), .len .slice (.t 31), none⟩], []),
 ([⟨(some 33), .bin .int .sub (.t 32) (.c (.int .i64 1)), none⟩], []),
 ([⟨(some 34), .iaddr 1 (.t 27) (.t 33), none⟩], []),
 ([⟨(some 35), .load none (.t 34), none⟩], []),
 ([⟨(some 36), .iaddr 5 (.t 23) (.t 35), none⟩], []),
 ([⟨(some 37), .load (some 5) (.t 36), none⟩], []),
 ([⟨(some 6), .new 116 (.c (.agg [(.str ⟨#[]⟩), (.int .i64 0), (.int .i64 0), (.int .i64 0), (.int .i64 0)])), none⟩], [⟨(some 22), .faddr 0 (.t 21), none⟩, ⟨(some 23), .load none (.t 22), none⟩, ⟨(some 26), .faddr 1 (.t 25), none⟩, ⟨(some 27), .load none (.t 26), none⟩, ⟨(some 30), .faddr 1 (.t 29), none⟩, ⟨(some 31), .load none (.t 30), none⟩, ⟨(some 34), .iaddr 1 (.t 27) (.t 33), none⟩, ⟨(some 35), .load none (.t 34), none⟩, ⟨(some 36), .iaddr 5 (.t 23) (.t 35), none⟩, ⟨(some 37), .load (some 5) (.t 36), none⟩]),
 ([x3 5 6 37], [])])
 (.block 2
 (.seq
 (.reg [x2 39 2 6,
 x1 40 39,
 x2 41 2 5,
 x1 42 41,
 oo 43 (.bin .int .gtr (.t 40) (.t 42)),
 mv 38 43])
 (.cond (.t 38)
 (.reg [mv 44 0,
 y5 45 298 44])
 (.seq
 (.reg [x2 47 2 6,
 x1 48 47,
 x2 49 2 5,
 x1 50 49,
 x9 51 48 50,
 mv 46 51])
 (.cond (.t 46)
 (.exit 0)
 (.seq
 (.reg [x2 53 1 6,
 x1 54 53,
 x7 55 54 1,
 mv 56 55,
 z2 57 56 1 5,
 z4 58 56 57,
 og 59 56 true (.bin .int .eql (.t 58) (.c (.int .i64 1))),
 y7 60 56 59,
 mv 52 60])
 (.cond (.t 52)
 (.reg [mv 61 0,
 y5 62 298 61])
 (.seq
 (.reg [x2 64 1 6,
 x1 65 64,
 x7 66 65 2,
 mv 67 66,
 z2 68 67 1 5,
 z4 69 67 68,
 og 70 67 true (.bin .int .eql (.t 69) (.c (.int .i64 2))),
 y7 71 67 70,
 mv 63 71])
 (.cond (.t 63)
 (.exit 0)
 (.seq
 (.reg [y6 4])
 .ret)))))))))))))))
 (.seq
 (.reg [mv 72 0,
 mv 73 0,
 y3 74 73,
 x2 75 1 74,
 x1 76 75,
 mv 77 1,
 z8 78 3 1 77,
 z7 79 3 1 8 76 78,
 y3 80 72,
 x2 81 1 80,
 x3 1 81 79])
 (.seq
 (.reg [mv 82 0,
 mv 83 0,
 y3 84 83,
 x2 85 2 84,
 x1 86 85,
 mv 87 1,
 x6 88 87 1,
 mv 89 1,
 x6 90 89 1,
 oo 91 (.build [(.int .i64 0), (.int .i64 0)] [(0, 1, (.t 88)), (1, 1, (.t 90))]),
 z8 92 322 2 91,
 z7 93 322 2 16 86 92,
 y3 94 82,
 x2 95 2 94,
 x3 1 95 93])
 (.seq
 (.reg [oo 4 (.move (.c (.bool true)))])
 .ret))))))))
theorem ent297 : EntOK Tryz.prog 297 ⟨96, v297, [.slot 4]⟩ := fun args σ K ha h =>
 enter (own := List.range 96) Tryz.func297 (by kernel_rfl) (by kernel_rfl) (by kernel_rfl) ha h
def v298 : ACode :=
(.seq
 (.reg [mv 5 0,
 y3 6 5,
 x2 7 1 6,
 x1 8 7,
 mv 9 0,
 y3 10 9,
 x2 11 1 10,
 x1 12 11,
 y1 13 12,
 oo 14 (.bin .int .sub (.t 13) (.c (.int .i64 1))),
 x8 15 1 8 14,
 x1 16 15,
 mv 2 16])
 (.seq
 (.reg [mv 17 0,
 mv 18 0,
 y3 19 18,
 x2 20 1 19,
 x1 21 20,
 mv 22 0,
 y3 23 22,
 x2 24 1 23,
 x1 25 24,
 y1 26 25,
 oo 27 (.bin .int .sub (.t 26) (.c (.int .i64 1))),
 oo 28 (.cut .slice 1 (.t 21) none (some (.t 27))),
 y3 29 17,
 x2 30 1 29,
 x3 1 30 28])
 (.seq
 (.reg [mv 31 0,
 y3 32 31,
 x2 33 2 32,
 x1 34 33,
 y1 35 34,
 mv 3 35])
 (.seq
 (.draw [] [([⟨(some 36), .move (.t 0), none⟩], []),
 ([⟨(some 37), .nilck (.t 36), none⟩], []),
 ([⟨(some 38), .faddr 2 (.t 37), none⟩], []),
 ([⟨(some 39), .load none (.t 38), none⟩], []),
 ([⟨(some 40), .move (.t 3), none⟩], []),
 ([⟨(some 41), .bin .int .sub (.t 40) (.c (.int .i64 2)), none⟩], []),
 ([⟨(some 42), .iaddr 2 (.t 39) (.t 41), none⟩], []),
 ([⟨(some 43), .faddr 0 (.t 42), none⟩], []),
 ([⟨(some 44), .load none (.t 43), none⟩], []),
 ([⟨(some 45), .move (.t 0), none⟩], []),
 ([⟨(some 46), .nilck (.t 45), none⟩], []),
 ([⟨(some 47), .faddr 2 (.t 46), none⟩], []),
 ([⟨(some 48), .load none (.t 47), none⟩], []),
 ([⟨(some 49), .move (.t 3), none⟩], []),
 ([⟨(some 50), .bin .int .sub (.t 49) (.c (.int .i64 1)), none⟩], []),
 ([⟨(some 51), .iaddr 2 (.t 48) (.t 50), none⟩], []),
 ([⟨(some 52), .faddr 1 (.t 51), none⟩], []),
 ([⟨(some 53), .load none (.t 52), none⟩], []),
 ([⟨(some 54), .build [(.int .i64 0), (.int .i64 0)] [(0, 1, (.t 44)), (1, 1, (.t 53))], none⟩], []),
 ([⟨(some 4), .new 322 q2, none⟩], [⟨(some 38), .faddr 2 (.t 37), none⟩, ⟨(some 39), .load none (.t 38), none⟩, ⟨(some 42), .iaddr 2 (.t 39) (.t 41), none⟩, ⟨(some 43), .faddr 0 (.t 42), none⟩, ⟨(some 44), .load none (.t 43), none⟩, ⟨(some 47), .faddr 2 (.t 46), none⟩, ⟨(some 48), .load none (.t 47), none⟩, ⟨(some 51), .iaddr 2 (.t 48) (.t 50), none⟩, ⟨(some 52), .faddr 1 (.t 51), none⟩, ⟨(some 53), .load none (.t 52), none⟩]),
 ([x3 2 4 54], [])])
 (.seq
 (.draw [] [([⟨(some 55), .move (.t 0), none⟩], []),
 ([⟨(some 56), .move (.t 0), none⟩], []),
 ([⟨(some 57), .nilck (.t 56), none⟩], []),
 ([⟨(some 58), .faddr 2 (.t 57), none⟩], []),
 ([⟨(some 59), .load none (.t 58), none⟩], []),
 ([⟨(some 60), .move (.t 3), none⟩], []),
 ([⟨(some 61), .bin .int .sub (.t 60) (.c (.int .i64 2)), none⟩], []),
 ([⟨(some 62), .cut .slice 2 (.t 59) none (some (.t 61)), none⟩], []),
 ([⟨(some 63), .load (some 2) (.t 4), none⟩], []),
 ([⟨(some 64), .lit true 322 2 [(.t 63)], none⟩], [⟨(some 58), .faddr 2 (.t 57), none⟩, ⟨(some 59), .load none (.t 58), none⟩, ⟨(some 62), .cut .slice 2 (.t 59) none (some (.t 61)), none⟩]),
 ([⟨(some 65), .append 322 2 16 (.t 62) (.t 64), none⟩], []),
 ([⟨(some 66), .nilck (.t 55), none⟩], []),
 ([⟨(some 67), .faddr 2 (.t 66), none⟩], []),
 ([x3 1 67 65], [])])
 (.reg [mv 68 0,
 y3 69 68,
 x2 70 3 69,
 x1 71 70,
 mv 72 2,
 x4 73 2 4,
 x8 74 2 71 72,
 x3 2 74 73]))))))
theorem ent298 : EntOK Tryz.prog 298 ⟨75, v298, []⟩ := fun args σ K ha h =>
 enter (own := List.range 75) Tryz.func298 (by kernel_rfl) (by kernel_rfl) (by kernel_rfl) ha h
def v299 : ACode :=
(.seq
 (.reg [y8 4 187 1,
 y9 6])
 (.seq
 (.seq
 (.reg [x2 11 0 4,
 x1 12 11])
 (.block 0
 (.seq
 (.reg [x7 14 12 2,
 mv 13 14])
 (.cond (.t 13)
 (.seq
 (.seq
 (.reg [mv 15 2,
 x2 16 1 4,
 x1 17 16,
 y2 18 148 15 17])
 (.cond (.t 18)
 (.reg [mv 19 0,
 x2 20 4 4,
 x4 21 2 20,
 oo 22 (.call 149 [(.t 19), (.c (.int .i64 80)), (.t 21)])])
 .skip))
 (.seq
 (.reg [mv 23 2,
 x2 24 1 4,
 x1 25 24,
 z8 26 9 1 25,
 z7 27 9 1 16 23 26,
 mv 6 27])
 .ret))
 (.seq
 (.reg [x7 29 12 4,
 mv 28 29])
 (.cond (.t 28)
 (.seq
 (.draw [7] [([⟨(some 31), .move (.t 0), none⟩], []),
 ([⟨(some 32), .nilck (.t 31), none⟩], []),
 ([⟨(some 33), .faddr 0 (.t 32), none⟩], []),
 ([⟨(some 34), .load none (.t 33), none⟩], []),
 ([⟨(some 35), .faddr 1 (.t 4), none⟩], []),
 ([⟨(some 36), .load none (.t 35), none⟩], []),
 ([⟨(some 37), .call 287 [(.t 34), (.t 36)], none⟩], []),
 ([⟨(some 30), .move (.t 37), none⟩], []),
 ([⟨(some 38), .extract (.t 30) 0, none⟩], []),
 ([⟨(some 39), .extract (.t 30) 1, none⟩], []),
 ([⟨(some 7), .new 303 (.c (.agg [(.str ⟨#[]⟩), (.str ⟨#[]⟩), (.int .i64 0), (.int .i64 0), .nils])), none⟩, x3 5 7 38], []),
 ([⟨(some 8), .move (.t 39), none⟩], [])])
 (.seq
 (.block 1
 (.seq
 (.reg [mv 41 8,
 oo 42 (.not (.t 41)),
 mv 40 42])
 (.cond (.t 40)
 (.reg [mv 43 0,
 x2 44 4 4,
 x4 45 2 44,
 oo 46 (.call 149 [(.t 43), (.c (.int .i64 81)), (.t 45)])])
 (.seq
 (.reg [x2 48 4 7,
 x1 49 48,
 y1 50 49,
 x2 51 3 4,
 x1 52 51,
 y1 53 52,
 oo 54 (.bin .int .neq (.t 50) (.t 53)),
 mv 47 54])
 (.cond (.t 47)
 (.reg [mv 55 0,
 x2 56 4 4,
 x4 57 2 56,
 oo 58 (.call 149 [(.t 55), (.c (.int .i64 82)), (.t 57)])])
 .skip)))))
 (.seq
 (.reg [x2 59 3 4,
 x1 60 59,
 y1 61 60,
 x5 62 0])
 (.block 2
 (.loop
 (.seq
 (.reg [x9 63 62 61])
 (.seq
 (.cond (.t 63)
 .skip
 (.exit 2))
 (.seq
 (.block 3
 (.seq
 (.reg [x8 64 6 60 62,
 x4 65 6 64,
 oo 10 (.new 187 (.c (.agg [(.int .i64 0), (.str ⟨#[]⟩), (.int .i64 0), .nils, (.int .i64 0), (.int .i64 0)]))),
 x3 6 10 65])
 (.reg [mv 66 0,
 x4 67 6 10,
 mv 68 2,
 oo 69 (.call 299 [(.t 66), (.t 67), (.t 68)]),
 mv 2 69])))
 (.reg [x6 70 62 1,
 mv 62 70])))))))))
 .skip))))))
 (.seq
 (.reg [mv 71 2,
 mv 6 71])
 .ret)))
theorem ent299 : EntOK Tryz.prog 299 ⟨72, v299, [.slot 6]⟩ := fun args σ K ha h =>
 enter (own := List.range 72) Tryz.func299 (by kernel_rfl) (by kernel_rfl) (by kernel_rfl) ha h
def v300 : ACode :=
(.reg [x1 2 0,
 x1 3 1,
 y2 4 301 2 3])
theorem ent300 : EntOK Tryz.prog 300 ⟨5, v300, []⟩ := fun args σ K ha h =>
 enter (own := List.range 5) Tryz.func300 (by kernel_rfl) (by kernel_rfl) (by kernel_rfl) ha h
def v301 : ACode :=
(.seq
 (.reg [mv 8 1,
 y1 9 8,
 x5 10 0])
 (.block 0
 (.loop
 (.seq
 (.reg [x9 11 10 9])
 (.seq
 (.cond (.t 11)
 .skip
 (.exit 0))
 (.seq
 (.block 1
 (.seq
 (.reg [x8 12 10 8 10,
 x4 13 10 12,
 oo 5 (.new 195 (.c (.agg [.nils, (.int .i64 0), (.str ⟨#[]⟩), (.int .i64 0), .nils, .nils, .nils, .nils, (.int .i64 0), (.int .i64 0)]))),
 x3 10 5 13])
 (.seq
 (.seq
 (.reg [x2 14 0 5,
 x1 15 14,
 y1 16 15,
 x5 17 0])
 (.block 2
 (.loop
 (.seq
 (.reg [x9 18 17 16])
 (.seq
 (.cond (.t 18)
 .skip
 (.exit 2))
 (.seq
 (.block 3
 (.seq
 (.reg [x8 19 9 15 17,
 x4 20 9 19,
 oo 7 (.new 193 (.c (.agg [(.int .i64 0), (.str ⟨#[]⟩), (.int .i64 0), .nils, .nils, .nils, .nils, (.int .i64 0), (.int .i64 0)]))),
 x3 9 7 20])
 (.reg [mv 21 0,
 x4 22 9 7,
 y2 23 326 21 22])))
 (.reg [x6 24 17 1,
 mv 17 24])))))))
 (.reg [mv 25 0,
 x2 26 1 5,
 x4 27 9 26,
 y2 28 326 25 27]))))
 (.reg [x6 29 10 1,
 mv 10 29])))))))
theorem ent301 : EntOK Tryz.prog 301 ⟨30, v301, []⟩ := fun args σ K ha h =>
 enter (own := List.range 30) Tryz.func301 (by kernel_rfl) (by kernel_rfl) (by kernel_rfl) ha h
def v302 : ACode :=
(.seq
 (.reg [y8 3 369 0,
 y8 5 122 2])
 (.seq
 (.reg [y9 6])
 (.seq
 (.seq
 (.reg [mv 9 1,
 y1 10 9,
 x5 11 0])
 (.block 0
 (.loop
 (.seq
 (.reg [x9 12 11 10])
 (.seq
 (.cond (.t 12)
 .skip
 (.exit 0))
 (.seq
 (.block 1
 (.seq
 (.reg [x8 13 6 9 11,
 x4 14 6 13,
 oo 8 (.new 187 (.c (.agg [(.int .i64 0), (.str ⟨#[]⟩), (.int .i64 0), .nils, (.int .i64 0), (.int .i64 0)]))),
 x3 6 8 14])
 (.reg [mv 15 6,
 x4 16 6 8,
 y5 17 327 16,
 z7 18 9 1 16 15 17,
 mv 6 18])))
 (.reg [x6 19 11 1,
 mv 11 19])))))))
 (.reg [x1 20 3,
 mv 21 6,
 oo 22 (.mkfn (.func 329) [] [(.t 5), (.t 3)]),
 oo 23 (.call 328 [(.t 20), (.t 21), (.t 22)])]))))
theorem ent302 : EntOK Tryz.prog 302 ⟨24, v302, []⟩ := fun args σ K ha h =>
 enter (own := List.range 24) Tryz.func302 (by kernel_rfl) (by kernel_rfl) (by kernel_rfl) ha h
def v303 : ACode :=
(.scope
 (.seq
 (.reg [mv 10 0,
 mv 11 1,
 y2 12 331 10 11,
 z8 13 443 2 12,
 mv 4 13])
 (.seq
 .skip
 (.block 0
 (.loop
 (.seq
 (.seq
 (.reg [mv 14 4,
 y1 15 14,
 oo 16 (.bin .int .gtr (.t 15) (.c (.int .i64 0)))])
 (.cond (.t 16)
 .skip
 (.exit 0)))
 (.block 1
 (.seq
 (.reg [mv 17 4,
 mv 18 4,
 y1 19 18,
 oo 20 (.bin .int .sub (.t 19) (.c (.int .i64 1))),
 x8 21 2 17 20,
 mv 5 21])
 (.seq
 (.block 2
 (.loop
 (.seq
 (.seq
 (.reg [mv 22 5,
 y3 23 22,
 x2 24 1 23,
 x1 25 24,
 mv 26 0,
 y3 27 26,
 x2 28 0 27,
 x1 29 28,
 mv 30 5,
 y3 31 30,
 x2 32 0 31,
 x1 33 32,
 x8 34 1 29 33,
 x1 35 34,
 y1 36 35,
 x9 37 25 36])
 (.cond (.t 37)
 .skip
 (.exit 2)))
 (.block 3
 (.seq
 (.reg [mv 38 0,
 y3 39 38,
 x2 40 0 39,
 x1 41 40,
 mv 42 5,
 y3 43 42,
 x2 44 0 43,
 x1 45 44,
 x8 46 1 41 45,
 x1 47 46,
 mv 48 5,
 y3 49 48,
 x2 50 1 49,
 x1 51 50,
 x8 52 1 47 51,
 x1 53 52,
 mv 6 53])
 (.seq
 (.reg [mv 54 5,
 y3 55 54,
 x2 56 1 55,
 x1 57 56,
 x6 58 57 1,
 y3 59 54,
 x2 60 1 59,
 x3 1 60 58])
 (.block 4
 (.seq
 (.reg [mv 62 0,
 y3 63 62,
 x2 64 1 63,
 x1 65 64,
 mv 66 6,
 x8 67 1 65 66,
 x1 68 67,
 x7 69 68 0,
 mv 61 69])
 (.cond (.t 61)
 (.seq
 (.reg [mv 70 4,
 mv 71 0,
 mv 72 6,
 y2 73 331 71 72,
 z8 74 443 2 73,
 z7 75 443 2 16 70 74,
 mv 4 75])
 (.exit 1))
 (.seq
 (.reg [mv 77 0,
 y3 78 77,
 x2 79 4 78,
 x1 80 79,
 mv 81 6,
 x8 82 1 80 81,
 x1 83 82,
 mv 76 83])
 (.cond (.t 76)
 (.reg [mv 84 0,
 y3 85 84,
 x2 86 2 85,
 x1 87 86,
 mv 88 5,
 y3 89 88,
 x2 90 0 89,
 x1 91 90,
 mv 92 0,
 y3 93 92,
 x2 94 2 93,
 x1 95 94,
 mv 96 5,
 y3 97 96,
 x2 98 0 97,
 x1 99 98,
 x8 100 1 95 99,
 x1 101 100,
 mv 102 0,
 y3 103 102,
 x2 104 1 103,
 x1 105 104,
 mv 106 6,
 x8 107 1 105 106,
 x1 108 107,
 oo 109 (.min2 (.t 101) (.t 108)),
 x8 110 1 87 91,
 x3 1 110 109])
 .skip)))))))))))
 (.seq
 (.reg [mv 111 5,
 y3 112 111,
 x2 113 0 112,
 x1 114 113,
 mv 7 114])
 (.seq
 (.reg [mv 115 4,
 mv 116 4,
 y1 117 116,
 oo 118 (.bin .int .sub (.t 117) (.c (.int .i64 1))),
 oo 119 (.cut .slice 2 (.t 115) none (some (.t 118))),
 mv 4 119])
 (.seq
 (.seq
 (.reg [mv 120 4,
 y1 121 120,
 mv 8 121])
 (.seq
 (.reg [mv 122 8,
 oo 123 (.bin .int .gtr (.t 122) (.c (.int .i64 0)))])
 (.cond (.t 123)
 (.seq
 (.reg [mv 124 4,
 mv 125 8,
 oo 126 (.bin .int .sub (.t 125) (.c (.int .i64 1))),
 x8 127 2 124 126,
 x2 128 0 127,
 x1 129 128,
 mv 9 129])
 (.reg [mv 130 0,
 y3 131 130,
 x2 132 2 131,
 x1 133 132,
 mv 134 9,
 mv 135 0,
 y3 136 135,
 x2 137 2 136,
 x1 138 137,
 mv 139 9,
 x8 140 1 138 139,
 x1 141 140,
 mv 142 0,
 y3 143 142,
 x2 144 2 143,
 x1 145 144,
 mv 146 7,
 x8 147 1 145 146,
 x1 148 147,
 oo 149 (.min2 (.t 141) (.t 148)),
 x8 150 1 133 134,
 x3 1 150 149]))
 .skip)))
 (.reg [mv 151 0,
 mv 152 7,
 y2 153 332 151 152])))))))))))))
theorem ent303 : EntOK Tryz.prog 303 ⟨154, v303, []⟩ := fun args σ K ha h =>
 enter (own := List.range 154) Tryz.func303 (by kernel_rfl) (by kernel_rfl) (by kernel_rfl) ha h
def v304 : ACode :=
(.seq
 (.reg [y6 8])
 (.seq
 (.seq
 (.reg [mv 13 2,
 y1 14 13,
 x5 15 0])
 (.block 0
 (.loop
 (.seq
 (.reg [x9 16 15 14])
 (.seq
 (.cond (.t 16)
 .skip
 (.exit 0))
 (.seq
 (.block 1
 (.seq
 (.reg [x8 17 1 13 15,
 x1 18 17,
 mv 10 18])
 (.seq
 (.reg [mv 19 0,
 mv 20 10,
 x8 21 1 19 20,
 x1 22 21,
 y1 23 22,
 x5 24 0])
 (.block 2
 (.loop
 (.seq
 (.reg [x9 25 24 23])
 (.seq
 (.cond (.t 25)
 .skip
 (.exit 2))
 (.seq
 (.block 3
 (.seq
 (.reg [x8 26 1 22 24,
 x1 27 26,
 mv 12 27])
 (.seq
 (.reg [mv 28 3,
 mv 29 1,
 mv 30 12,
 x8 31 1 29 30,
 x1 32 31,
 x8 33 1 28 32,
 x1 34 33,
 oo 35 (.not (.t 34)),
 mv 36 35,
 z6 37 36 1,
 z6 38 36 12,
 og 39 36 true (.iaddr 1 (.t 37) (.t 38)),
 z4 40 36 39,
 z6 41 36 1,
 z6 42 36 10,
 og 43 36 true (.iaddr 1 (.t 41) (.t 42)),
 z4 44 36 43,
 og 45 36 true (.bin .int .neq (.t 40) (.t 44)),
 y7 46 36 45])
 (.cond (.t 46)
 (.seq
 (.reg [y6 8])
 .ret)
 .skip))))
 (.reg [x6 47 24 1,
 mv 24 47])))))))))
 (.reg [x6 48 15 1,
 mv 15 48])))))))
 (.seq
 (.reg [oo 8 (.move (.c (.bool true)))])
 .ret)))
theorem ent304 : EntOK Tryz.prog 304 ⟨49, v304, [.slot 8]⟩ := fun args σ K ha h =>
 enter (own := List.range 49) Tryz.func304 (by kernel_rfl) (by kernel_rfl) (by kernel_rfl) ha h
def v305 : ACode :=
(.seq
 (.reg [oo 2 (.new 137 (.c (.agg [(.int .i64 0), (.int .i64 0), (.str ⟨#[]⟩), .nils])))])
 (.seq
 (.reg [mv 3 0,
 oo 4 (.build [(.int .i64 0), (.int .i64 0), (.str ⟨#[]⟩), .nils] [(0, 1, (.c (.int .i64 2))), (2, 1, (.t 3))]),
 x3 4 2 4])
 .ret))
theorem ent305 : EntOK Tryz.prog 305 ⟨5, v305, [.cell 2 (some 4)]⟩ := fun args σ K ha h =>
 enter (own := List.range 5) Tryz.func305 (by kernel_rfl) (by kernel_rfl) (by kernel_rfl) ha h
def v307 : ACode :=
(.seq
 (.reg [y8 4 137 1,
 y8 5 137 2,
 x5 6 0])
 (.seq
 (.block 0
 (.seq
 (.reg [mv 11 0,
 oo 12 (.nileq .ptr false (.t 11) (.c .nilp)),
 mv 13 12,
 z5 14 13 0,
 og 15 13 false (.nilck (.t 14)),
 z1 16 13 0 15,
 z3 17 13 16,
 og 18 13 false (.nileq .map false (.t 17) (.c .nilm)),
 y4 19 13 18,
 mv 10 19])
 (.cond (.t 10)
 (.seq
 (.reg [x5 6 3])
 .ret)
 (.seq
 (.reg [x4 21 4 4,
 y5 22 104 21,
 oo 23 (.not (.t 22)),
 mv 24 23,
 og 25 24 false (.load (some 4) (.t 5)),
 og 26 24 false (.call 104 [(.t 25)]),
 og 27 24 false (.not (.t 26)),
 y4 28 24 27,
 mv 20 28])
 (.cond (.t 20)
 (.seq
 (.reg [x5 6 1])
 .ret)
 .skip)))))
 (.seq
 (.reg [mv 29 0,
 x4 30 4 4,
 y2 31 267 29 30])
 (.seq
 (.reg [mv 32 0,
 x4 33 4 5,
 y2 34 267 32 33])
 (.seq
 (.reg [mv 35 0,
 y3 36 35,
 x2 37 2 36,
 ⟨none, .store 1 (.t 37) (.c .nils), none⟩])
 (.seq
 (.reg [mv 38 0,
 oo 39 (.mkmap),
 y3 40 38,
 x2 41 3 40,
 x3 1 41 39])
 (.seq
 (.draw [] [([⟨(some 42), .move (.t 0), none⟩], []),
 ([⟨(some 43), .load (some 4) (.t 4), none⟩], []),
 ([⟨(some 45), .load (some 4) (.t 5), none⟩], []),
 ([⟨(some 44), .call 219 [(.t 43)], none⟩], [⟨(some 45), .load (some 4) (.t 5), none⟩]),
 ([⟨(some 46), .call 219 [(.t 45)], none⟩], []),
 ([⟨(some 47), .call 333 [(.t 42), (.t 44), (.t 46)], none⟩], []),
 ([⟨(some 7), .move (.t 47), none⟩], [])])
 (.seq
 (.seq
 (.reg [mv 48 7,
 oo 49 (.bin .int .neq (.t 48) (.c (.int .i64 0)))])
 (.cond (.t 49)
 (.seq
 (.reg [mv 50 0,
 y3 51 50,
 x2 52 2 51,
 x1 53 52,
 y1 54 53,
 x5 55 0])
 (.block 1
 (.loop
 (.seq
 (.reg [x9 56 55 54])
 (.seq
 (.cond (.t 56)
 .skip
 (.exit 1))
 (.seq
 (.block 2
 (.seq
 (.reg [x8 57 1 53 55,
 x1 58 57,
 mv 9 58])
 (.reg [mv 59 0,
 y3 60 59,
 x2 61 0 60,
 x1 62 61,
 mv 63 9,
 ⟨none, .mapdel .int (.t 62) (.t 63), none⟩])))
 (.reg [x6 64 55 1,
 mv 55 64])))))))
 .skip))
 (.seq
 (.reg [mv 65 7,
 mv 6 65])
 .ret)))))))))
theorem ent307 : EntOK Tryz.prog 307 ⟨66, v307, [.slot 6]⟩ := fun args σ K ha h =>
 enter (own := List.range 66) Tryz.func307 (by kernel_rfl) (by kernel_rfl) (by kernel_rfl) ha h
def v308 : ACode :=
(.seq
 (.reg [y8 2 137 0,
 y8 3 137 1,
 oo 4 (.new 137 (.c (.agg [(.int .i64 0), (.int .i64 0), (.str ⟨#[]⟩), .nils])))])
 (.seq
 (.reg [x4 5 4 2,
 x4 6 4 3,
 oo 7 (.lit true 137 4 [(.t 5), (.t 6)]),
 oo 8 (.build [(.int .i64 0), (.int .i64 0), (.str ⟨#[]⟩), .nils] [(0, 1, (.c (.int .i64 3))), (3, 1, (.t 7))]),
 x3 4 4 8])
 .ret))
theorem ent308 : EntOK Tryz.prog 308 ⟨9, v308, [.cell 4 (some 4)]⟩ := fun args σ K ha h =>
 enter (own := List.range 9) Tryz.func308 (by kernel_rfl) (by kernel_rfl) (by kernel_rfl) ha h
def v309 : ACode :=
(.seq
 (.reg [y8 2 198 0,
 y8 3 193 1,
 oo 4 (.new 343 (.c (.agg [(.int .i64 0), (.int .i64 0), (.str ⟨#[]⟩), .nils, .nils, .nils, .nils, .nils])))])
 (.seq
 (.seq
 (.reg [x1 15 2,
 y3 16 15,
 x2 17 3 16,
 x1 18 17])
 (.cond (.t 18)
 (.seq
 (.reg [oo 19 (.build [(.int .i64 0), (.int .i64 0), (.str ⟨#[]⟩), .nils, .nils, .nils, .nils, .nils] []),
 x3 8 4 19])
 .ret)
 .skip))
 (.seq
 (.seq
 (.reg [x2 20 0 3,
 x1 21 20])
 (.block 0
 (.seq
 (.reg [x7 23 21 1,
 mv 22 23])
 (.cond (.t 22)
 (.seq
 (.reg [x1 24 2,
 x2 25 1 3,
 x1 26 25,
 y2 27 334 24 26,
 x3 8 4 27])
 .ret)
 (.seq
 (.reg [x7 29 21 2,
 mv 28 29])
 (.cond (.t 28)
 (.seq
 (.reg [x1 31 2,
 x2 32 1 3,
 x1 33 32,
 y2 34 306 31 33,
 mv 30 34,
 z9 35 30 0,
 z9 36 30 1,
 z9 37 30 2,
 oo 7 (.new 137 (.c (.agg [(.int .i64 0), (.int .i64 0), (.str ⟨#[]⟩), .nils]))),
 mv 5 35,
 mv 6 36,
 x3 4 7 37])
 (.seq
 (.reg [mv 38 6,
 x4 39 4 7,
 y2 40 263 38 39,
 mv 41 5,
 oo 42 (.build [(.int .i64 0), (.int .i64 0), (.str ⟨#[]⟩), .nils, .nils, .nils, .nils, .nils] [(0, 4, (.t 40)), (4, 1, (.t 41))]),
 x3 8 4 42])
 .ret))
 (.seq
 (.reg [x7 44 21 3,
 mv 43 44])
 (.cond (.t 43)
 (.seq
 (.reg [oo 45 (.call 305 [(.c (.str ⟨#[73, 110, 116]⟩))]),
 oo 46 (.build [(.int .i64 0), (.int .i64 0), (.str ⟨#[]⟩), .nils, .nils, .nils, .nils, .nils] [(0, 4, (.t 45))]),
 x3 8 4 46])
 .ret)
 (.seq
 (.reg [x7 48 21 4,
 mv 47 48])
 (.cond (.t 47)
 (.seq
 (.draw [8, 9] [([⟨(some 49), .load none (.t 2), none⟩], []),
 ([⟨(some 50), .faddr 4 (.t 3), none⟩], []),
 ([⟨(some 51), .load none (.t 50), none⟩], []),
 ([⟨(some 52), .iaddr 9 (.t 51) (.c (.int .i64 0)), none⟩], []),
 ([⟨(some 53), .load (some 9) (.t 52), none⟩], []),
 ([⟨(some 55), .load none (.t 2), none⟩], []),
 ([⟨(some 56), .faddr 4 (.t 3), none⟩], []),
 ([⟨(some 57), .load none (.t 56), none⟩], []),
 ([⟨(some 58), .iaddr 9 (.t 57) (.c (.int .i64 1)), none⟩], []),
 ([⟨(some 59), .load (some 9) (.t 58), none⟩], []),
 ([⟨(some 54), .call 309 [(.t 49), (.t 53)], none⟩], [⟨(some 55), .load none (.t 2), none⟩, ⟨(some 56), .faddr 4 (.t 3), none⟩, ⟨(some 57), .load none (.t 56), none⟩, ⟨(some 58), .iaddr 9 (.t 57) (.c (.int .i64 1)), none⟩, ⟨(some 59), .load (some 9) (.t 58), none⟩]),
 ([⟨(some 60), .call 309 [(.t 55), (.t 59)], none⟩], []),
 ([⟨(some 8), .new 343 (.c (.agg [(.int .i64 0), (.int .i64 0), (.str ⟨#[]⟩), .nils, .nils, .nils, .nils, .nils])), none⟩, x3 8 8 54], []),
 ([⟨(some 9), .new 343 (.c (.agg [(.int .i64 0), (.int .i64 0), (.str ⟨#[]⟩), .nils, .nils, .nils, .nils, .nils])), none⟩, x3 8 9 60], [])])
 (.seq
 (.reg [x1 61 2,
 y3 62 61,
 x2 63 0 62,
 x1 64 63,
 y5 65 260 64,
 oo 10 (.new 137 (.c (.agg [(.int .i64 0), (.int .i64 0), (.str ⟨#[]⟩), .nils]))),
 x3 4 10 65])
 (.seq
 (.draw [] [([⟨(some 66), .load none (.t 2), none⟩], []),
 ([⟨(some 67), .faddr 0 (.t 8), none⟩], []),
 ([⟨(some 68), .load (some 4) (.t 67), none⟩], []),
 ([⟨(some 69), .faddr 0 (.t 9), none⟩], []),
 ([⟨(some 70), .load (some 4) (.t 69), none⟩], []),
 ([⟨(some 71), .load (some 4) (.t 10), none⟩], []),
 ([⟨(some 73), .faddr 7 (.t 3), none⟩], []),
 ([⟨(some 74), .load (some 2) (.t 73), none⟩], []),
 ([⟨(some 72), .call 308 [(.t 70), (.t 71)], none⟩], [⟨(some 66), .load none (.t 2), none⟩, ⟨(some 67), .faddr 0 (.t 8), none⟩, ⟨(some 68), .load (some 4) (.t 67), none⟩, ⟨(some 73), .faddr 7 (.t 3), none⟩, ⟨(some 74), .load (some 2) (.t 73), none⟩]),
 ([⟨(some 75), .call 262 [(.t 66), (.t 68), (.t 72), (.t 74)], none⟩], [])])
 (.seq
 (.reg [x4 76 4 10,
 x4 77 8 8,
 x4 78 8 9,
 oo 79 (.lit true 343 8 [(.t 77), (.t 78)]),
 oo 80 (.build [(.int .i64 0), (.int .i64 0), (.str ⟨#[]⟩), .nils, .nils, .nils, .nils, .nils] [(0, 4, (.t 76)), (5, 1, (.t 79))]),
 x3 8 4 80])
 .ret))))
 (.seq
 (.reg [x7 82 21 5,
 mv 81 82])
 (.cond (.t 81)
 (.seq
 (.reg [x1 83 2,
 x4 84 9 3,
 y2 85 335 83 84,
 x3 8 4 85])
 .ret)
 (.seq
 (.reg [x7 87 21 6,
 mv 86 87])
 (.cond (.t 86)
 (.seq
 (.reg [oo 11 (.new 343 (.c (.agg [(.int .i64 0), (.int .i64 0), (.str ⟨#[]⟩), .nils, .nils, .nils, .nils, .nils])))])
 (.seq
 (.reg [x1 88 2,
 x2 89 6 3,
 x1 90 89,
 oo 91 (.mkfn (.func 336) [] [(.t 2), (.t 3), (.t 11)]),
 oo 92 (.call 99 [(.t 88), (.t 90), (.t 91)]),
 x2 93 7 11,
 x3 1 93 92])
 (.seq
 (.reg [x2 94 5 11,
 x1 95 94,
 oo 96 (.iaddr 8 (.t 95) (.c (.int .i64 0))),
 x2 97 0 96,
 x4 98 4 97,
 x2 99 0 11,
 x3 4 99 98])
 (.seq
 (.reg [x4 100 8 11,
 x3 8 4 100])
 .ret))))
 (.seq
 (.reg [x7 102 21 8,
 mv 101 102])
 (.cond (.t 101)
 (.seq
 (.draw [12] [([⟨(some 103), .load none (.t 2), none⟩], []),
 ([⟨(some 104), .faddr 4 (.t 3), none⟩], []),
 ([⟨(some 105), .load none (.t 104), none⟩], []),
 ([⟨(some 106), .iaddr 9 (.t 105) (.c (.int .i64 0)), none⟩], []),
 ([⟨(some 107), .load (some 9) (.t 106), none⟩], []),
 ([⟨(some 108), .call 309 [(.t 103), (.t 107)], none⟩], []),
 ([⟨(some 12), .new 343 (.c (.agg [(.int .i64 0), (.int .i64 0), (.str ⟨#[]⟩), .nils, .nils, .nils, .nils, .nils])), none⟩, x3 8 12 108], [])])
 (.seq
 (.draw [] [([⟨(some 109), .load none (.t 2), none⟩], []),
 ([⟨(some 110), .faddr 0 (.t 12), none⟩], []),
 ([⟨(some 111), .load (some 4) (.t 110), none⟩], []),
 ([⟨(some 113), .faddr 4 (.t 3), none⟩], []),
 ([⟨(some 114), .load none (.t 113), none⟩], []),
 ([⟨(some 115), .iaddr 9 (.t 114) (.c (.int .i64 0)), none⟩], []),
 ([⟨(some 116), .faddr 7 (.t 115), none⟩], []),
 ([⟨(some 117), .load (some 2) (.t 116), none⟩], []),
 ([⟨(some 112), .call 305 [(.c (.str ⟨#[66, 111, 111, 108]⟩))], none⟩], [⟨(some 109), .load none (.t 2), none⟩, ⟨(some 110), .faddr 0 (.t 12), none⟩, ⟨(some 111), .load (some 4) (.t 110), none⟩, ⟨(some 113), .faddr 4 (.t 3), none⟩, ⟨(some 114), .load none (.t 113), none⟩, ⟨(some 115), .iaddr 9 (.t 114) (.c (.int .i64 0)), none⟩, ⟨(some 116), .faddr 7 (.t 115), none⟩, ⟨(some 117), .load (some 2) (.t 116), none⟩]),
 ([⟨(some 118), .call 262 [(.t 109), (.t 111), (.t 112), (.t 117)], none⟩], [])])
 (.seq
 (.draw [13, 14] [([⟨(some 119), .load none (.t 2), none⟩], []),
 ([⟨(some 120), .faddr 4 (.t 3), none⟩], []),
 ([⟨(some 121), .load none (.t 120), none⟩], []),
 ([⟨(some 122), .iaddr 9 (.t 121) (.c (.int .i64 1)), none⟩], []),
 ([⟨(some 123), .load (some 9) (.t 122), none⟩], []),
 ([⟨(some 125), .load none (.t 2), none⟩], []),
 ([⟨(some 126), .faddr 4 (.t 3), none⟩], []),
 ([⟨(some 127), .load none (.t 126), none⟩], []),
 ([⟨(some 128), .iaddr 9 (.t 127) (.c (.int .i64 2)), none⟩], []),
 ([⟨(some 129), .load (some 9) (.t 128), none⟩], []),
 ([⟨(some 124), .call 309 [(.t 119), (.t 123)], none⟩], [⟨(some 125), .load none (.t 2), none⟩, ⟨(some 126), .faddr 4 (.t 3), none⟩, ⟨(some 127), .load none (.t 126), none⟩, ⟨(some 128), .iaddr 9 (.t 127) (.c (.int .i64 2)), none⟩, ⟨(some 129), .load (some 9) (.t 128), none⟩]),
 ([⟨(some 130), .call 309 [(.t 125), (.t 129)], none⟩], []),
 ([⟨(some 13), .new 343 (.c (.agg [(.int .i64 0), (.int .i64 0), (.str ⟨#[]⟩), .nils, .nils, .nils, .nils, .nils])), none⟩, x3 8 13 124], []),
 ([⟨(some 14), .new 343 (.c (.agg [(.int .i64 0), (.int .i64 0), (.str ⟨#[]⟩), .nils, .nils, .nils, .nils, .nils])), none⟩, x3 8 14 130], [])])
 (.seq
 (.reg [x1 131 2,
 x2 132 0 13,
 x4 133 4 132,
 x2 134 0 14,
 x4 135 4 134,
 x2 136 4 3,
 x1 137 136,
 oo 138 (.iaddr 9 (.t 137) (.c (.int .i64 2))),
 x2 139 7 138,
 x4 140 2 139,
 oo 141 (.call 262 [(.t 131), (.t 133), (.t 135), (.t 140)])])
 (.seq
 (.reg [x2 142 0 13,
 x4 143 4 142,
 x4 144 8 12,
 x4 145 8 13,
 x4 146 8 14,
 oo 147 (.lit true 343 8 [(.t 144), (.t 145), (.t 146)]),
 oo 148 (.build [(.int .i64 0), (.int .i64 0), (.str ⟨#[]⟩), .nils, .nils, .nils, .nils, .nils] [(0, 4, (.t 143)), (5, 1, (.t 147))]),
 x3 8 4 148])
 .ret)))))
 .skip))))))))))))))))
 (.seq
 (.reg [x1 149 2,
 x4 150 9 3,
 y2 151 337 149 150,
 x3 8 4 151])
 .ret))))
theorem ent309 : EntOK Tryz.prog 309 ⟨152, v309, [.cell 4 (some 8)]⟩ := fun args σ K ha h =>
 enter (own := List.range 152) Tryz.func309 (by kernel_rfl) (by kernel_rfl) (by kernel_rfl) ha h
def v311 : ACode :=
(.seq
 (.reg [y8 3 137 1,
 oo 4 (.new 137 (.c (.agg [(.int .i64 0), (.int .i64 0), (.str ⟨#[]⟩), .nils])))])
 (.seq
 (.block 0
 (.loop
 (.seq
 (.seq
 (.reg [x2 7 0 3,
 x1 8 7,
 x7 9 8 1])
 (.cond (.t 9)
 .skip
 (.exit 0)))
 (.block 1
 (.seq
 (.draw [] [([⟨(some 11), .move (.t 0), none⟩], []),
 ([⟨(some 12), .nilck (.t 11), none⟩], []),
 ([⟨(some 13), .faddr 0 (.t 12), none⟩], []),
 ([⟨(some 14), .load none (.t 13), none⟩], []),
 ([⟨(some 15), .faddr 1 (.t 3), none⟩], []),
 ([⟨(some 16), .load none (.t 15), none⟩], []),
 ([⟨(some 17), .lookup .int (.agg [(.int .i64 0), (.int .i64 0), (.str ⟨#[]⟩), .nils]) true (.t 14) (.t 16), none⟩], []),
 ([⟨(some 10), .move (.t 17), none⟩], []),
 ([⟨(some 18), .extract (.t 10) 0, none⟩], []),
 ([⟨(some 19), .extract (.t 10) 1, none⟩], []),
 ([⟨(some 5), .new 137 (.c (.agg [(.int .i64 0), (.int .i64 0), (.str ⟨#[]⟩), .nils])), none⟩], [⟨(some 13), .faddr 0 (.t 12), none⟩, ⟨(some 14), .load none (.t 13), none⟩, ⟨(some 15), .faddr 1 (.t 3), none⟩, ⟨(some 16), .load none (.t 15), none⟩, ⟨(some 17), .lookup .int (.agg [(.int .i64 0), (.int .i64 0), (.str ⟨#[]⟩), .nils]) true (.t 14) (.t 16), none⟩]),
 ([x3 4 5 18], []),
 ([⟨(some 6), .move (.t 19), none⟩], [])])
 (.seq
 (.seq
 (.reg [mv 20 6,
 oo 21 (.not (.t 20))])
 (.cond (.t 21)
 (.seq
 (.reg [x4 22 4 3,
 x3 4 4 22])
 .ret)
 .skip))
 (.reg [x4 23 4 5,
 x3 4 3 23])))))))
 (.seq
 (.reg [x4 24 4 3,
 x3 4 4 24])
 .ret)))
theorem ent311 : EntOK Tryz.prog 311 ⟨25, v311, [.cell 4 (some 4)]⟩ := fun args σ K ha h =>
 enter (own := List.range 25) Tryz.func311 (by kernel_rfl) (by kernel_rfl) (by kernel_rfl) ha h
def v313 : ACode :=
(.seq
 (.reg [y9 2])
 (.seq
 (.seq
 (.reg [mv 3 0,
 oo 4 (.nileq .slice false (.t 3) (.c .nils))])
 (.cond (.t 4)
 (.seq
 (.reg [y9 2])
 .ret)
 .skip))
 (.seq
 (.reg [oo 5 (.lit true 124 2 []),
 mv 6 0,
 z7 7 124 2 48 5 6,
 mv 2 7])
 .ret)))
theorem ent313 : EntOK Tryz.prog 313 ⟨8, v313, [.slot 2]⟩ := fun args σ K ha h =>
 enter (own := List.range 8) Tryz.func313 (by kernel_rfl) (by kernel_rfl) (by kernel_rfl) ha h
def v314 : ACode :=
(.seq
 (.reg [y8 4 187 1,
 y8 5 435 2])
 (.seq
 (.reg [mv 6 0,
 y3 7 6,
 x2 8 1 7,
 x1 9 8,
 x6 10 9 1,
 y3 11 6,
 x2 12 1 11,
 x3 1 12 10])
 (.seq
 (.seq
 (.reg [x2 13 0 4,
 x1 14 13,
 x7 15 14 3,
 mv 16 15,
 z1 17 16 0 4,
 z3 18 16 17,
 og 19 16 false (.bin .int .eql (.t 18) (.c (.int .i64 4))),
 y4 20 16 19])
 (.cond (.t 20)
 (.draw [] [([⟨(some 21), .move (.t 0), none⟩], []),
 ([⟨(some 22), .nilck (.t 21), none⟩], []),
 ([⟨(some 23), .faddr 2 (.t 22), none⟩], []),
 ([⟨(some 24), .load none (.t 23), none⟩], []),
 ([⟨(some 25), .load none (.t 5), none⟩], []),
 ([⟨(some 26), .build [(.int .i64 0), (.str ⟨#[]⟩), (.int .i64 0), .nils, (.int .i64 0), (.int .i64 0)] [(0, 1, (.c (.int .i64 1)))], none⟩], []),
 ([⟨(some 27), .callv (.t 25) [(.t 26)], none⟩], [⟨(some 23), .faddr 2 (.t 22), none⟩, ⟨(some 24), .load none (.t 23), none⟩]),
 ([⟨(some 28), .callv (.t 24) [(.c (.int .i64 5)), (.t 27)], none⟩], [])])
 .skip))
 (.seq
 (.seq
 (.reg [x2 29 0 4,
 x1 30 29,
 x7 31 30 3])
 (.cond (.t 31)
 (.seq
 (.draw [] [([⟨(some 32), .move (.t 0), none⟩], []),
 ([⟨(some 33), .nilck (.t 32), none⟩], []),
 ([⟨(some 34), .faddr 2 (.t 33), none⟩], []),
 ([⟨(some 35), .load none (.t 34), none⟩], []),
 ([⟨(some 36), .load none (.t 5), none⟩], []),
 ([⟨(some 37), .faddr 2 (.t 4), none⟩], []),
 ([⟨(some 38), .load none (.t 37), none⟩], []),
 ([⟨(some 39), .call 339 [(.t 38), (.c (.int .i64 1))], none⟩], [⟨(some 34), .faddr 2 (.t 33), none⟩, ⟨(some 35), .load none (.t 34), none⟩, ⟨(some 36), .load none (.t 5), none⟩]),
 ([⟨(some 40), .build [(.int .i64 0), (.str ⟨#[]⟩), (.int .i64 0), .nils, (.int .i64 0), (.int .i64 0)] [(0, 1, (.c (.int .i64 3))), (2, 1, (.t 39))], none⟩], []),
 ([⟨(some 41), .callv (.t 36) [(.t 40)], none⟩], [⟨(some 34), .faddr 2 (.t 33), none⟩, ⟨(some 35), .load none (.t 34), none⟩]),
 ([⟨(some 42), .callv (.t 35) [(.c (.int .i64 6)), (.t 41)], none⟩], [])])
 (.draw [] [([⟨(some 43), .move (.t 0), none⟩], []),
 ([⟨(some 44), .nilck (.t 43), none⟩], []),
 ([⟨(some 45), .faddr 2 (.t 44), none⟩], []),
 ([⟨(some 46), .load none (.t 45), none⟩], []),
 ([⟨(some 47), .load none (.t 5), none⟩], []),
 ([⟨(some 48), .faddr 2 (.t 4), none⟩], []),
 ([⟨(some 49), .load none (.t 48), none⟩], []),
 ([⟨(some 50), .call 339 [(.t 49), (.c (.int .i64 (-1)))], none⟩], [⟨(some 45), .faddr 2 (.t 44), none⟩, ⟨(some 46), .load none (.t 45), none⟩, ⟨(some 47), .load none (.t 5), none⟩]),
 ([⟨(some 51), .build [(.int .i64 0), (.str ⟨#[]⟩), (.int .i64 0), .nils, (.int .i64 0), (.int .i64 0)] [(0, 1, (.c (.int .i64 3))), (2, 1, (.t 50))], none⟩], []),
 ([⟨(some 52), .callv (.t 47) [(.t 51)], none⟩], [⟨(some 45), .faddr 2 (.t 44), none⟩, ⟨(some 46), .load none (.t 45), none⟩]),
 ([⟨(some 53), .callv (.t 46) [(.c (.int .i64 7)), (.t 52)], none⟩], [])]))
 .skip))
 (.reg [mv 54 0,
 x2 55 3 4,
 x1 56 55,
 oo 57 (.mkfn (.func 340) [] [(.t 4), (.t 5)]),
 oo 58 (.call 281 [(.t 54), (.t 56), (.t 57)])])))))
theorem ent314 : EntOK Tryz.prog 314 ⟨59, v314, []⟩ := fun args σ K ha h =>
 enter (own := List.range 59) Tryz.func314 (by kernel_rfl) (by kernel_rfl) (by kernel_rfl) ha h
def v318 : ACode :=
(.seq
 (.reg [y8 5 195 2,
 y9 6])
 (.seq
 (.reg [mv 8 0,
 y5 9 342 8,
 mv 7 9])
 (.seq
 (.reg [mv 10 7,
 mv 11 1,
 x4 12 10 5,
 x8 13 10 10 11,
 x3 10 13 12])
 (.seq
 (.reg [mv 14 7,
 mv 6 14])
 .ret))))
theorem ent318 : EntOK Tryz.prog 318 ⟨15, v318, [.slot 6]⟩ := fun args σ K ha h =>
 enter (own := List.range 15) Tryz.func318 (by kernel_rfl) (by kernel_rfl) (by kernel_rfl) ha h
def v319 : ACode :=
(.seq
 (.reg [y8 5 193 2,
 y9 6])
 (.seq
 (.reg [mv 8 0,
 y5 9 343 8,
 mv 7 9])
 (.seq
 (.reg [mv 10 7,
 mv 11 1,
 x4 12 9 5,
 x8 13 9 10 11,
 x3 9 13 12])
 (.seq
 (.reg [mv 14 7,
 mv 6 14])
 .ret))))
theorem ent319 : EntOK Tryz.prog 319 ⟨15, v319, [.slot 6]⟩ := fun args σ K ha h =>
 enter (own := List.range 15) Tryz.func319 (by kernel_rfl) (by kernel_rfl) (by kernel_rfl) ha h
def v321 : ACode :=
(.seq
 (.reg [y8 4 193 1,
 y8 5 438 2])
 (.seq
 (.reg [mv 11 0,
 y3 12 11,
 x2 13 1 12,
 x1 14 13,
 x6 15 14 1,
 y3 16 11,
 x2 17 1 16,
 x3 1 17 15])
 (.seq
 (.reg [mv 18 0,
 x4 19 9 4,
 x1 20 5,
 oo 21 (.call 344 [(.t 18), (.t 19), (.t 20)])])
 (.seq
 (.seq
 (.reg [x2 22 0 4,
 x1 23 22,
 x7 24 23 6])
 (.cond (.t 24)
 (.reg [mv 25 0,
 x2 26 6 4,
 x1 27 26,
 oo 28 (.mkfn (.func 345) [] [(.t 4), (.t 5)]),
 oo 29 (.call 178 [(.t 25), (.t 27), (.t 28)])])
 .skip))
 (.seq
 (.seq
 (.reg [x2 30 4 4,
 x1 31 30,
 y1 32 31,
 x5 33 0])
 (.block 0
 (.loop
 (.seq
 (.reg [x9 34 33 32])
 (.seq
 (.cond (.t 34)
 .skip
 (.exit 0))
 (.seq
 (.block 1
 (.seq
 (.reg [mv 35 33,
 x8 36 9 31 33,
 x4 37 9 36,
 oo 6 (.new 3 (.c (.int .i64 0))),
 oo 7 (.new 193 (.c (.agg [(.int .i64 0), (.str ⟨#[]⟩), (.int .i64 0), .nils, .nils, .nils, .nils, (.int .i64 0), (.int .i64 0)]))),
 x3 1 6 35,
 x3 9 7 37])
 (.reg [mv 38 0,
 x4 39 9 7,
 oo 40 (.mkfn (.func 346) [] [(.t 4), (.t 6), (.t 5)]),
 oo 41 (.call 321 [(.t 38), (.t 39), (.t 40)])])))
 (.reg [x6 42 33 1,
 mv 33 42])))))))
 (.seq
 (.reg [x2 43 5 4,
 x1 44 43,
 y1 45 44,
 x5 46 0])
 (.block 2
 (.loop
 (.seq
 (.reg [x9 47 46 45])
 (.seq
 (.cond (.t 47)
 .skip
 (.exit 2))
 (.seq
 (.block 3
 (.seq
 (.reg [mv 48 46,
 x8 49 7 44 46,
 x4 50 7 49,
 oo 8 (.new 3 (.c (.int .i64 0))),
 oo 9 (.new 255 (.c (.agg [(.int .i64 0), (.str ⟨#[]⟩), (.int .i64 0), .nils, (.int .i64 0), (.int .i64 0), .nils]))),
 x3 1 8 48,
 x3 7 9 50])
 (.seq
 (.reg [oo 51 (.mkfn (.func 347) [] [(.t 4), (.t 8), (.t 5)]),
 oo 10 (.new 454 (.c .nilf)),
 x3 1 10 51])
 (.seq
 (.reg [mv 52 0,
 x2 53 0 9,
 x4 54 6 53,
 oo 55 (.mkfn (.func 349) [] [(.t 10), (.t 9)]),
 oo 56 (.call 314 [(.t 52), (.t 54), (.t 55)])])
 (.reg [mv 57 0,
 x2 58 6 9,
 x1 59 58,
 oo 60 (.mkfn (.func 350) [] [(.t 10), (.t 9)]),
 oo 61 (.call 284 [(.t 57), (.t 59), (.t 60)])])))))
 (.reg [x6 62 46 1,
 mv 46 62]))))))))))))
theorem ent321 : EntOK Tryz.prog 321 ⟨63, v321, []⟩ := fun args σ K ha h =>
 enter (own := List.range 63) Tryz.func321 (by kernel_rfl) (by kernel_rfl) (by kernel_rfl) ha h
def v322 : ACode :=
(.seq
 (.reg [y8 5 193 0,
 oo 6 (.new 49 q1)])
 (.seq
 (.draw [] [([⟨(some 7), .load none (.t 1), none⟩], []),
 ([⟨(some 8), .load none (.t 2), none⟩], []),
 ([⟨(some 9), .load none (.t 3), none⟩], []),
 ([⟨(some 10), .faddr 0 (.t 4), none⟩], []),
 ([⟨(some 11), .load none (.t 10), none⟩], []),
 ([⟨(some 12), .load (some 9) (.t 5), none⟩], []),
 ([⟨(some 13), .build [.nils, (.int .i64 0), (.str ⟨#[]⟩), (.int .i64 0), .nils, .nils, .nils, .nils, (.int .i64 0), (.int .i64 0)] [(0, 1, (.t 11)), (1, 9, (.t 12))], none⟩], []),
 ([⟨(some 14), .call 318 [(.t 8), (.t 9), (.t 13)], none⟩], [⟨(some 7), .load none (.t 1), none⟩]),
 ([⟨(some 15), .callv (.t 7) [(.t 14)], none⟩], []),
 ([x3 3 6 15], [])])
 .ret))
theorem ent322 : EntOK Tryz.prog 322 ⟨16, v322, [.cell 6 (some 3)]⟩ := fun args σ K ha h =>
 enter (own := List.range 16) Tryz.func322 (by kernel_rfl) (by kernel_rfl) (by kernel_rfl) ha h
def v325 : ACode :=
(.seq
 (.reg [y6 2])
 (.seq
 (.reg [mv 3 0,
 oo 4 (.bin .int .geq (.t 3) (.c (.int .i64 6))),
 mv 5 4,
 z6 6 5 0,
 og 7 5 true (.bin .int .leq (.t 6) (.c (.int .i64 11))),
 y7 8 5 7,
 mv 2 8])
 .ret))
theorem ent325 : EntOK Tryz.prog 325 ⟨9, v325, [.slot 2]⟩ := fun args σ K ha h =>
 enter (own := List.range 9) Tryz.func325 (by kernel_rfl) (by kernel_rfl) (by kernel_rfl) ha h
def v326 : ACode :=
(.seq
 (.reg [y8 2 256 0,
 y8 3 193 1])
 (.seq
 (.reg [oo 12 (.mkfn (.func 351) [] [(.t 3), (.t 2)]),
 mv 4 12])
 (.seq
 (.reg [x2 13 0 3,
 x1 14 13])
 (.block 0
 (.seq
 (.reg [x7 33 14 1,
 mv 32 33])
 (.cond (.t 32)
 (.seq
 (.reg [x2 34 1 3,
 x1 35 34,
 y5 36 199 35,
 x7 37 36 0,
 mv 38 37,
 z4 39 38 2,
 og 40 38 true (.nilck (.t 39)),
 z2 41 38 1 40,
 z4 42 38 41,
 z2 43 38 1 3,
 z4 44 38 43,
 og 45 38 true (.call 148 [(.t 42), (.t 44)]),
 og 46 38 true (.not (.t 45)),
 y7 47 38 46])
 (.cond (.t 47)
 (.reg [x1 48 2,
 x2 49 7 3,
 x4 50 2 49,
 oo 51 (.call 149 [(.t 48), (.c (.int .i64 81)), (.t 50)])])
 .skip))
 (.seq
 (.reg [x7 53 14 2,
 mv 52 53])
 (.cond (.t 52)
 (.seq
 (.draw [5] [([⟨(some 55), .load none (.t 2), none⟩], []),
 ([⟨(some 56), .nilck (.t 55), none⟩], []),
 ([⟨(some 57), .faddr 0 (.t 56), none⟩], []),
 ([⟨(some 58), .load none (.t 57), none⟩], []),
 ([⟨(some 59), .faddr 1 (.t 3), none⟩], []),
 ([⟨(some 60), .load none (.t 59), none⟩], []),
 ([⟨(some 61), .call 287 [(.t 58), (.t 60)], none⟩], []),
 ([⟨(some 54), .move (.t 61), none⟩], []),
 ([⟨(some 62), .extract (.t 54) 0, none⟩], []),
 ([⟨(some 63), .extract (.t 54) 1, none⟩], []),
 ([⟨(some 5), .new 303 (.c (.agg [(.str ⟨#[]⟩), (.str ⟨#[]⟩), (.int .i64 0), (.int .i64 0), .nils])), none⟩, x3 5 5 62], []),
 ([⟨(some 6), .move (.t 63), none⟩], [])])
 (.seq
 (.reg [mv 64 6,
 oo 65 (.not (.t 64))])
 (.cond (.t 65)
 (.reg [x1 66 2,
 x2 67 7 3,
 x4 68 2 67,
 oo 69 (.call 149 [(.t 66), (.c (.int .i64 81)), (.t 68)])])
 .skip)))
 (.seq
 (.reg [x7 71 14 5,
 mv 70 71])
 (.cond (.t 70)
 (.seq
 (.reg [x2 72 3 3,
 x1 73 72,
 y5 74 352 73,
 mv 7 74])
 (.seq
 (.seq
 (.reg [mv 75 7,
 y1 76 75,
 x5 77 0])
 (.block 3
 (.loop
 (.seq
 (.reg [x9 78 77 76])
 (.seq
 (.cond (.t 78)
 .skip
 (.exit 3))
 (.seq
 (.block 4
 (.seq
 (.reg [mv 79 77,
 x8 80 1 75 77,
 x1 81 80,
 mv 8 79,
 mv 9 81])
 (.seq
 (.reg [mv 82 7,
 mv 83 8,
 oo 84 (.cut .slice 1 (.t 82) none (some (.t 83))),
 mv 85 9,
 y2 86 148 84 85])
 (.cond (.t 86)
 (.reg [x1 87 2,
 x2 88 7 3,
 x4 89 2 88,
 oo 90 (.call 149 [(.t 87), (.c (.int .i64 80)), (.t 89)])])
 .skip))))
 (.reg [x6 91 77 1,
 mv 77 91])))))))
 (.reg [x1 92 2,
 mv 93 7,
 mv 94 4,
 oo 95 (.call 200 [(.t 92), (.t 93), (.t 94)])])))
 (.seq
 (.reg [x7 97 14 6,
 mv 96 97])
 (.cond (.t 96)
 (.reg [x1 98 2,
 x2 99 6 3,
 x1 100 99,
 mv 101 4,
 oo 102 (.call 150 [(.t 98), (.t 100), (.t 101)])])
 (.seq
 (.reg [mv 15 4,
 oo 16 (.callv (.t 15) [])])
 (.seq
 (.reg [x2 17 5 3,
 x1 18 17,
 y1 19 18,
 x5 20 0])
 (.block 1
 (.loop
 (.seq
 (.reg [x9 21 20 19])
 (.seq
 (.cond (.t 21)
 .skip
 (.exit 1))
 (.seq
 (.block 2
 (.seq
 (.reg [x8 22 7 18 20,
 x4 23 7 22,
 oo 11 (.new 255 (.c (.agg [(.int .i64 0), (.str ⟨#[]⟩), (.int .i64 0), .nils, (.int .i64 0), (.int .i64 0), .nils]))),
 x3 7 11 23])
 (.reg [x1 24 2,
 x2 25 0 11,
 x4 26 6 25,
 z8 27 187 6 26,
 x2 28 6 11,
 x1 29 28,
 oo 30 (.call 255 [(.t 24), (.t 27), (.t 29)])])))
 (.reg [x6 31 20 1,
 mv 20 31]))))))))))))))))))))
theorem ent326 : EntOK Tryz.prog 326 ⟨103, v326, []⟩ := fun args σ K ha h =>
 enter (own := List.range 103) Tryz.func326 (by kernel_rfl) (by kernel_rfl) (by kernel_rfl) ha h
def v327 : ACode :=
(.seq
 (.reg [y8 1 187 0,
 y9 2])
 (.seq
 (.reg [y9 3])
 (.seq
 (.seq
 (.reg [x4 6 6 1,
 y5 7 168 6,
 oo 8 (.not (.t 7))])
 (.cond (.t 8)
 (.seq
 (.reg [mv 9 3,
 mv 2 9])
 .ret)
 .skip))
 (.seq
 (.seq
 (.reg [x2 10 0 1,
 x1 11 10,
 x7 12 11 2])
 (.cond (.t 12)
 (.reg [mv 13 3,
 x2 14 1 1,
 x1 15 14,
 z8 16 9 1 15,
 z7 17 9 1 16 13 16,
 mv 3 17])
 .skip))
 (.seq
 (.seq
 (.reg [x2 18 3 1,
 x1 19 18,
 y1 20 19,
 x5 21 0])
 (.block 0
 (.loop
 (.seq
 (.reg [x9 22 21 20])
 (.seq
 (.cond (.t 22)
 .skip
 (.exit 0))
 (.seq
 (.block 1
 (.seq
 (.reg [x8 23 6 19 21,
 x4 24 6 23,
 oo 5 (.new 187 (.c (.agg [(.int .i64 0), (.str ⟨#[]⟩), (.int .i64 0), .nils, (.int .i64 0), (.int .i64 0)]))),
 x3 6 5 24])
 (.reg [mv 25 3,
 x4 26 6 5,
 y5 27 327 26,
 z7 28 9 1 16 25 27,
 mv 3 28])))
 (.reg [x6 29 21 1,
 mv 21 29])))))))
 (.seq
 (.reg [mv 30 3,
 mv 2 30])
 .ret))))))
theorem ent327 : EntOK Tryz.prog 327 ⟨31, v327, [.slot 2]⟩ := fun args σ K ha h =>
 enter (own := List.range 31) Tryz.func327 (by kernel_rfl) (by kernel_rfl) (by kernel_rfl) ha h
def v328 : ACode :=
(.seq
 (.reg [mv 7 0,
 y3 8 7,
 x2 9 0 8,
 x1 10 9,
 y1 11 10,
 mv 6 11])
 (.seq
 (.reg [mv 12 0,
 mv 13 0,
 y3 14 13,
 x2 15 0 14,
 x1 16 15,
 mv 17 1,
 z7 18 9 1 16 16 17,
 y3 19 12,
 x2 20 0 19,
 x3 1 20 18])
 (.seq
 (.reg [mv 21 2,
 oo 22 (.callv (.t 21) [])])
 (.reg [mv 23 0,
 mv 24 0,
 y3 25 24,
 x2 26 0 25,
 x1 27 26,
 mv 28 6,
 oo 29 (.cut .slice 1 (.t 27) none (some (.t 28))),
 y3 30 23,
 x2 31 0 30,
 x3 1 31 29]))))
theorem ent328 : EntOK Tryz.prog 328 ⟨32, v328, []⟩ := fun args σ K ha h =>
 enter (own := List.range 32) Tryz.func328 (by kernel_rfl) (by kernel_rfl) (by kernel_rfl) ha h
def v329 : ACode :=
(.seq
 (.reg [x1 6 0,
 y1 7 6,
 x5 8 0])
 (.block 0
 (.loop
 (.seq
 (.reg [x9 9 8 7])
 (.seq
 (.cond (.t 9)
 .skip
 (.exit 0))
 (.seq
 (.block 1
 (.seq
 (.reg [x8 10 10 6 8,
 x4 11 10 10,
 oo 3 (.new 195 (.c (.agg [.nils, (.int .i64 0), (.str ⟨#[]⟩), (.int .i64 0), .nils, .nils, .nils, .nils, (.int .i64 0), (.int .i64 0)]))),
 x3 10 3 11])
 (.seq
 (.seq
 (.reg [x2 12 0 3,
 x1 13 12,
 y1 14 13,
 x5 15 0])
 (.block 2
 (.loop
 (.seq
 (.reg [x9 16 15 14])
 (.seq
 (.cond (.t 16)
 .skip
 (.exit 2))
 (.seq
 (.block 3
 (.seq
 (.reg [x8 17 9 13 15,
 x4 18 9 17,
 oo 5 (.new 193 (.c (.agg [(.int .i64 0), (.str ⟨#[]⟩), (.int .i64 0), .nils, .nils, .nils, .nils, (.int .i64 0), (.int .i64 0)]))),
 x3 9 5 18])
 (.reg [x1 19 1,
 x4 20 9 5,
 y2 21 330 19 20])))
 (.reg [x6 22 15 1,
 mv 15 22])))))))
 (.reg [x1 23 1,
 x2 24 1 3,
 x4 25 9 24,
 y2 26 330 23 25]))))
 (.reg [x6 27 8 1,
 mv 8 27])))))))
theorem ent329 : EntOK Tryz.prog 329 ⟨28, v329, []⟩ := fun args σ K ha h =>
 enter (own := List.range 28) Tryz.func329 (by kernel_rfl) (by kernel_rfl) (by kernel_rfl) ha h
def v330 : ACode :=
(.seq
 (.reg [y8 2 369 0,
 y8 3 193 1])
 (.seq
 (.reg [oo 8 (.mkfn (.func 353) [] [(.t 3), (.t 2)]),
 oo 4 (.new 1 (.c .nilf)),
 x3 1 4 8])
 (.seq
 (.reg [x2 9 0 3,
 x1 10 9])
 (.block 0
 (.seq
 (.reg [x7 29 10 1,
 mv 28 29])
 (.cond (.t 28)
 (.reg [x1 30 2,
 x2 31 1 3,
 x1 32 31,
 y2 33 354 30 32])
 (.seq
 (.reg [x7 35 10 4,
 mv 34 35])
 (.cond (.t 34)
 (.seq
 (.seq
 (.reg [x2 36 4 3,
 x1 37 36,
 oo 38 (.iaddr 9 (.t 37) (.c (.int .i64 0))),
 x4 39 9 38,
 oo 5 (.new 193 (.c (.agg [(.int .i64 0), (.str ⟨#[]⟩), (.int .i64 0), .nils, .nils, .nils, .nils, (.int .i64 0), (.int .i64 0)]))),
 x3 9 5 39])
 (.seq
 (.reg [x2 40 0 5,
 x1 41 40,
 x7 42 41 4,
 mv 43 42,
 z2 44 43 4 5,
 z4 45 43 44,
 og 46 43 true (.iaddr 9 (.t 45) (.c (.int .i64 0))),
 og 47 43 true (.load (some 9) (.t 46)),
 og 48 43 true (.call 355 [(.t 47)]),
 y7 49 43 48])
 (.cond (.t 49)
 (.seq
 (.reg [x1 50 2,
 x2 51 4 5,
 x1 52 51,
 oo 53 (.iaddr 9 (.t 52) (.c (.int .i64 1))),
 x4 54 9 53,
 y2 55 330 50 54])
 (.seq
 (.reg [x1 56 2,
 x2 57 4 5,
 x1 58 57,
 oo 59 (.iaddr 9 (.t 58) (.c (.int .i64 0))),
 x4 60 9 59,
 y2 61 330 56 60])
 (.seq
 (.reg [x1 62 2,
 x2 63 4 3,
 x1 64 63,
 oo 65 (.iaddr 9 (.t 64) (.c (.int .i64 1))),
 x4 66 9 65,
 y2 67 330 62 66])
 .ret)))
 .skip)))
 (.reg [x1 68 4,
 oo 69 (.callv (.t 68) [])]))
 (.seq
 (.reg [x7 71 10 5,
 mv 70 71])
 (.cond (.t 70)
 (.draw [] [([⟨(some 72), .load none (.t 2), none⟩], []),
 ([⟨(some 73), .faddr 3 (.t 3), none⟩], []),
 ([⟨(some 74), .load none (.t 73), none⟩], []),
 ([⟨(some 76), .load none (.t 4), none⟩], []),
 ([⟨(some 75), .call 352 [(.t 74)], none⟩], [⟨(some 72), .load none (.t 2), none⟩, ⟨(some 76), .load none (.t 4), none⟩]),
 ([⟨(some 77), .call 328 [(.t 72), (.t 75), (.t 76)], none⟩], [])])
 (.seq
 (.reg [x7 79 10 6,
 mv 78 79])
 (.cond (.t 78)
 (.draw [] [([⟨(some 80), .load none (.t 2), none⟩], []),
 ([⟨(some 81), .faddr 6 (.t 3), none⟩], []),
 ([⟨(some 82), .load none (.t 81), none⟩], []),
 ([⟨(some 84), .mkfn (.func 357) [] [(.t 2), (.t 3), (.t 4)], none⟩], []),
 ([⟨(some 83), .call 356 [(.t 82)], none⟩], [⟨(some 80), .load none (.t 2), none⟩]),
 ([⟨(some 85), .call 328 [(.t 80), (.t 83), (.t 84)], none⟩], [])])
 (.seq
 (.reg [x1 11 4,
 oo 12 (.callv (.t 11) [])])
 (.seq
 (.reg [x2 13 5 3,
 x1 14 13,
 y1 15 14,
 x5 16 0])
 (.block 1
 (.loop
 (.seq
 (.reg [x9 17 16 15])
 (.seq
 (.cond (.t 17)
 .skip
 (.exit 1))
 (.seq
 (.block 2
 (.seq
 (.reg [x8 18 7 14 16,
 x4 19 7 18,
 oo 7 (.new 255 (.c (.agg [(.int .i64 0), (.str ⟨#[]⟩), (.int .i64 0), .nils, (.int .i64 0), (.int .i64 0), .nils]))),
 x3 7 7 19])
 (.reg [x1 20 2,
 x2 21 0 7,
 x4 22 6 21,
 z8 23 187 6 22,
 x2 24 6 7,
 x1 25 24,
 oo 26 (.call 302 [(.t 20), (.t 23), (.t 25)])])))
 (.reg [x6 27 16 1,
 mv 16 27]))))))))))))))))))))
theorem ent330 : EntOK Tryz.prog 330 ⟨86, v330, []⟩ := fun args σ K ha h =>
 enter (own := List.range 86) Tryz.func330 (by kernel_rfl) (by kernel_rfl) (by kernel_rfl) ha h
def v331 : ACode :=
(.seq
 (.reg [oo 4 (.new 443 q2)])
 (.seq
 (.reg [mv 5 0,
 y3 6 5,
 x2 7 6 6,
 x1 8 7,
 x6 9 8 1,
 y3 10 5,
 x2 11 6 10,
 x3 1 11 9])
 (.seq
 (.reg [mv 12 0,
 y3 13 12,
 x2 14 1 13,
 x1 15 14,
 mv 16 1,
 mv 17 0,
 y3 18 17,
 x2 19 2 18,
 x1 20 19,
 mv 21 1,
 mv 22 0,
 y3 23 22,
 x2 24 6 23,
 x1 25 24,
 mv 26 0,
 y3 27 26,
 x2 28 6 27,
 x1 29 28,
 x8 30 1 15 16,
 x3 1 30 25,
 x8 31 1 20 21,
 x3 1 31 29])
 (.seq
 (.reg [mv 32 0,
 mv 33 0,
 y3 34 33,
 x2 35 3 34,
 x1 36 35,
 mv 37 1,
 z8 38 3 1 37,
 z7 39 3 1 8 36 38,
 y3 40 32,
 x2 41 3 40,
 x3 1 41 39])
 (.seq
 (.reg [mv 42 0,
 y3 43 42,
 x2 44 4 43,
 x1 45 44,
 mv 46 1,
 x8 47 1 45 46,
 ⟨none, .store 1 (.t 47) (.c (.bool true)), none⟩])
 (.seq
 (.reg [mv 48 1,
 oo 49 (.build [(.int .i64 0), (.int .i64 0)] [(0, 1, (.t 48))]),
 x3 2 4 49])
 .ret))))))
theorem ent331 : EntOK Tryz.prog 331 ⟨50, v331, [.cell 4 (some 2)]⟩ := fun args σ K ha h =>
 enter (own := List.range 50) Tryz.func331 (by kernel_rfl) (by kernel_rfl) (by kernel_rfl) ha h
def v332 : ACode :=
(.seq
 (.seq
 (.reg [mv 5 0,
 y3 6 5,
 x2 7 2 6,
 x1 8 7,
 mv 9 1,
 x8 10 1 8 9,
 x1 11 10,
 mv 12 0,
 y3 13 12,
 x2 14 1 13,
 x1 15 14,
 mv 16 1,
 x8 17 1 15 16,
 x1 18 17,
 oo 19 (.bin .int .neq (.t 11) (.t 18))])
 (.cond (.t 19)
 .ret
 .skip))
 (.seq
 (.block 0
 (.loop
 (.block 1
 (.seq
 (.reg [mv 20 0,
 y3 21 20,
 x2 22 3 21,
 x1 23 22,
 mv 24 0,
 y3 25 24,
 x2 26 3 25,
 x1 27 26,
 y1 28 27,
 oo 29 (.bin .int .sub (.t 28) (.c (.int .i64 1))),
 x8 30 1 23 29,
 x1 31 30,
 mv 4 31])
 (.seq
 (.reg [mv 32 0,
 mv 33 0,
 y3 34 33,
 x2 35 3 34,
 x1 36 35,
 mv 37 0,
 y3 38 37,
 x2 39 3 38,
 x1 40 39,
 y1 41 40,
 oo 42 (.bin .int .sub (.t 41) (.c (.int .i64 1))),
 oo 43 (.cut .slice 1 (.t 36) none (some (.t 42))),
 y3 44 32,
 x2 45 3 44,
 x3 1 45 43])
 (.seq
 (.reg [mv 46 0,
 y3 47 46,
 x2 48 4 47,
 x1 49 48,
 mv 50 4,
 x8 51 1 49 50,
 ⟨none, .store 1 (.t 51) (.c (.bool false)), none⟩])
 (.seq
 (.reg [mv 52 0,
 y3 53 52,
 x2 54 5 53,
 x1 55 54,
 mv 56 4,
 mv 57 0,
 y3 58 57,
 x2 59 7 58,
 x1 60 59,
 x8 61 1 55 56,
 x3 1 61 60])
 (.seq
 (.reg [mv 62 4,
 mv 63 1,
 oo 64 (.bin .int .eql (.t 62) (.t 63))])
 (.cond (.t 64)
 (.exit 0)
 .skip)))))))))
 (.reg [mv 65 0,
 y3 66 65,
 x2 67 7 66,
 x1 68 67,
 x6 69 68 1,
 y3 70 65,
 x2 71 7 70,
 x3 1 71 69])))
theorem ent332 : EntOK Tryz.prog 332 ⟨72, v332, []⟩ := fun args σ K ha h =>
 enter (own := List.range 72) Tryz.func332 (by kernel_rfl) (by kernel_rfl) (by kernel_rfl) ha h
def v333 : ACode :=
(.seq
 (.reg [y8 4 137 1,
 y8 5 137 2,
 x5 6 0])
 (.seq
 (.seq
 (.reg [x2 9 0 4,
 x1 10 9,
 oo 11 (.bin .int .neq (.t 10) (.c (.int .i64 1))),
 mv 12 11,
 z1 13 12 0 5,
 z3 14 12 13,
 og 15 12 false (.bin .int .neq (.t 14) (.c (.int .i64 1))),
 y4 16 12 15])
 (.cond (.t 16)
 (.seq
 (.draw [] [([⟨(some 17), .move (.t 0), none⟩], []),
 ([⟨(some 18), .move (.t 0), none⟩], []),
 ([⟨(some 19), .load (some 4) (.t 4), none⟩], []),
 ([⟨(some 21), .move (.t 0), none⟩], []),
 ([⟨(some 22), .load (some 4) (.t 5), none⟩], []),
 ([⟨(some 20), .call 311 [(.t 18), (.t 19)], none⟩], [⟨(some 22), .load (some 4) (.t 5), none⟩]),
 ([⟨(some 23), .call 311 [(.t 21), (.t 22)], none⟩], []),
 ([⟨(some 24), .call 358 [(.t 17), (.t 20), (.t 23)], none⟩], []),
 ([⟨(some 6), .move (.t 24), none⟩], [])])
 .ret)
 .skip))
 (.seq
 (.reg [x2 25 1 4,
 x1 26 25,
 x2 27 1 5,
 x1 28 27,
 oo 29 (.build [(.int .i64 0), (.int .i64 0)] [(0, 1, (.t 26)), (1, 1, (.t 28))]),
 oo 7 (.new 457 q2),
 x3 2 7 29])
 (.seq
 (.seq
 (.reg [x2 30 1 4,
 x1 31 30,
 x2 32 1 5,
 x1 33 32,
 oo 34 (.bin .int .eql (.t 31) (.t 33)),
 mv 35 34,
 z5 36 35 0,
 og 37 35 false (.nilck (.t 36)),
 z1 38 35 3 37,
 z3 39 35 38,
 og 40 35 false (.load (some 2) (.t 7)),
 og 41 35 false (.lookup (.row [.int, .int]) (.bool false) false (.t 39) (.t 40)),
 y4 42 35 41])
 (.cond (.t 42)
 (.seq
 (.reg [x5 6 0])
 .ret)
 .skip))
 (.seq
 (.draw [] [([⟨(some 43), .move (.t 0), none⟩], []),
 ([⟨(some 44), .move (.t 0), none⟩], []),
 ([⟨(some 45), .load (some 4) (.t 4), none⟩], []),
 ([⟨(some 47), .move (.t 0), none⟩], []),
 ([⟨(some 48), .load (some 4) (.t 5), none⟩], []),
 ([⟨(some 46), .call 311 [(.t 44), (.t 45)], none⟩], [⟨(some 48), .load (some 4) (.t 5), none⟩]),
 ([⟨(some 49), .call 311 [(.t 47), (.t 48)], none⟩], []),
 ([⟨(some 50), .call 358 [(.t 43), (.t 46), (.t 49)], none⟩], []),
 ([⟨(some 8), .move (.t 50), none⟩], [])])
 (.seq
 (.seq
 (.reg [mv 51 8,
 x7 52 51 0])
 (.cond (.t 52)
 (.reg [mv 53 0,
 y3 54 53,
 x2 55 3 54,
 x1 56 55,
 x4 57 2 7,
 ⟨none, .mapset (.row [.int, .int]) (.t 56) (.t 57) (.c (.bool true)), none⟩])
 .skip))
 (.seq
 (.reg [mv 58 8,
 mv 6 58])
 .ret)))))))
theorem ent333 : EntOK Tryz.prog 333 ⟨59, v333, [.slot 6]⟩ := fun args σ K ha h =>
 enter (own := List.range 59) Tryz.func333 (by kernel_rfl) (by kernel_rfl) (by kernel_rfl) ha h
def v334 : ACode :=
(.seq
 (.reg [oo 4 (.new 343 (.c (.agg [(.int .i64 0), (.int .i64 0), (.str ⟨#[]⟩), .nils, .nils, .nils, .nils, .nils])))])
 (.seq
 (.reg [mv 9 0,
 mv 10 1,
 y2 11 359 9 10,
 mv 8 11,
 z9 12 8 0,
 z9 13 8 1,
 oo 5 (.new 331 (.c (.agg [(.str ⟨#[]⟩), .nils, (.int .i64 0), (.int .i64 0), (.str ⟨#[]⟩), .nils, (.bool false)]))),
 x3 7 5 12,
 mv 6 13])
 (.seq
 (.seq
 (.reg [mv 14 6,
 oo 15 (.not (.t 14))])
 (.cond (.t 15)
 (.seq
 (.reg [mv 16 1,
 y5 17 199 16,
 y5 18 360 17,
 oo 19 (.build [(.int .i64 0), (.int .i64 0), (.str ⟨#[]⟩), .nils, .nils, .nils, .nils, .nils] [(0, 4, (.t 18))]),
 x3 8 4 19])
 .ret)
 .skip))
 (.seq
 (.seq
 (.reg [x2 20 6 5,
 x1 21 20,
 oo 22 (.not (.t 21))])
 (.cond (.t 22)
 (.seq
 (.reg [x2 23 1 5,
 x2 24 1 23,
 x4 25 4 24,
 oo 26 (.build [(.int .i64 0), (.int .i64 0), (.str ⟨#[]⟩), .nils, .nils, .nils, .nils, .nils] [(0, 4, (.t 25))]),
 x3 8 4 26])
 .ret)
 .skip))
 (.seq
 (.reg [mv 27 0,
 x2 28 1 5,
 x2 29 0 28,
 x1 30 29,
 y1 31 30,
 y2 32 206 27 31,
 mv 7 32])
 (.seq
 (.reg [x2 33 1 5,
 x2 34 1 33,
 x4 35 4 34,
 x2 36 1 5,
 x2 37 0 36,
 x1 38 37,
 mv 39 7,
 oo 40 (.call 103 [(.t 35), (.t 38), (.t 39)]),
 mv 41 7,
 oo 42 (.build [(.int .i64 0), (.int .i64 0), (.str ⟨#[]⟩), .nils, .nils, .nils, .nils, .nils] [(0, 4, (.t 40)), (4, 1, (.t 41))]),
 x3 8 4 42])
 .ret))))))
theorem ent334 : EntOK Tryz.prog 334 ⟨43, v334, [.cell 4 (some 8)]⟩ := fun args σ K ha h =>
 enter (own := List.range 43) Tryz.func334 (by kernel_rfl) (by kernel_rfl) (by kernel_rfl) ha h
def v339 : ACode :=
(.seq
 (.reg [x5 4 0])
 (.seq
 (.reg [mv 8 0,
 mv 9 1,
 oo 10 (.call 363 [(.c (.int .i64 1)), (.t 8), (.t 9)]),
 mv 7 10,
 z9 11 7 0,
 z9 12 7 1,
 mv 5 11,
 mv 6 12])
 (.seq
 (.reg [mv 13 5,
 mv 4 13])
 .ret)))
theorem ent339 : EntOK Tryz.prog 339 ⟨14, v339, [.slot 4]⟩ := fun args σ K ha h =>
 enter (own := List.range 14) Tryz.func339 (by kernel_rfl) (by kernel_rfl) (by kernel_rfl) ha h
def v342 : ACode :=
(.seq
 (.reg [y9 2])
 (.seq
 (.seq
 (.reg [mv 3 0,
 oo 4 (.nileq .slice false (.t 3) (.c .nils))])
 (.cond (.t 4)
 (.seq
 (.reg [y9 2])
 .ret)
 .skip))
 (.seq
 (.reg [oo 5 (.lit true 195 10 []),
 mv 6 0,
 z7 7 195 10 168 5 6,
 mv 2 7])
 .ret)))
theorem ent342 : EntOK Tryz.prog 342 ⟨8, v342, [.slot 2]⟩ := fun args σ K ha h =>
 enter (own := List.range 8) Tryz.func342 (by kernel_rfl) (by kernel_rfl) (by kernel_rfl) ha h
def v343 : ACode :=
(.seq
 (.reg [y9 2])
 (.seq
 (.seq
 (.reg [mv 3 0,
 oo 4 (.nileq .slice false (.t 3) (.c .nils))])
 (.cond (.t 4)
 (.seq
 (.reg [y9 2])
 .ret)
 .skip))
 (.seq
 (.reg [oo 5 (.lit true 193 9 []),
 mv 6 0,
 z7 7 193 9 144 5 6,
 mv 2 7])
 .ret)))
theorem ent343 : EntOK Tryz.prog 343 ⟨8, v343, [.slot 2]⟩ := fun args σ K ha h =>
 enter (own := List.range 8) Tryz.func343 (by kernel_rfl) (by kernel_rfl) (by kernel_rfl) ha h
def v344 : ACode :=
(.seq
 (.reg [y8 4 193 1])
 (.seq
 (.reg [x2 15 0 4,
 x1 16 15])
 (.block 0
 (.seq
 (.reg [x7 18 16 8,
 mv 17 18])
 (.cond (.t 17)
 (.seq
 (.reg [x4 19 9 4,
 oo 6 (.new 193 (.c (.agg [(.int .i64 0), (.str ⟨#[]⟩), (.int .i64 0), .nils, .nils, .nils, .nils, (.int .i64 0), (.int .i64 0)]))),
 x3 9 6 19])
 (.seq
 (.draw [] [([⟨(some 20), .faddr 4 (.t 4), none⟩], []),
 ([⟨(some 21), .load none (.t 20), none⟩], []),
 ([⟨(some 22), .faddr 4 (.t 4), none⟩], []),
 ([⟨(some 23), .load none (.t 22), none⟩], []),
 ([⟨(some 24), .iaddr 9 (.t 23) (.c (.int .i64 0)), none⟩], []),
 ([⟨(some 25), .load (some 9) (.t 24), none⟩], []),
 ([⟨(some 26), .call 320 [(.t 25)], none⟩], [⟨(some 20), .faddr 4 (.t 4), none⟩, ⟨(some 21), .load none (.t 20), none⟩]),
 ([⟨(some 27), .call 319 [(.t 21), (.c (.int .i64 0)), (.t 26)], none⟩], []),
 ([⟨(some 28), .faddr 4 (.t 6), none⟩], []),
 ([x3 1 28 27], [])])
 (.draw [] [([⟨(some 29), .move (.t 0), none⟩], []),
 ([⟨(some 30), .nilck (.t 29), none⟩], []),
 ([⟨(some 31), .faddr 2 (.t 30), none⟩], []),
 ([⟨(some 32), .load none (.t 31), none⟩], []),
 ([⟨(some 33), .move (.t 2), none⟩], []),
 ([⟨(some 34), .load (some 9) (.t 6), none⟩], []),
 ([⟨(some 35), .callv (.t 33) [(.t 34)], none⟩], [⟨(some 31), .faddr 2 (.t 30), none⟩, ⟨(some 32), .load none (.t 31), none⟩]),
 ([⟨(some 36), .callv (.t 32) [(.c (.int .i64 9)), (.t 35)], none⟩], [])])))
 (.seq
 (.reg [x7 38 16 7,
 mv 37 38])
 (.cond (.t 37)
 (.reg [mv 39 0,
 x4 40 9 4,
 mv 41 2,
 oo 42 (.call 364 [(.t 39), (.t 40), (.t 41)])])
 (.seq
 (.reg [x7 44 16 2,
 mv 43 44])
 (.cond (.t 43)
 (.seq
 (.draw [7] [([⟨(some 46), .move (.t 0), none⟩], []),
 ([⟨(some 47), .nilck (.t 46), none⟩], []),
 ([⟨(some 48), .faddr 0 (.t 47), none⟩], []),
 ([⟨(some 49), .load none (.t 48), none⟩], []),
 ([⟨(some 50), .faddr 1 (.t 4), none⟩], []),
 ([⟨(some 51), .load none (.t 50), none⟩], []),
 ([⟨(some 52), .call 287 [(.t 49), (.t 51)], none⟩], []),
 ([⟨(some 45), .move (.t 52), none⟩], []),
 ([⟨(some 53), .extract (.t 45) 0, none⟩], []),
 ([⟨(some 54), .extract (.t 45) 1, none⟩], []),
 ([⟨(some 7), .new 303 (.c (.agg [(.str ⟨#[]⟩), (.str ⟨#[]⟩), (.int .i64 0), (.int .i64 0), .nils])), none⟩, x3 5 7 53], []),
 ([⟨(some 8), .move (.t 54), none⟩], [])])
 (.seq
 (.reg [mv 55 0,
 y3 56 55,
 x2 57 0 56,
 x1 58 57,
 x2 59 1 7,
 x1 60 59,
 x5 63 0,
 y2 61 290 58 60,
 y1 62 61])
 (.block 1
 (.loop
 (.seq
 (.reg [x9 64 63 62])
 (.seq
 (.cond (.t 64)
 .skip
 (.exit 1))
 (.seq
 (.block 2
 (.seq
 (.reg [x8 65 5 61 63,
 x4 66 5 65,
 oo 10 (.new 303 (.c (.agg [(.str ⟨#[]⟩), (.str ⟨#[]⟩), (.int .i64 0), (.int .i64 0), .nils]))),
 x3 5 10 66])
 (.seq
 (.reg [x2 67 0 10,
 x1 68 67,
 x2 69 1 4,
 x1 70 69,
 oo 71 (.bin .str .neq (.t 68) (.t 70))])
 (.cond (.t 71)
 (.draw [] [([⟨(some 72), .move (.t 0), none⟩], []),
 ([⟨(some 73), .nilck (.t 72), none⟩], []),
 ([⟨(some 74), .faddr 2 (.t 73), none⟩], []),
 ([⟨(some 75), .load none (.t 74), none⟩], []),
 ([⟨(some 76), .move (.t 2), none⟩], []),
 ([⟨(some 77), .faddr 0 (.t 10), none⟩], []),
 ([⟨(some 78), .load none (.t 77), none⟩], []),
 ([⟨(some 79), .build [(.int .i64 0), (.str ⟨#[]⟩), (.int .i64 0), .nils, .nils, .nils, .nils, (.int .i64 0), (.int .i64 0)] [(0, 1, (.c (.int .i64 2))), (1, 1, (.t 78))], none⟩], []),
 ([⟨(some 80), .callv (.t 76) [(.t 79)], none⟩], [⟨(some 74), .faddr 2 (.t 73), none⟩, ⟨(some 75), .load none (.t 74), none⟩]),
 ([⟨(some 81), .callv (.t 75) [(.c (.int .i64 8)), (.t 80)], none⟩], [])])
 .skip))))
 (.reg [x6 82 63 1,
 mv 63 82]))))))))
 (.seq
 (.reg [x7 84 16 3,
 mv 83 84])
 (.cond (.t 83)
 (.seq
 (.draw [] [([⟨(some 85), .move (.t 0), none⟩], []),
 ([⟨(some 86), .nilck (.t 85), none⟩], []),
 ([⟨(some 87), .faddr 2 (.t 86), none⟩], []),
 ([⟨(some 88), .load none (.t 87), none⟩], []),
 ([⟨(some 89), .move (.t 2), none⟩], []),
 ([⟨(some 90), .faddr 2 (.t 4), none⟩], []),
 ([⟨(some 91), .load none (.t 90), none⟩], []),
 ([⟨(some 92), .call 339 [(.t 91), (.c (.int .i64 1))], none⟩], [⟨(some 87), .faddr 2 (.t 86), none⟩, ⟨(some 88), .load none (.t 87), none⟩]),
 ([⟨(some 93), .build [(.int .i64 0), (.str ⟨#[]⟩), (.int .i64 0), .nils, .nils, .nils, .nils, (.int .i64 0), (.int .i64 0)] [(0, 1, (.c (.int .i64 3))), (2, 1, (.t 92))], none⟩], []),
 ([⟨(some 94), .callv (.t 89) [(.t 93)], none⟩], [⟨(some 87), .faddr 2 (.t 86), none⟩, ⟨(some 88), .load none (.t 87), none⟩]),
 ([⟨(some 95), .callv (.t 88) [(.c (.int .i64 10)), (.t 94)], none⟩], [])])
 (.seq
 (.draw [] [([⟨(some 96), .move (.t 0), none⟩], []),
 ([⟨(some 97), .nilck (.t 96), none⟩], []),
 ([⟨(some 98), .faddr 2 (.t 97), none⟩], []),
 ([⟨(some 99), .load none (.t 98), none⟩], []),
 ([⟨(some 100), .move (.t 2), none⟩], []),
 ([⟨(some 101), .faddr 2 (.t 4), none⟩], []),
 ([⟨(some 102), .load none (.t 101), none⟩], []),
 ([⟨(some 103), .call 339 [(.t 102), (.c (.int .i64 (-1)))], none⟩], [⟨(some 98), .faddr 2 (.t 97), none⟩, ⟨(some 99), .load none (.t 98), none⟩]),
 ([⟨(some 104), .build [(.int .i64 0), (.str ⟨#[]⟩), (.int .i64 0), .nils, .nils, .nils, .nils, (.int .i64 0), (.int .i64 0)] [(0, 1, (.c (.int .i64 3))), (2, 1, (.t 103))], none⟩], []),
 ([⟨(some 105), .callv (.t 100) [(.t 104)], none⟩], [⟨(some 98), .faddr 2 (.t 97), none⟩, ⟨(some 99), .load none (.t 98), none⟩]),
 ([⟨(some 106), .callv (.t 99) [(.c (.int .i64 11)), (.t 105)], none⟩], [])])
 (.draw [] [([⟨(some 107), .move (.t 0), none⟩], []),
 ([⟨(some 108), .nilck (.t 107), none⟩], []),
 ([⟨(some 109), .faddr 2 (.t 108), none⟩], []),
 ([⟨(some 110), .load none (.t 109), none⟩], []),
 ([⟨(some 111), .move (.t 2), none⟩], []),
 ([⟨(some 112), .build [(.int .i64 0), (.str ⟨#[]⟩), (.int .i64 0), .nils, .nils, .nils, .nils, (.int .i64 0), (.int .i64 0)] [(0, 1, (.c (.int .i64 3)))], none⟩], []),
 ([⟨(some 113), .callv (.t 111) [(.t 112)], none⟩], [⟨(some 109), .faddr 2 (.t 108), none⟩, ⟨(some 110), .load none (.t 109), none⟩]),
 ([⟨(some 114), .callv (.t 110) [(.c (.int .i64 12)), (.t 113)], none⟩], [])])))
 (.seq
 (.reg [x7 116 16 1,
 mv 115 116])
 (.cond (.t 115)
 (.seq
 (.reg [x2 117 1 4,
 x1 118 117,
 y5 119 199 118,
 mv 11 119])
 (.seq
 (.reg [x5 12 13])
 (.seq
 (.seq
 (.reg [mv 120 11,
 y5 121 325 120])
 (.cond (.t 121)
 (.reg [x5 12 14])
 .skip))
 (.seq
 (.reg [mv 122 11,
 y5 123 365 122,
 y1 124 123,
 x5 125 0])
 (.block 3
 (.loop
 (.seq
 (.reg [x9 126 125 124])
 (.seq
 (.cond (.t 126)
 .skip
 (.exit 3))
 (.seq
 (.block 4
 (.seq
 (.reg [x8 127 1 123 125,
 x1 128 127,
 mv 14 128])
 (.draw [] [([⟨(some 129), .move (.t 0), none⟩], []),
 ([⟨(some 130), .nilck (.t 129), none⟩], []),
 ([⟨(some 131), .faddr 2 (.t 130), none⟩], []),
 ([⟨(some 132), .load none (.t 131), none⟩], []),
 ([⟨(some 133), .move (.t 12), none⟩], []),
 ([⟨(some 134), .move (.t 2), none⟩], []),
 ([⟨(some 135), .move (.t 14), none⟩], []),
 ([⟨(some 136), .call 254 [(.t 135)], none⟩], [⟨(some 131), .faddr 2 (.t 130), none⟩, ⟨(some 132), .load none (.t 131), none⟩]),
 ([⟨(some 137), .build [(.int .i64 0), (.str ⟨#[]⟩), (.int .i64 0), .nils, .nils, .nils, .nils, (.int .i64 0), (.int .i64 0)] [(0, 1, (.c (.int .i64 1))), (1, 1, (.t 136))], none⟩], []),
 ([⟨(some 138), .callv (.t 134) [(.t 137)], none⟩], [⟨(some 131), .faddr 2 (.t 130), none⟩, ⟨(some 132), .load none (.t 131), none⟩]),
 ([⟨(some 139), .callv (.t 132) [(.t 133), (.t 138)], none⟩], [])])))
 (.reg [x6 140 125 1,
 mv 125 140]))))))))))
 .skip)))))))))))))
theorem ent344 : EntOK Tryz.prog 344 ⟨141, v344, []⟩ := fun args σ K ha h =>
 enter (own := List.range 141) Tryz.func344 (by kernel_rfl) (by kernel_rfl) (by kernel_rfl) ha h
def v346 : ACode :=
(.seq
 (.reg [y8 4 193 0,
 oo 5 (.new 49 q1)])
 (.seq
 (.reg [x4 7 9 1,
 oo 6 (.new 193 (.c (.agg [(.int .i64 0), (.str ⟨#[]⟩), (.int .i64 0), .nils, .nils, .nils, .nils, (.int .i64 0), (.int .i64 0)]))),
 x3 9 6 7])
 (.seq
 (.reg [x2 8 4 1,
 x1 9 8,
 x1 10 2,
 x4 11 9 4,
 oo 12 (.call 319 [(.t 9), (.t 10), (.t 11)]),
 x2 13 4 6,
 x3 1 13 12])
 (.seq
 (.reg [x1 14 3,
 x4 15 9 6,
 oo 16 (.callv (.t 14) [(.t 15)]),
 x3 3 5 16])
 .ret))))
theorem ent346 : EntOK Tryz.prog 346 ⟨17, v346, [.cell 5 (some 3)]⟩ := fun args σ K ha h =>
 enter (own := List.range 17) Tryz.func346 (by kernel_rfl) (by kernel_rfl) (by kernel_rfl) ha h
def v351 : ACode :=
(.seq
 (.reg [x2 4 4 0,
 x1 5 4,
 y1 6 5,
 x5 7 0])
 (.block 0
 (.loop
 (.seq
 (.reg [x9 8 7 6])
 (.seq
 (.cond (.t 8)
 .skip
 (.exit 0))
 (.seq
 (.block 1
 (.seq
 (.reg [x8 9 9 5 7,
 x4 10 9 9,
 oo 3 (.new 193 (.c (.agg [(.int .i64 0), (.str ⟨#[]⟩), (.int .i64 0), .nils, .nils, .nils, .nils, (.int .i64 0), (.int .i64 0)]))),
 x3 9 3 10])
 (.reg [x1 11 1,
 x4 12 9 3,
 y2 13 326 11 12])))
 (.reg [x6 14 7 1,
 mv 7 14])))))))
theorem ent351 : EntOK Tryz.prog 351 ⟨15, v351, []⟩ := fun args σ K ha h =>
 enter (own := List.range 15) Tryz.func351 (by kernel_rfl) (by kernel_rfl) (by kernel_rfl) ha h
def v353 : ACode :=
(.seq
 (.reg [x2 4 4 0,
 x1 5 4,
 y1 6 5,
 x5 7 0])
 (.block 0
 (.loop
 (.seq
 (.reg [x9 8 7 6])
 (.seq
 (.cond (.t 8)
 .skip
 (.exit 0))
 (.seq
 (.block 1
 (.seq
 (.reg [x8 9 9 5 7,
 x4 10 9 9,
 oo 3 (.new 193 (.c (.agg [(.int .i64 0), (.str ⟨#[]⟩), (.int .i64 0), .nils, .nils, .nils, .nils, (.int .i64 0), (.int .i64 0)]))),
 x3 9 3 10])
 (.reg [x1 11 1,
 x4 12 9 3,
 y2 13 330 11 12])))
 (.reg [x6 14 7 1,
 mv 7 14])))))))
theorem ent353 : EntOK Tryz.prog 353 ⟨15, v353, []⟩ := fun args σ K ha h =>
 enter (own := List.range 15) Tryz.func353 (by kernel_rfl) (by kernel_rfl) (by kernel_rfl) ha h
def v354 : ACode :=
(.seq
 (.reg [mv 4 0,
 y3 5 4,
 x2 6 0 5,
 x1 7 6,
 mv 8 1,
 y2 9 148 7 8,
 oo 10 (.not (.t 9)),
 mv 11 10,
 z6 12 11 0,
 og 13 11 true (.nilck (.t 12)),
 z2 14 11 1 13,
 z4 15 11 14,
 z6 16 11 1,
 og 17 11 true (.call 148 [(.t 15), (.t 16)]),
 og 18 11 true (.not (.t 17)),
 y7 19 11 18])
 (.cond (.t 19)
 (.reg [mv 20 0,
 mv 21 0,
 y3 22 21,
 x2 23 1 22,
 x1 24 23,
 mv 25 1,
 z8 26 9 1 25,
 z7 27 9 1 16 24 26,
 y3 28 20,
 x2 29 1 28,
 x3 1 29 27])
 .skip))
theorem ent354 : EntOK Tryz.prog 354 ⟨30, v354, []⟩ := fun args σ K ha h =>
 enter (own := List.range 30) Tryz.func354 (by kernel_rfl) (by kernel_rfl) (by kernel_rfl) ha h
def v355 : ACode :=
(.seq
 (.reg [y8 1 193 0,
 y6 2])
 (.seq
 (.reg [x2 6 1 1,
 x1 7 6,
 y5 8 220 7,
 mv 5 8,
 z9 9 5 0,
 z9 10 5 1,
 oo 3 (.new 83 (.c (.agg [(.int .i64 0), (.str ⟨#[]⟩), (.int .i64 0), (.int .i64 0), (.int .i64 0), (.bool false)]))),
 x3 6 3 9,
 mv 4 10])
 (.seq
 (.reg [x2 11 0 1,
 x1 12 11,
 x7 13 12 1,
 mv 14 13,
 z6 15 14 4,
 y7 16 14 15,
 mv 17 16,
 z2 18 17 0 3,
 z4 19 17 18,
 og 20 17 true (.bin .int .eql (.t 19) (.c (.int .i64 3))),
 y7 21 17 20,
 mv 2 21])
 .ret)))
theorem ent355 : EntOK Tryz.prog 355 ⟨22, v355, [.slot 2]⟩ := fun args σ K ha h =>
 enter (own := List.range 22) Tryz.func355 (by kernel_rfl) (by kernel_rfl) (by kernel_rfl) ha h
def v358 : ACode :=
(.seq
 (.reg [y8 4 137 1,
 y8 5 137 2,
 x5 6 0])
 (.seq
 (.block 0
 (.seq
 (.reg [x2 10 0 4,
 x1 11 10,
 x7 12 11 1,
 mv 13 12,
 z2 14 13 0 5,
 z4 15 13 14,
 og 16 13 true (.bin .int .eql (.t 15) (.c (.int .i64 1))),
 y7 17 13 16,
 mv 9 17])
 (.cond (.t 9)
 (.seq
 (.seq
 (.reg [x2 18 1 4,
 x1 19 18,
 x2 20 1 5,
 x1 21 20,
 oo 22 (.bin .int .neq (.t 19) (.t 21))])
 (.cond (.t 22)
 (.draw [] [([⟨(some 23), .move (.t 0), none⟩], []),
 ([⟨(some 24), .faddr 1 (.t 4), none⟩], []),
 ([⟨(some 25), .load none (.t 24), none⟩], []),
 ([⟨(some 26), .faddr 1 (.t 5), none⟩], []),
 ([⟨(some 27), .load none (.t 26), none⟩], []),
 ([⟨(some 28), .max2 (.t 25) (.t 27), none⟩], []),
 ([⟨(some 29), .faddr 1 (.t 4), none⟩], []),
 ([⟨(some 30), .load none (.t 29), none⟩], []),
 ([⟨(some 31), .faddr 1 (.t 5), none⟩], []),
 ([⟨(some 32), .load none (.t 31), none⟩], []),
 ([⟨(some 33), .min2 (.t 30) (.t 32), none⟩], []),
 ([⟨(some 34), .call 102 [(.t 33)], none⟩], [⟨(some 24), .faddr 1 (.t 4), none⟩, ⟨(some 25), .load none (.t 24), none⟩, ⟨(some 26), .faddr 1 (.t 5), none⟩, ⟨(some 27), .load none (.t 26), none⟩]),
 ([⟨(some 35), .call 367 [(.t 23), (.t 28), (.t 34)], none⟩], [])])
 .skip))
 (.seq
 (.reg [x5 6 0])
 .ret))
 (.seq
 (.reg [x2 37 0 4,
 x1 38 37,
 x7 39 38 1,
 mv 36 39])
 (.cond (.t 36)
 (.seq
 (.reg [mv 40 0,
 x2 41 1 4,
 x1 42 41,
 x4 43 4 5,
 oo 44 (.call 368 [(.t 40), (.t 42), (.t 43)]),
 mv 6 44])
 .ret)
 (.seq
 (.reg [x2 46 0 5,
 x1 47 46,
 x7 48 47 1,
 mv 45 48])
 (.cond (.t 45)
 (.seq
 (.reg [mv 49 0,
 x2 50 1 5,
 x1 51 50,
 x4 52 4 4,
 oo 53 (.call 368 [(.t 49), (.t 51), (.t 52)]),
 mv 6 53])
 .ret)
 .skip)))))))
 (.seq
 (.seq
 (.reg [x2 54 0 4,
 x1 55 54,
 x2 56 0 5,
 x1 57 56,
 oo 58 (.bin .int .neq (.t 55) (.t 57)),
 mv 59 58,
 z1 60 59 2 4,
 z3 61 59 60,
 z1 62 59 2 5,
 z3 63 59 62,
 og 64 59 false (.bin .str .neq (.t 61) (.t 63)),
 y4 65 59 64,
 mv 66 65,
 z1 67 66 3 4,
 z3 68 66 67,
 og 69 66 false (.len .slice (.t 68)),
 z1 70 66 3 5,
 z3 71 66 70,
 og 72 66 false (.len .slice (.t 71)),
 og 73 66 false (.bin .int .neq (.t 69) (.t 72)),
 y4 74 66 73])
 (.cond (.t 74)
 (.seq
 (.reg [x5 6 100])
 .ret)
 .skip))
 (.seq
 (.seq
 (.reg [x2 75 3 4,
 x1 76 75,
 y1 77 76,
 x5 78 0])
 (.block 1
 (.loop
 (.seq
 (.reg [x9 79 78 77])
 (.seq
 (.cond (.t 79)
 .skip
 (.exit 1))
 (.seq
 (.block 2
 (.seq
 (.reg [mv 80 78,
 mv 7 80])
 (.seq
 (.reg [mv 81 0,
 x2 82 3 4,
 x1 83 82,
 mv 84 7,
 x8 85 4 83 84,
 x4 86 4 85,
 x2 87 3 5,
 x1 88 87,
 mv 89 7,
 x8 90 4 88 89,
 x4 91 4 90,
 oo 92 (.call 333 [(.t 81), (.t 86), (.t 91)]),
 mv 8 92])
 (.seq
 (.reg [mv 93 8,
 oo 94 (.bin .int .neq (.t 93) (.c (.int .i64 0)))])
 (.cond (.t 94)
 (.seq
 (.reg [mv 95 8,
 mv 6 95])
 .ret)
 .skip)))))
 (.reg [x6 96 78 1,
 mv 78 96])))))))
 (.seq
 (.reg [x5 6 0])
 .ret)))))
theorem ent358 : EntOK Tryz.prog 358 ⟨97, v358, [.slot 6]⟩ := fun args σ K ha h =>
 enter (own := List.range 97) Tryz.func358 (by kernel_rfl) (by kernel_rfl) (by kernel_rfl) ha h
def v359 : ACode :=
(.seq
 (.reg [oo 4 (.new 331 (.c (.agg [(.str ⟨#[]⟩), .nils, (.int .i64 0), (.int .i64 0), (.str ⟨#[]⟩), .nils, (.bool false)]))),
 y6 5])
 (.seq
 (.seq
 (.reg [mv 7 0,
 y3 8 7,
 x2 9 2 8,
 x1 10 9,
 y1 11 10,
 oo 12 (.bin .int .sub (.t 11) (.c (.int .i64 1))),
 mv 6 12])
 (.block 0
 (.loop
 (.seq
 (.seq
 (.reg [mv 13 6,
 oo 14 (.bin .int .geq (.t 13) (.c (.int .i64 0)))])
 (.cond (.t 14)
 .skip
 (.exit 0)))
 (.seq
 (.block 1
 (.seq
 (.reg [mv 17 0,
 y3 18 17,
 x2 19 2 18,
 x1 20 19,
 mv 21 6,
 x8 22 7 20 21,
 x2 23 0 22,
 x1 24 23,
 mv 25 1,
 oo 26 (.bin .str .eql (.t 24) (.t 25))])
 (.cond (.t 26)
 (.seq
 (.reg [mv 27 0,
 y3 28 27,
 x2 29 2 28,
 x1 30 29,
 mv 31 6,
 x8 32 7 30 31,
 x4 33 7 32,
 x3 7 4 33,
 oo 5 (.move (.c (.bool true)))])
 .ret)
 .skip)))
 (.reg [mv 15 6,
 oo 16 (.bin .int .sub (.t 15) (.c (.int .i64 1))),
 mv 6 16]))))))
 (.seq
 (.reg [oo 34 (.build [(.str ⟨#[]⟩), .nils, (.int .i64 0), (.int .i64 0), (.str ⟨#[]⟩), .nils, (.bool false)] []),
 x3 7 4 34,
 y6 5])
 .ret)))
theorem ent359 : EntOK Tryz.prog 359 ⟨35, v359, [.cell 4 (some 7), .slot 5]⟩ := fun args σ K ha h =>
 enter (own := List.range 35) Tryz.func359 (by kernel_rfl) (by kernel_rfl) (by kernel_rfl) ha h
def v360 : ACode :=
(.seq
 (.reg [oo 2 (.new 137 (.c (.agg [(.int .i64 0), (.int .i64 0), (.str ⟨#[]⟩), .nils])))])
 (.seq
 (.reg [oo 4 (.call 305 [(.c (.str ⟨#[73, 110, 116]⟩))]),
 oo 3 (.new 137 (.c (.agg [(.int .i64 0), (.int .i64 0), (.str ⟨#[]⟩), .nils]))),
 x3 4 3 4])
 (.seq
 (.seq
 (.reg [mv 5 0,
 y5 6 325 5])
 (.cond (.t 6)
 (.reg [oo 7 (.call 305 [(.c (.str ⟨#[66, 111, 111, 108]⟩))]),
 x3 4 3 7])
 .skip))
 (.seq
 (.draw [] [([⟨(some 10), .load (some 4) (.t 3), none⟩], []),
 ([⟨(some 8), .call 305 [(.c (.str ⟨#[73, 110, 116]⟩))], none⟩], [⟨(some 10), .load (some 4) (.t 3), none⟩]),
 ([⟨(some 9), .call 305 [(.c (.str ⟨#[73, 110, 116]⟩))], none⟩], [⟨(some 10), .load (some 4) (.t 3), none⟩]),
 ([⟨(some 11), .call 308 [(.t 9), (.t 10)], none⟩], []),
 ([⟨(some 12), .call 308 [(.t 8), (.t 11)], none⟩], []),
 ([x3 4 2 12], [])])
 .ret))))
theorem ent360 : EntOK Tryz.prog 360 ⟨13, v360, [.cell 2 (some 4)]⟩ := fun args σ K ha h =>
 enter (own := List.range 13) Tryz.func360 (by kernel_rfl) (by kernel_rfl) (by kernel_rfl) ha h
def v363 : ACode :=
(.seq
 (.reg [x5 6 0,
 x5 7 0])
 (.seq
 (.seq
 (.reg [mv 8 0,
 x7 9 8 4,
 mv 10 9,
 z5 11 10 0,
 og 12 10 false (.bin .int .eql (.t 11) (.c (.int .i64 5))),
 y4 13 10 12,
 mv 14 13,
 z6 15 14 2,
 og 16 14 true (.bin .int .eql (.t 15) (.c (.int .i64 0))),
 y7 17 14 16])
 (.cond (.t 17)
 (.seq
 (.reg [x5 6 0,
 x5 7 10])
 .ret)
 .skip))
 (.seq
 (.seq
 (.reg [mv 18 0])
 (.block 0
 (.seq
 (.reg [x7 20 18 1,
 mv 19 20])
 (.cond (.t 19)
 (.seq
 (.reg [mv 21 1,
 mv 22 2,
 oo 23 (.bin .int .add (.t 21) (.t 22)),
 mv 6 23,
 x5 7 0])
 .ret)
 (.seq
 (.reg [x7 25 18 2,
 mv 24 25])
 (.cond (.t 24)
 (.seq
 (.reg [mv 26 1,
 mv 27 2,
 oo 28 (.bin .int .sub (.t 26) (.t 27)),
 mv 6 28,
 x5 7 0])
 .ret)
 (.seq
 (.reg [x7 30 18 3,
 mv 29 30])
 (.cond (.t 29)
 (.seq
 (.reg [mv 31 1,
 mv 32 2,
 oo 33 (.bin .int .mul (.t 31) (.t 32)),
 mv 6 33,
 x5 7 0])
 .ret)
 (.seq
 (.reg [x7 35 18 4,
 mv 34 35])
 (.cond (.t 34)
 (.seq
 (.reg [mv 36 1,
 mv 37 2,
 oo 38 (.bin .int .quo (.t 36) (.t 37)),
 mv 6 38,
 x5 7 0])
 .ret)
 (.seq
 (.reg [x7 40 18 5,
 mv 39 40])
 (.cond (.t 39)
 (.seq
 (.reg [mv 41 1,
 mv 42 2,
 oo 43 (.bin .int .rem (.t 41) (.t 42)),
 mv 6 43,
 x5 7 0])
 .ret)
 .skip))))))))))))
 (.seq
 (.seq
 (.reg [mv 44 0,
 y5 45 325 44,
 oo 46 (.not (.t 45))])
 (.cond (.t 46)
 (.seq
 (.reg [x5 6 0,
 x5 7 1])
 .ret)
 .skip))
 (.seq
 (.reg [mv 47 0,
 mv 48 1,
 mv 49 2,
 oo 50 (.call 370 [(.t 47), (.t 48), (.t 49)]),
 y5 51 369 50,
 mv 6 51,
 x5 7 0])
 .ret)))))
theorem ent363 : EntOK Tryz.prog 363 ⟨52, v363, [.slot 6, .slot 7]⟩ := fun args σ K ha h =>
 enter (own := List.range 52) Tryz.func363 (by kernel_rfl) (by kernel_rfl) (by kernel_rfl) ha h
def v365 : ACode :=
(.seq
 (.reg [y9 2])
 (.seq
 (.reg [y9 3])
 (.seq
 (.seq
 (.reg [mv 5 0,
 y5 6 254 5,
 oo 7 (.bin .str .eql (.t 6) (.c (.str ⟨#[]⟩)))])
 (.cond (.t 7)
 (.seq
 (.reg [mv 8 3,
 mv 2 8])
 .ret)
 .skip))
 (.seq
 (.seq
 (.reg [x5 4 1])
 (.block 0
 (.loop
 (.seq
 (.seq
 (.reg [mv 9 4,
 oo 10 (.bin .int .leq (.t 9) (.c (.int .i64 11)))])
 (.cond (.t 10)
 .skip
 (.exit 0)))
 (.seq
 (.block 1
 (.seq
 (.reg [mv 13 4,
 mv 14 0,
 oo 15 (.bin .int .neq (.t 13) (.t 14)),
 mv 16 15,
 z6 17 16 4,
 og 18 16 true (.call 325 [(.t 17)]),
 z6 19 16 0,
 og 20 16 true (.call 325 [(.t 19)]),
 og 21 16 true (.bin .bool .eql (.t 18) (.t 20)),
 y7 22 16 21])
 (.cond (.t 22)
 (.reg [mv 23 3,
 mv 24 4,
 z8 25 3 1 24,
 z7 26 3 1 8 23 25,
 mv 3 26])
 .skip)))
 (.reg [mv 11 4,
 x6 12 11 1,
 mv 4 12]))))))
 (.seq
 (.reg [mv 27 3,
 mv 2 27])
 .ret)))))
theorem ent365 : EntOK Tryz.prog 365 ⟨28, v365, [.slot 2]⟩ := fun args σ K ha h =>
 enter (own := List.range 28) Tryz.func365 (by kernel_rfl) (by kernel_rfl) (by kernel_rfl) ha h
def v367 : ACode :=
(.seq
 (.reg [y8 5 137 2])
 (.seq
 (.reg [mv 6 0,
 y3 7 6,
 x2 8 0 7,
 x1 9 8,
 mv 10 1,
 x4 11 4 5,
 ⟨none, .mapset .int (.t 9) (.t 10) (.t 11), none⟩])
 (.reg [mv 12 0,
 mv 13 0,
 y3 14 13,
 x2 15 2 14,
 x1 16 15,
 mv 17 1,
 z8 18 3 1 17,
 z7 19 3 1 8 16 18,
 y3 20 12,
 x2 21 2 20,
 x3 1 21 19])))
theorem ent367 : EntOK Tryz.prog 367 ⟨22, v367, []⟩ := fun args σ K ha h =>
 enter (own := List.range 22) Tryz.func367 (by kernel_rfl) (by kernel_rfl) (by kernel_rfl) ha h
def v368 : ACode :=
(.seq
 (.reg [y8 5 137 2,
 x5 6 0])
 (.seq
 (.seq
 (.reg [mv 7 0,
 mv 8 1,
 x4 9 4 5,
 oo 10 (.mkmap),
 oo 11 (.call 374 [(.t 7), (.t 8), (.t 9), (.t 10)])])
 (.cond (.t 11)
 (.seq
 (.reg [x5 6 101])
 .ret)
 .skip))
 (.seq
 (.reg [mv 12 0,
 mv 13 1,
 x4 14 4 5,
 oo 15 (.call 367 [(.t 12), (.t 13), (.t 14)])])
 (.seq
 (.reg [x5 6 0])
 .ret))))
theorem ent368 : EntOK Tryz.prog 368 ⟨16, v368, [.slot 6]⟩ := fun args σ K ha h =>
 enter (own := List.range 16) Tryz.func368 (by kernel_rfl) (by kernel_rfl) (by kernel_rfl) ha h
def v374 : ACode :=
(.seq
 (.reg [y8 6 137 2,
 y6 8])
 (.seq
 (.seq
 (.reg [x2 13 0 6,
 x1 14 13,
 x7 15 14 1])
 (.cond (.t 15)
 (.seq
 (.seq
 (.reg [x2 16 1 6,
 x1 17 16,
 mv 18 1,
 oo 19 (.bin .int .eql (.t 17) (.t 18))])
 (.cond (.t 19)
 (.seq
 (.reg [oo 8 (.move (.c (.bool true)))])
 .ret)
 .skip))
 (.seq
 (.draw [] [([⟨(some 21), .move (.t 0), none⟩], []),
 ([⟨(some 22), .nilck (.t 21), none⟩], []),
 ([⟨(some 23), .faddr 0 (.t 22), none⟩], []),
 ([⟨(some 24), .load none (.t 23), none⟩], []),
 ([⟨(some 25), .faddr 1 (.t 6), none⟩], []),
 ([⟨(some 26), .load none (.t 25), none⟩], []),
 ([⟨(some 27), .lookup .int (.agg [(.int .i64 0), (.int .i64 0), (.str ⟨#[]⟩), .nils]) true (.t 24) (.t 26), none⟩], []),
 ([⟨(some 20), .move (.t 27), none⟩], []),
 ([⟨(some 28), .extract (.t 20) 0, none⟩], []),
 ([⟨(some 29), .extract (.t 20) 1, none⟩], []),
 ([⟨(some 9), .new 137 (.c (.agg [(.int .i64 0), (.int .i64 0), (.str ⟨#[]⟩), .nils])), none⟩], [⟨(some 23), .faddr 0 (.t 22), none⟩, ⟨(some 24), .load none (.t 23), none⟩, ⟨(some 25), .faddr 1 (.t 6), none⟩, ⟨(some 26), .load none (.t 25), none⟩, ⟨(some 27), .lookup .int (.agg [(.int .i64 0), (.int .i64 0), (.str ⟨#[]⟩), .nils]) true (.t 24) (.t 26), none⟩]),
 ([x3 4 9 28], []),
 ([⟨(some 10), .move (.t 29), none⟩], [])])
 (.seq
 (.seq
 (.reg [mv 30 10,
 oo 31 (.not (.t 30)),
 mv 32 31,
 z5 33 32 3,
 z1 34 32 1 6,
 z3 35 32 34,
 og 36 32 false (.lookup .int (.bool false) false (.t 33) (.t 35)),
 y4 37 32 36])
 (.cond (.t 37)
 (.seq
 (.reg [y6 8])
 .ret)
 .skip))
 (.seq
 (.reg [mv 38 3,
 x2 39 1 6,
 x1 40 39,
 ⟨none, .mapset .int (.t 38) (.t 40) (.c (.bool true)), none⟩])
 (.seq
 (.reg [mv 41 0,
 mv 42 1,
 x4 43 4 9,
 mv 44 3,
 oo 45 (.call 374 [(.t 41), (.t 42), (.t 43), (.t 44)]),
 mv 8 45])
 .ret)))))
 .skip))
 (.seq
 (.seq
 (.reg [x2 46 3 6,
 x1 47 46,
 y1 48 47,
 x5 49 0])
 (.block 0
 (.loop
 (.seq
 (.reg [x9 50 49 48])
 (.seq
 (.cond (.t 50)
 .skip
 (.exit 0))
 (.seq
 (.block 1
 (.seq
 (.reg [x8 51 4 47 49,
 x4 52 4 51,
 oo 12 (.new 137 (.c (.agg [(.int .i64 0), (.int .i64 0), (.str ⟨#[]⟩), .nils]))),
 x3 4 12 52])
 (.seq
 (.reg [mv 53 0,
 mv 54 1,
 x4 55 4 12,
 mv 56 3,
 oo 57 (.call 374 [(.t 53), (.t 54), (.t 55), (.t 56)])])
 (.cond (.t 57)
 (.seq
 (.reg [oo 8 (.move (.c (.bool true)))])
 .ret)
 .skip))))
 (.reg [x6 58 49 1,
 mv 49 58])))))))
 (.seq
 (.reg [y6 8])
 .ret))))
theorem ent374 : EntOK Tryz.prog 374 ⟨59, v374, [.slot 8]⟩ := fun args σ K ha h =>
 enter (own := List.range 59) Tryz.func374 (by kernel_rfl) (by kernel_rfl) (by kernel_rfl) ha h
noncomputable def tabL : List (Nat × FEnt) := [(7, ⟨53, v7, [.slot 0]⟩),
 (8, ⟨37, v8, [.cell 4 (some 9), .slot 5]⟩),
 (10, ⟨19, v10, [.slot 2]⟩),
 (13, ⟨222, v13, [.slot 4]⟩),
 (16, ⟨5, v16, [.cell 2 (some 9)]⟩),
 (17, ⟨46, v17, [.cell 2 (some 3), .slot 3, .slot 4, .slot 5]⟩),
 (18, ⟨61, v18, [.slot 2]⟩),
 (19, ⟨9, v19, [.slot 4]⟩),
 (21, ⟨104, v21, [.cell 4 (some 9)]⟩),
 (22, ⟨67, v22, [.slot 2]⟩),
 (26, ⟨26, v26, [.slot 4]⟩),
 (28, ⟨55, v28, [.cell 2 (some 3), .cell 3 (some 3)]⟩),
 (29, ⟨72, v29, [.slot 2, .cell 3 (some 3)]⟩),
 (30, ⟨96, v30, [.slot 4, .slot 5]⟩),
 (31, ⟨19, v31, [.slot 4]⟩),
 (32, ⟨23, v32, [.slot 4]⟩),
 (33, ⟨9, v33, [.slot 3]⟩),
 (34, ⟨110, v34, [.slot 4]⟩),
 (35, ⟨8, v35, [.slot 3]⟩),
 (36, ⟨137, v36, [.slot 4]⟩),
 (37, ⟨9, v37, [.slot 3]⟩),
 (38, ⟨26, v38, [.slot 4]⟩),
 (39, ⟨9, v39, [.cell 3 (some 9)]⟩),
 (43, ⟨28, v43, [.slot 2]⟩),
 (44, ⟨36, v44, [.slot 4]⟩),
 (45, ⟨4, v45, []⟩),
 (46, ⟨49, v46, []⟩),
 (47, ⟨13, v47, [.cell 4 (some 6)]⟩),
 (48, ⟨21, v48, []⟩),
 (49, ⟨42, v49, [.slot 4]⟩),
 (50, ⟨57, v50, [.slot 2, .cell 3 (some 3)]⟩),
 (51, ⟨43, v51, [.slot 2]⟩),
 (52, ⟨19, v52, [.slot 2]⟩),
 (53, ⟨44, v53, [.slot 4]⟩),
 (54, ⟨49, v54, [.slot 2, .cell 3 (some 3)]⟩),
 (55, ⟨8, v55, [.slot 4]⟩),
 (56, ⟨26, v56, [.slot 4]⟩),
 (58, ⟨49, v58, [.slot 2, .cell 3 (some 3)]⟩),
 (59, ⟨99, v59, [.slot 2]⟩),
 (60, ⟨22, v60, [.slot 4]⟩),
 (61, ⟨31, v61, [.cell 2 (some 6)]⟩),
 (65, ⟨72, v65, [.slot 4]⟩),
 (66, ⟨44, v66, [.slot 4]⟩),
 (67, ⟨46, v67, [.cell 2 (some 1), .cell 3 (some 3)]⟩),
 (68, ⟨23, v68, [.cell 2 (some 4)]⟩),
 (69, ⟨8, v69, [.slot 2]⟩),
 (70, ⟨16, v70, [.slot 2]⟩),
 (73, ⟨50, v73, []⟩),
 (74, ⟨14, v74, [.slot 2]⟩),
 (75, ⟨28, v75, [.slot 4]⟩),
 (76, ⟨7, v76, []⟩),
 (77, ⟨53, v77, [.slot 4]⟩),
 (78, ⟨59, v78, [.slot 2, .cell 3 (some 3)]⟩),
 (79, ⟨62, v79, [.cell 8 (some 9)]⟩),
 (80, ⟨32, v80, [.slot 6]⟩),
 (81, ⟨10, v81, [.slot 4]⟩),
 (82, ⟨103, v82, [.slot 2]⟩),
 (83, ⟨123, v83, [.cell 2 (some 6), .slot 3]⟩),
 (84, ⟨33, v84, [.slot 4]⟩),
 (86, ⟨65, v86, []⟩),
 (87, ⟨64, v87, []⟩),
 (88, ⟨19, v88, []⟩),
 (89, ⟨30, v89, [.cell 2 (some 6)]⟩),
 (90, ⟨13, v90, [.cell 4 (some 6)]⟩),
 (91, ⟨10, v91, [.slot 4]⟩),
 (93, ⟨21, v93, [.slot 2]⟩),
 (94, ⟨80, v94, [.cell 2 (some 6)]⟩),
 (95, ⟨37, v95, [.slot 4]⟩),
 (96, ⟨71, v96, [.cell 4 (some 9)]⟩),
 (97, ⟨55, v97, [.cell 2 (some 3)]⟩),
 (98, ⟨4, v98, [.slot 0]⟩),
 (99, ⟨47, v99, [.slot 6]⟩),
 (100, ⟨0, v100, []⟩),
 (101, ⟨66, v101, [.slot 4]⟩),
 (102, ⟨5, v102, [.cell 2 (some 4)]⟩),
 (103, ⟨15, v103, [.cell 6 (some 4)]⟩),
 (104, ⟨65, v104, [.slot 2]⟩),
 (105, ⟨34, v105, [.slot 4]⟩),
 (106, ⟨18, v106, [.slot 4]⟩),
 (108, ⟨18, v108, [.slot 4]⟩),
 (110, ⟨58, v110, [.slot 2]⟩),
 (111, ⟨18, v111, []⟩),
 (115, ⟨60, v115, [.slot 2]⟩),
 (116, ⟨13, v116, []⟩),
 (117, ⟨26, v117, []⟩),
 (118, ⟨36, v118, []⟩),
 (119, ⟨16, v119, []⟩),
 (120, ⟨9, v120, []⟩),
 (121, ⟨14, v121, [.slot 0]⟩),
 (124, ⟨52, v124, [.cell 10 (some 9)]⟩),
 (125, ⟨2, v125, [.cell 0 (some 9)]⟩),
 (126, ⟨20, v126, [.slot 4]⟩),
 (127, ⟨48, v127, [.cell 10 (some 9)]⟩),
 (129, ⟨56, v129, [.slot 2]⟩),
 (130, ⟨32, v130, [.slot 4]⟩),
 (131, ⟨28, v131, [.slot 4]⟩),
 (132, ⟨15, v132, [.slot 2, .slot 3]⟩),
 (133, ⟨27, v133, [.slot 2]⟩),
 (134, ⟨18, v134, []⟩),
 (136, ⟨30, v136, [.slot 2]⟩),
 (141, ⟨17, v141, [.slot 2, .cell 3 (some 2)]⟩),
 (146, ⟨37, v146, [.cell 2 (some 9)]⟩),
 (147, ⟨40, v147, [.cell 4 (some 9)]⟩),
 (148, ⟨17, v148, [.slot 4]⟩),
 (150, ⟨43, v150, []⟩),
 (151, ⟨0, v151, []⟩),
 (152, ⟨61, v152, [.slot 2]⟩),
 (153, ⟨162, v153, [.cell 6 (some 4)]⟩),
 (154, ⟨22, v154, [.slot 4]⟩),
 (155, ⟨32, v155, [.slot 4]⟩),
 (156, ⟨28, v156, [.slot 4]⟩),
 (157, ⟨67, v157, [.cell 6 (some 4)]⟩),
 (160, ⟨19, v160, [.slot 4]⟩),
 (166, ⟨9, v166, [.slot 2]⟩),
 (167, ⟨18, v167, [.slot 4]⟩),
 (168, ⟨63, v168, [.slot 2]⟩),
 (169, ⟨26, v169, [.slot 2]⟩),
 (170, ⟨19, v170, [.slot 4, .slot 5]⟩),
 (173, ⟨5, v173, [.slot 2]⟩),
 (176, ⟨26, v176, []⟩),
 (177, ⟨132, v177, []⟩),
 (178, ⟨20, v178, []⟩),
 (179, ⟨9, v179, [.cell 3 (some 3)]⟩),
 (180, ⟨22, v180, []⟩),
 (183, ⟨163, v183, [.cell 8 (some 9)]⟩),
 (185, ⟨6, v185, [.slot 2]⟩),
 (187, ⟨49, v187, [.slot 4]⟩),
 (189, ⟨9, v189, [.slot 2]⟩),
 (190, ⟨50, v190, [.cell 8 (some 9)]⟩),
 (191, ⟨18, v191, [.cell 8 (some 9)]⟩),
 (192, ⟨79, v192, [.cell 10 (some 9)]⟩),
 (193, ⟨16, v193, [.slot 2]⟩),
 (194, ⟨79, v194, [.slot 2, .slot 3]⟩),
 (196, ⟨96, v196, [.cell 2 (some 9)]⟩),
 (197, ⟨59, v197, [.slot 4]⟩),
 (198, ⟨60, v198, [.cell 8 (some 9)]⟩),
 (199, ⟨15, v199, [.slot 2]⟩),
 (200, ⟨32, v200, []⟩),
 (201, ⟨17, v201, []⟩),
 (202, ⟨58, v202, []⟩),
 (203, ⟨19, v203, [.slot 2]⟩),
 (204, ⟨19, v204, [.slot 4]⟩),
 (205, ⟨65, v205, [.slot 2, .slot 3]⟩),
 (206, ⟨19, v206, [.slot 4]⟩),
 (207, ⟨32, v207, []⟩),
 (208, ⟨30, v208, []⟩),
 (209, ⟨80, v209, [.cell 6 (some 1)]⟩),
 (210, ⟨35, v210, [.slot 2]⟩),
 (211, ⟨40, v211, [.cell 4 (some 4), .slot 5]⟩),
 (215, ⟨26, v215, [.cell 4 (some 5)]⟩),
 (216, ⟨27, v216, [.cell 4 (some 4)]⟩),
 (217, ⟨22, v217, [.slot 4]⟩),
 (218, ⟨56, v218, [.cell 4 (some 8)]⟩),
 (219, ⟨22, v219, [.cell 2 (some 4)]⟩),
 (220, ⟨31, v220, [.cell 2 (some 6), .slot 3]⟩),
 (221, ⟨137, v221, [.slot 2]⟩),
 (224, ⟨20, v224, []⟩),
 (225, ⟨14, v225, []⟩),
 (226, ⟨30, v226, [.slot 2]⟩),
 (227, ⟨17, v227, []⟩),
 (229, ⟨28, v229, []⟩),
 (232, ⟨79, v232, []⟩),
 (233, ⟨12, v233, [.cell 5 (some 3)]⟩),
 (234, ⟨15, v234, [.slot 6]⟩),
 (235, ⟨30, v235, [.cell 6 (some 9)]⟩),
 (237, ⟨51, v237, [.slot 4]⟩),
 (238, ⟨17, v238, [.slot 6]⟩),
 (241, ⟨5, v241, [.cell 2 (some 9)]⟩),
 (250, ⟨83, v250, [.cell 2 (some 9)]⟩),
 (251, ⟨17, v251, [.slot 2]⟩),
 (252, ⟨21, v252, [.cell 4 (some 5)]⟩),
 (253, ⟨55, v253, [.slot 2, .slot 3, .slot 4]⟩),
 (254, ⟨26, v254, [.slot 2]⟩),
 (255, ⟨24, v255, []⟩),
 (256, ⟨29, v256, []⟩),
 (257, ⟨32, v257, [.slot 2]⟩),
 (258, ⟨45, v258, [.slot 2, .slot 3]⟩),
 (259, ⟨47, v259, [.slot 8]⟩),
 (260, ⟨20, v260, [.cell 2 (some 4)]⟩),
 (261, ⟨92, v261, [.cell 4 (some 6), .slot 5]⟩),
 (262, ⟨26, v262, []⟩),
 (263, ⟨20, v263, [.cell 4 (some 4)]⟩),
 (264, ⟨10, v264, []⟩),
 (265, ⟨64, v265, [.slot 6]⟩),
 (267, ⟨31, v267, []⟩),
 (268, ⟨51, v268, [.cell 4 (some 4)]⟩),
 (269, ⟨18, v269, [.slot 4]⟩),
 (278, ⟨12, v278, [.cell 4 (some 3)]⟩),
 (281, ⟨20, v281, []⟩),
 (283, ⟨15, v283, [.slot 6]⟩),
 (284, ⟨54, v284, []⟩),
 (285, ⟨17, v285, [.cell 6 (some 3)]⟩),
 (286, ⟨8, v286, [.slot 2]⟩),
 (295, ⟨27, v295, [.cell 2 (some 5)]⟩),
 (296, ⟨21, v296, [.slot 2]⟩),
 (297, ⟨96, v297, [.slot 4]⟩),
 (298, ⟨75, v298, []⟩),
 (299, ⟨72, v299, [.slot 6]⟩),
 (300, ⟨5, v300, []⟩),
 (301, ⟨30, v301, []⟩),
 (302, ⟨24, v302, []⟩),
 (303, ⟨154, v303, []⟩),
 (304, ⟨49, v304, [.slot 8]⟩),
 (305, ⟨5, v305, [.cell 2 (some 4)]⟩),
 (307, ⟨66, v307, [.slot 6]⟩),
 (308, ⟨9, v308, [.cell 4 (some 4)]⟩),
 (309, ⟨152, v309, [.cell 4 (some 8)]⟩),
 (311, ⟨25, v311, [.cell 4 (some 4)]⟩),
 (313, ⟨8, v313, [.slot 2]⟩),
 (314, ⟨59, v314, []⟩),
 (318, ⟨15, v318, [.slot 6]⟩),
 (319, ⟨15, v319, [.slot 6]⟩),
 (321, ⟨63, v321, []⟩),
 (322, ⟨16, v322, [.cell 6 (some 3)]⟩),
 (325, ⟨9, v325, [.slot 2]⟩),
 (326, ⟨103, v326, []⟩),
 (327, ⟨31, v327, [.slot 2]⟩),
 (328, ⟨32, v328, []⟩),
 (329, ⟨28, v329, []⟩),
 (330, ⟨86, v330, []⟩),
 (331, ⟨50, v331, [.cell 4 (some 2)]⟩),
 (332, ⟨72, v332, []⟩),
 (333, ⟨59, v333, [.slot 6]⟩),
 (334, ⟨43, v334, [.cell 4 (some 8)]⟩),
 (339, ⟨14, v339, [.slot 4]⟩),
 (342, ⟨8, v342, [.slot 2]⟩),
 (343, ⟨8, v343, [.slot 2]⟩),
 (344, ⟨141, v344, []⟩),
 (346, ⟨17, v346, [.cell 5 (some 3)]⟩),
 (351, ⟨15, v351, []⟩),
 (353, ⟨15, v353, []⟩),
 (354, ⟨30, v354, []⟩),
 (355, ⟨22, v355, [.slot 2]⟩),
 (358, ⟨97, v358, [.slot 6]⟩),
 (359, ⟨35, v359, [.cell 4 (some 7), .slot 5]⟩),
 (360, ⟨13, v360, [.cell 2 (some 4)]⟩),
 (363, ⟨52, v363, [.slot 6, .slot 7]⟩),
 (365, ⟨28, v365, [.slot 2]⟩),
 (367, ⟨22, v367, []⟩),
 (368, ⟨16, v368, [.slot 6]⟩),
 (374, ⟨59, v374, [.slot 8]⟩)]
theorem ents_ok : EntsOK Tryz.prog tabL := (by
 unfold tabL
 refine .cons ent7 ?_
 refine .cons ent8 ?_
 refine .cons ent10 ?_
 refine .cons ent13 ?_
 refine .cons ent16 ?_
 refine .cons ent17 ?_
 refine .cons ent18 ?_
 refine .cons ent19 ?_
 refine .cons ent21 ?_
 refine .cons ent22 ?_
 refine .cons ent26 ?_
 refine .cons ent28 ?_
 refine .cons ent29 ?_
 refine .cons ent30 ?_
 refine .cons ent31 ?_
 refine .cons ent32 ?_
 refine .cons ent33 ?_
 refine .cons ent34 ?_
 refine .cons ent35 ?_
 refine .cons ent36 ?_
 refine .cons ent37 ?_
 refine .cons ent38 ?_
 refine .cons ent39 ?_
 refine .cons ent43 ?_
 refine .cons ent44 ?_
 refine .cons ent45 ?_
 refine .cons ent46 ?_
 refine .cons ent47 ?_
 refine .cons ent48 ?_
 refine .cons ent49 ?_
 refine .cons ent50 ?_
 refine .cons ent51 ?_
 refine .cons ent52 ?_
 refine .cons ent53 ?_
 refine .cons ent54 ?_
 refine .cons ent55 ?_
 refine .cons ent56 ?_
 refine .cons ent58 ?_
 refine .cons ent59 ?_
 refine .cons ent60 ?_
 refine .cons ent61 ?_
 refine .cons ent65 ?_
 refine .cons ent66 ?_
 refine .cons ent67 ?_
 refine .cons ent68 ?_
 refine .cons ent69 ?_
 refine .cons ent70 ?_
 refine .cons ent73 ?_
 refine .cons ent74 ?_
 refine .cons ent75 ?_
 refine .cons ent76 ?_
 refine .cons ent77 ?_
 refine .cons ent78 ?_
 refine .cons ent79 ?_
 refine .cons ent80 ?_
 refine .cons ent81 ?_
 refine .cons ent82 ?_
 refine .cons ent83 ?_
 refine .cons ent84 ?_
 refine .cons ent86 ?_
 refine .cons ent87 ?_
 refine .cons ent88 ?_
 refine .cons ent89 ?_
 refine .cons ent90 ?_
 refine .cons ent91 ?_
 refine .cons ent93 ?_
 refine .cons ent94 ?_
 refine .cons ent95 ?_
 refine .cons ent96 ?_
 refine .cons ent97 ?_
 refine .cons ent98 ?_
 refine .cons ent99 ?_
 refine .cons ent100 ?_
 refine .cons ent101 ?_
 refine .cons ent102 ?_
 refine .cons ent103 ?_
 refine .cons ent104 ?_
 refine .cons ent105 ?_
 refine .cons ent106 ?_
 refine .cons ent108 ?_
 refine .cons ent110 ?_
 refine .cons ent111 ?_
 refine .cons ent115 ?_
 refine .cons ent116 ?_
 refine .cons ent117 ?_
 refine .cons ent118 ?_
 refine .cons ent119 ?_
 refine .cons ent120 ?_
 refine .cons ent121 ?_
 refine .cons ent124 ?_
 refine .cons ent125 ?_
 refine .cons ent126 ?_
 refine .cons ent127 ?_
 refine .cons ent129 ?_
 refine .cons ent130 ?_
 refine .cons ent131 ?_
 refine .cons ent132 ?_
 refine .cons ent133 ?_
 refine .cons ent134 ?_
 refine .cons ent136 ?_
 refine .cons ent141 ?_
 refine .cons ent146 ?_
 refine .cons ent147 ?_
 refine .cons ent148 ?_
 refine .cons ent150 ?_
 refine .cons ent151 ?_
 refine .cons ent152 ?_
 refine .cons ent153 ?_
 refine .cons ent154 ?_
 refine .cons ent155 ?_
 refine .cons ent156 ?_
 refine .cons ent157 ?_
 refine .cons ent160 ?_
 refine .cons ent166 ?_
 refine .cons ent167 ?_
 refine .cons ent168 ?_
 refine .cons ent169 ?_
 refine .cons ent170 ?_
 refine .cons ent173 ?_
 refine .cons ent176 ?_
 refine .cons ent177 ?_
 refine .cons ent178 ?_
 refine .cons ent179 ?_
 refine .cons ent180 ?_
 refine .cons ent183 ?_
 refine .cons ent185 ?_
 refine .cons ent187 ?_
 refine .cons ent189 ?_
 refine .cons ent190 ?_
 refine .cons ent191 ?_
 refine .cons ent192 ?_
 refine .cons ent193 ?_
 refine .cons ent194 ?_
 refine .cons ent196 ?_
 refine .cons ent197 ?_
 refine .cons ent198 ?_
 refine .cons ent199 ?_
 refine .cons ent200 ?_
 refine .cons ent201 ?_
 refine .cons ent202 ?_
 refine .cons ent203 ?_
 refine .cons ent204 ?_
 refine .cons ent205 ?_
 refine .cons ent206 ?_
 refine .cons ent207 ?_
 refine .cons ent208 ?_
 refine .cons ent209 ?_
 refine .cons ent210 ?_
 refine .cons ent211 ?_
 refine .cons ent215 ?_
 refine .cons ent216 ?_
 refine .cons ent217 ?_
 refine .cons ent218 ?_
 refine .cons ent219 ?_
 refine .cons ent220 ?_
 refine .cons ent221 ?_
 refine .cons ent224 ?_
 refine .cons ent225 ?_
 refine .cons ent226 ?_
 refine .cons ent227 ?_
 refine .cons ent229 ?_
 refine .cons ent232 ?_
 refine .cons ent233 ?_
 refine .cons ent234 ?_
 refine .cons ent235 ?_
 refine .cons ent237 ?_
 refine .cons ent238 ?_
 refine .cons ent241 ?_
 refine .cons ent250 ?_
 refine .cons ent251 ?_
 refine .cons ent252 ?_
 refine .cons ent253 ?_
 refine .cons ent254 ?_
 refine .cons ent255 ?_
 refine .cons ent256 ?_
 refine .cons ent257 ?_
 refine .cons ent258 ?_
 refine .cons ent259 ?_
 refine .cons ent260 ?_
 refine .cons ent261 ?_
 refine .cons ent262 ?_
 refine .cons ent263 ?_
 refine .cons ent264 ?_
 refine .cons ent265 ?_
 refine .cons ent267 ?_
 refine .cons ent268 ?_
 refine .cons ent269 ?_
 refine .cons ent278 ?_
 refine .cons ent281 ?_
 refine .cons ent283 ?_
 refine .cons ent284 ?_
 refine .cons ent285 ?_
 refine .cons ent286 ?_
 refine .cons ent295 ?_
 refine .cons ent296 ?_
 refine .cons ent297 ?_
 refine .cons ent298 ?_
 refine .cons ent299 ?_
 refine .cons ent300 ?_
 refine .cons ent301 ?_
 refine .cons ent302 ?_
 refine .cons ent303 ?_
 refine .cons ent304 ?_
 refine .cons ent305 ?_
 refine .cons ent307 ?_
 refine .cons ent308 ?_
 refine .cons ent309 ?_
 refine .cons ent311 ?_
 refine .cons ent313 ?_
 refine .cons ent314 ?_
 refine .cons ent318 ?_
 refine .cons ent319 ?_
 refine .cons ent321 ?_
 refine .cons ent322 ?_
 refine .cons ent325 ?_
 refine .cons ent326 ?_
 refine .cons ent327 ?_
 refine .cons ent328 ?_
 refine .cons ent329 ?_
 refine .cons ent330 ?_
 refine .cons ent331 ?_
 refine .cons ent332 ?_
 refine .cons ent333 ?_
 refine .cons ent334 ?_
 refine .cons ent339 ?_
 refine .cons ent342 ?_
 refine .cons ent343 ?_
 refine .cons ent344 ?_
 refine .cons ent346 ?_
 refine .cons ent351 ?_
 refine .cons ent353 ?_
 refine .cons ent354 ?_
 refine .cons ent355 ?_
 refine .cons ent358 ?_
 refine .cons ent359 ?_
 refine .cons ent360 ?_
 refine .cons ent363 ?_
 refine .cons ent365 ?_
 refine .cons ent367 ?_
 refine .cons ent368 ?_
 refine .cons ent374 ?_
 exact .nil)
end Go.Proofs.YtgjcnkcepdoedaaGreat

/- A part of the proof of the claim (no condition of its own). -/
import Derived.Test.YtgjcnkcepdoedaaGreatV1
set_option linter.unusedVariables false
namespace Go.Proofs.YtgjcnkcepdoedaaGreat
open Go.AL
def v121 : ACode :=
(.seq
 (.reg [oo 0 (.move (.c .nilp))])
 (.seq
 (.reg [oo 2 (.mkmap),
 ⟨none, .mapset .str (.t 2) (.c (.str ⟨#[73, 110, 116]⟩)) (.c (.int .i64 0)), none⟩,
 ⟨none, .mapset .str (.t 2) (.c (.str ⟨#[66, 111, 111, 108]⟩)) (.c (.int .i64 0)), none⟩,
 mv 3 2,
 oo 4 (.mkmap),
 oo 5 (.build [.nilm, .nilm, .nils] [(0, 1, (.t 3)), (1, 1, (.t 4))]),
 y8 6 300 5,
 mv 1 6])
 (.seq
 (.reg [mv 7 1,
 oo 8 (.build [(.str ⟨#[]⟩), (.str ⟨#[]⟩), (.int .i64 0), (.int .i64 0), .nils] [(0, 1, (.c (.str ⟨#[70, 97, 108, 115, 101]⟩))), (1, 1, (.c (.str ⟨#[66, 111, 111, 108]⟩)))]),
 y2 9 180 7 8])
 (.seq
 (.reg [mv 10 1,
 oo 11 (.build [(.str ⟨#[]⟩), (.str ⟨#[]⟩), (.int .i64 0), (.int .i64 0), .nils] [(0, 1, (.c (.str ⟨#[84, 114, 117, 101]⟩))), (1, 1, (.c (.str ⟨#[66, 111, 111, 108]⟩))), (2, 1, (.c (.int .i64 1)))]),
 y2 12 180 10 11])
 (.seq
 (.reg [mv 13 1,
 mv 0 13])
 .ret)))))
theorem ent121 : EntOK Tryz.prog 121 ⟨14, v121, [.slot 0]⟩ := fun args σ K ha h =>
 enter (own := List.range 14) Tryz.func121 (by kernel_rfl) (by kernel_rfl) (by kernel_rfl) ha h
def v124 : ACode :=
(.seq
 (.reg [oo 10 (.new 28 (.c (.agg [(.int .i64 0), (.str ⟨#[]⟩), (.int .i64 0), (.int .i64 0), .nils, .nils, .nils, .nils, .nils])))])
 (.seq
 (.seq
 (.reg [mv 12 1,
 y1 13 12,
 x7 14 13 0])
 (.cond (.t 14)
 (.seq
 (.reg [mv 15 4,
 oo 16 (.callv (.t 15) []),
 x3 9 10 16])
 .ret)
 .skip))
 (.seq
 (.reg [mv 17 0,
 mv 18 1,
 oo 19 (.iaddr 10 (.t 18) (.c (.int .i64 0))),
 x2 20 1 19,
 x4 21 9 20,
 mv 22 2,
 mv 23 3,
 oo 24 (.call 183 [(.t 17), (.t 21), (.t 22), (.t 23)]),
 oo 11 (.new 28 (.c (.agg [(.int .i64 0), (.str ⟨#[]⟩), (.int .i64 0), (.int .i64 0), .nils, .nils, .nils, .nils, .nils]))),
 x3 9 11 24])
 (.seq
 (.seq
 (.reg [mv 25 1,
 oo 26 (.iaddr 10 (.t 25) (.c (.int .i64 0))),
 x2 27 0 26,
 x1 28 27,
 y1 29 28,
 x7 30 29 0])
 (.cond (.t 30)
 (.seq
 (.reg [x4 31 9 11,
 x3 9 10 31])
 .ret)
 .skip))
 (.seq
 (.draw [] [([⟨(some 32), .move (.t 0), none⟩], []),
 ([⟨(some 33), .move (.t 0), none⟩], []),
 ([⟨(some 34), .move (.t 1), none⟩], []),
 ([⟨(some 35), .iaddr 10 (.t 34) (.c (.int .i64 0)), none⟩], []),
 ([⟨(some 36), .faddr 0 (.t 35), none⟩], []),
 ([⟨(some 37), .load none (.t 36), none⟩], []),
 ([⟨(some 38), .iaddr 9 (.t 37) (.c (.int .i64 0)), none⟩], []),
 ([⟨(some 39), .load (some 9) (.t 38), none⟩], []),
 ([⟨(some 40), .move (.t 2), none⟩], []),
 ([⟨(some 41), .move (.t 3), none⟩], []),
 ([⟨(some 43), .load (some 9) (.t 11), none⟩], []),
 ([⟨(some 44), .move (.t 0), none⟩], []),
 ([⟨(some 45), .move (.t 1), none⟩], []),
 ([⟨(some 46), .cut .slice 10 (.t 45) (some (.c (.int .i64 1))) none, none⟩], []),
 ([⟨(some 47), .move (.t 2), none⟩], []),
 ([⟨(some 48), .move (.t 3), none⟩], []),
 ([⟨(some 49), .move (.t 4), none⟩], []),
 ([⟨(some 42), .call 183 [(.t 33), (.t 39), (.t 40), (.t 41)], none⟩], [⟨(some 43), .load (some 9) (.t 11), none⟩, ⟨(some 46), .cut .slice 10 (.t 45) (some (.c (.int .i64 1))) none, none⟩]),
 ([⟨(some 50), .call 124 [(.t 44), (.t 46), (.t 47), (.t 48), (.t 49)], none⟩], [⟨(some 43), .load (some 9) (.t 11), none⟩]),
 ([⟨(some 51), .call 184 [(.t 32), (.t 42), (.t 43), (.t 50)], none⟩], []),
 ([x3 9 10 51], [])])
 .ret)))))
theorem ent124 : EntOK Tryz.prog 124 ⟨52, v124, [.cell 10 (some 9)]⟩ := fun args σ K ha h =>
 enter (own := List.range 52) Tryz.func124 (by kernel_rfl) (by kernel_rfl) (by kernel_rfl) ha h
def v125 : ACode :=
(.seq
 (.reg [oo 0 (.new 28 (.c (.agg [(.int .i64 0), (.str ⟨#[]⟩), (.int .i64 0), (.int .i64 0), .nils, .nils, .nils, .nils, .nils])))])
 (.seq
 (.reg [oo 1 (.build [(.int .i64 0), (.str ⟨#[]⟩), (.int .i64 0), (.int .i64 0), .nils, .nils, .nils, .nils, .nils] [(0, 1, (.c (.int .i64 10)))]),
 x3 9 0 1])
 .ret))
theorem ent125 : EntOK Tryz.prog 125 ⟨2, v125, [.cell 0 (some 9)]⟩ := fun args σ K ha h =>
 enter (own := List.range 2) Tryz.func125 (by kernel_rfl) (by kernel_rfl) (by kernel_rfl) ha h
def v126 : ACode :=
(.seq
 (.reg [y9 4])
 (.seq
 (.reg [y9 5])
 (.seq
 (.seq
 (.reg [mv 7 1,
 x5 8 0])
 (.block 0
 (.loop
 (.seq
 (.reg [x9 9 8 7])
 (.seq
 (.cond (.t 9)
 .skip
 (.exit 0))
 (.seq
 (.block 1
 (.seq
 (.reg [mv 10 8,
 mv 6 10])
 (.reg [mv 11 5,
 mv 12 0,
 mv 13 6,
 oo 14 (.bin .int .add (.t 12) (.t 13)),
 y5 15 185 14,
 z8 16 9 1 15,
 z7 17 9 1 16 11 16,
 mv 5 17])))
 (.reg [x6 18 8 1,
 mv 8 18])))))))
 (.seq
 (.reg [mv 19 5,
 mv 4 19])
 .ret))))
theorem ent126 : EntOK Tryz.prog 126 ⟨20, v126, [.slot 4]⟩ := fun args σ K ha h =>
 enter (own := List.range 20) Tryz.func126 (by kernel_rfl) (by kernel_rfl) (by kernel_rfl) ha h
def v127 : ACode :=
(.seq
 (.reg [y8 5 160 0,
 y8 6 22 1,
 y8 7 236 2,
 y8 8 28 3,
 y8 9 3 4,
 oo 10 (.new 28 (.c (.agg [(.int .i64 0), (.str ⟨#[]⟩), (.int .i64 0), (.int .i64 0), .nils, .nils, .nils, .nils, .nils])))])
 (.seq
 (.seq
 (.reg [x1 13 7,
 y1 14 13,
 x7 15 14 0])
 (.cond (.t 15)
 (.seq
 (.reg [x4 16 9 8,
 x3 9 10 16])
 .ret)
 .skip))
 (.seq
 (.seq
 (.reg [x1 17 6,
 y1 18 17,
 x7 19 18 0])
 (.cond (.t 19)
 (.seq
 (.reg [x1 20 5,
 x1 21 7,
 oo 22 (.iaddr 3 (.t 21) (.c (.int .i64 0))),
 x2 23 1 22,
 x1 24 23,
 x1 25 7,
 oo 26 (.iaddr 3 (.t 25) (.c (.int .i64 0))),
 x2 27 2 26,
 x1 28 27,
 x1 29 9,
 oo 30 (.mkfn (.func 186) [] [(.t 5), (.t 6), (.t 7), (.t 8), (.t 9)]),
 oo 31 (.call 124 [(.t 20), (.t 24), (.t 28), (.t 29), (.t 30)]),
 x3 9 10 31])
 .ret)
 .skip))
 (.seq
 (.reg [x1 32 7,
 oo 33 (.call 187 [(.t 32), (.c (.fn (.func 188) [] []))]),
 oo 11 (.new 312 (.c .nils)),
 x3 1 11 33])
 (.seq
 (.seq
 (.reg [x1 34 11,
 y1 35 34,
 oo 36 (.bin .int .sub (.t 35) (.c (.int .i64 1))),
 oo 12 (.new 3 (.c (.int .i64 0))),
 x3 1 12 36])
 (.block 0
 (.loop
 (.seq
 (.seq
 (.reg [x1 37 12,
 oo 38 (.bin .int .geq (.t 37) (.c (.int .i64 0)))])
 (.cond (.t 38)
 .skip
 (.exit 0)))
 (.seq
 (.block 1
 (.reg [x1 41 5,
 x4 42 9 8,
 x1 43 9,
 oo 44 (.mkfn (.func 191) [] [(.t 5), (.t 6), (.t 11), (.t 12)]),
 oo 45 (.call 190 [(.t 41), (.t 42), (.t 43), (.t 44)]),
 x3 9 8 45]))
 (.seq
 (.seq
 (.reg [x1 46 12])
 (.reg [oo 12 (.new 3 (.c (.int .i64 0))),
 x3 1 12 46]))
 (.reg [x1 39 12,
 oo 40 (.bin .int .sub (.t 39) (.c (.int .i64 1))),
 x3 1 12 40])))))))
 (.seq
 (.reg [x4 47 9 8,
 x3 9 10 47])
 .ret))))))
theorem ent127 : EntOK Tryz.prog 127 ⟨48, v127, [.cell 10 (some 9)]⟩ := fun args σ K ha h =>
 enter (own := List.range 48) Tryz.func127 (by kernel_rfl) (by kernel_rfl) (by kernel_rfl) ha h
def v129 : ACode :=
(.seq
 (.reg [x5 2 0])
 (.seq
 (.block 0
 (.seq
 (.reg [mv 4 0,
 oo 5 (.bin .int .geq (.t 4) (.c (.int .u8 97))),
 mv 6 5,
 z6 7 6 0,
 og 8 6 true (.bin .int .leq (.t 7) (.c (.int .u8 122))),
 y7 9 6 8,
 mv 10 9,
 z5 11 10 0,
 og 12 10 false (.bin .int .eql (.t 11) (.c (.int .u8 95))),
 y4 13 10 12,
 mv 3 13])
 (.cond (.t 3)
 (.seq
 (.reg [x5 2 1])
 .ret)
 (.seq
 (.reg [mv 15 0,
 oo 16 (.bin .int .geq (.t 15) (.c (.int .u8 65))),
 mv 17 16,
 z6 18 17 0,
 og 19 17 true (.bin .int .leq (.t 18) (.c (.int .u8 90))),
 y7 20 17 19,
 mv 14 20])
 (.cond (.t 14)
 (.seq
 (.reg [x5 2 2])
 .ret)
 (.seq
 (.reg [mv 22 0,
 oo 23 (.bin .int .geq (.t 22) (.c (.int .u8 48))),
 mv 24 23,
 z6 25 24 0,
 og 26 24 true (.bin .int .leq (.t 25) (.c (.int .u8 57))),
 y7 27 24 26,
 mv 21 27])
 (.cond (.t 21)
 (.seq
 (.reg [x5 2 3])
 .ret)
 .skip)))))))
 (.seq
 (.seq
 (.reg [mv 28 0])
 (.block 1
 (.seq
 (.seq
 (.reg [oo 30 (.bin .int .eql (.t 28) (.c (.int .u8 40))),
 mv 29 30])
 (.cond (.t 29)
 .skip
 (.seq
 (.reg [oo 31 (.bin .int .eql (.t 28) (.c (.int .u8 41))),
 mv 29 31])
 (.cond (.t 29)
 .skip
 (.seq
 (.reg [oo 32 (.bin .int .eql (.t 28) (.c (.int .u8 123))),
 mv 29 32])
 (.cond (.t 29)
 .skip
 (.seq
 (.reg [oo 33 (.bin .int .eql (.t 28) (.c (.int .u8 125))),
 mv 29 33])
 (.cond (.t 29)
 .skip
 (.seq
 (.reg [oo 34 (.bin .int .eql (.t 28) (.c (.int .u8 59))),
 mv 29 34])
 (.cond (.t 29)
 .skip
 (.reg [oo 35 (.bin .int .eql (.t 28) (.c (.int .u8 92))),
 mv 29 35])))))))))))
 (.cond (.t 29)
 (.seq
 (.reg [x5 2 4])
 .ret)
 (.seq
 (.seq
 (.reg [oo 37 (.bin .int .eql (.t 28) (.c (.int .u8 33))),
 mv 36 37])
 (.cond (.t 36)
 .skip
 (.seq
 (.reg [oo 38 (.bin .int .eql (.t 28) (.c (.int .u8 35))),
 mv 36 38])
 (.cond (.t 36)
 .skip
 (.seq
 (.reg [oo 39 (.bin .int .eql (.t 28) (.c (.int .u8 36))),
 mv 36 39])
 (.cond (.t 36)
 .skip
 (.seq
 (.reg [oo 40 (.bin .int .eql (.t 28) (.c (.int .u8 37))),
 mv 36 40])
 (.cond (.t 36)
 .skip
 (.seq
 (.reg [oo 41 (.bin .int .eql (.t 28) (.c (.int .u8 38))),
 mv 36 41])
 (.cond (.t 36)
 .skip
 (.seq
 (.reg [oo 42 (.bin .int .eql (.t 28) (.c (.int .u8 42))),
 mv 36 42])
 (.cond (.t 36)
 .skip
 (.seq
 (.reg [oo 43 (.bin .int .eql (.t 28) (.c (.int .u8 43))),
 mv 36 43])
 (.cond (.t 36)
 .skip
 (.seq
 (.reg [oo 44 (.bin .int .eql (.t 28) (.c (.int .u8 46))),
 mv 36 44])
 (.cond (.t 36)
 .skip
 (.seq
 (.reg [oo 45 (.bin .int .eql (.t 28) (.c (.int .u8 47))),
 mv 36 45])
 (.cond (.t 36)
 .skip
 (.seq
 (.reg [oo 46 (.bin .int .eql (.t 28) (.c (.int .u8 58))),
 mv 36 46])
 (.cond (.t 36)
 .skip
 (.seq
 (.reg [oo 47 (.bin .int .eql (.t 28) (.c (.int .u8 60))),
 mv 36 47])
 (.cond (.t 36)
 .skip
 (.seq
 (.reg [oo 48 (.bin .int .eql (.t 28) (.c (.int .u8 61))),
 mv 36 48])
 (.cond (.t 36)
 .skip
 (.seq
 (.reg [oo 49 (.bin .int .eql (.t 28) (.c (.int .u8 62))),
 mv 36 49])
 (.cond (.t 36)
 .skip
 (.seq
 (.reg [oo 50 (.bin .int .eql (.t 28) (.c (.int .u8 63))),
 mv 36 50])
 (.cond (.t 36)
 .skip
 (.seq
 (.reg [oo 51 (.bin .int .eql (.t 28) (.c (.int .u8 64))),
 mv 36 51])
 (.cond (.t 36)
 .skip
 (.seq
 (.reg [oo 52 (.bin .int .eql (.t 28) (.c (.int .u8 94))),
 mv 36 52])
 (.cond (.t 36)
 .skip
 (.seq
 (.reg [oo 53 (.bin .int .eql (.t 28) (.c (.int .u8 124))),
 mv 36 53])
 (.cond (.t 36)
 .skip
 (.seq
 (.reg [oo 54 (.bin .int .eql (.t 28) (.c (.int .u8 126))),
 mv 36 54])
 (.cond (.t 36)
 .skip
 (.reg [oo 55 (.bin .int .eql (.t 28) (.c (.int .u8 45))),
 mv 36 55])))))))))))))))))))))))))))))))))))))
 (.cond (.t 36)
 (.seq
 (.reg [x5 2 5])
 .ret)
 .skip))))))
 (.seq
 (.reg [x5 2 0])
 .ret))))
theorem ent129 : EntOK Tryz.prog 129 ⟨56, v129, [.slot 2]⟩ := fun args σ K ha h =>
 enter (own := List.range 56) Tryz.func129 (by kernel_rfl) (by kernel_rfl) (by kernel_rfl) ha h
def v130 : ACode :=
(.seq
 (.reg [y6 4])
 (.seq
 (.reg [mv 6 1,
 y5 7 129 6,
 mv 5 7])
 (.seq
 (.seq
 (.reg [mv 8 0])
 (.block 0
 (.seq
 (.seq
 (.reg [x7 10 8 1,
 mv 9 10])
 (.cond (.t 9)
 .skip
 (.reg [x7 11 8 2,
 mv 9 11])))
 (.cond (.t 9)
 (.seq
 (.reg [mv 12 5,
 x7 13 12 1,
 mv 14 13,
 z5 15 14 5,
 og 16 14 false (.bin .int .eql (.t 15) (.c (.int .i64 2))),
 y4 17 14 16,
 mv 18 17,
 z5 19 18 5,
 og 20 18 false (.bin .int .eql (.t 19) (.c (.int .i64 3))),
 y4 21 18 20,
 mv 22 21,
 z5 23 22 1,
 og 24 22 false (.bin .int .eql (.t 23) (.c (.int .u8 39))),
 y4 25 22 24,
 mv 4 25])
 .ret)
 (.seq
 (.seq
 (.reg [x7 27 8 3,
 mv 26 27])
 (.cond (.t 26)
 .skip
 (.reg [x7 28 8 5,
 mv 26 28])))
 (.cond (.t 26)
 (.seq
 (.reg [mv 29 5,
 mv 30 0,
 oo 31 (.bin .int .eql (.t 29) (.t 30)),
 mv 4 31])
 .ret)
 .skip))))))
 (.seq
 (.reg [y6 4])
 .ret))))
theorem ent130 : EntOK Tryz.prog 130 ⟨32, v130, [.slot 4]⟩ := fun args σ K ha h =>
 enter (own := List.range 32) Tryz.func130 (by kernel_rfl) (by kernel_rfl) (by kernel_rfl) ha h
def v131 : ACode :=
(.seq
 (.reg [x5 4 0])
 (.seq
 (.seq
 (.reg [mv 5 0])
 (.block 0
 (.seq
 (.reg [x7 7 5 2,
 mv 6 7])
 (.cond (.t 6)
 (.seq
 (.reg [x5 4 2])
 .ret)
 (.seq
 (.reg [x7 9 5 3,
 mv 8 9])
 (.cond (.t 8)
 (.seq
 (.reg [x5 4 4])
 .ret)
 (.seq
 (.reg [x7 11 5 5,
 mv 10 11])
 (.cond (.t 10)
 (.seq
 (.seq
 (.reg [mv 12 1,
 oo 13 (.bin .str .eql (.t 12) (.c (.str ⟨#[61]⟩))),
 mv 14 13,
 z5 15 14 1,
 og 16 14 false (.bin .str .eql (.t 15) (.c (.str ⟨#[124]⟩))),
 y4 17 14 16,
 mv 18 17,
 z5 19 18 1,
 og 20 18 false (.bin .str .eql (.t 19) (.c (.str ⟨#[45, 62]⟩))),
 y4 21 18 20])
 (.cond (.t 21)
 (.seq
 (.reg [x5 4 5])
 .ret)
 .skip))
 (.seq
 (.reg [x5 4 3])
 .ret))
 (.seq
 (.reg [x7 23 5 1,
 mv 22 23])
 (.cond (.t 22)
 (.seq
 (.seq
 (.reg [mv 24 1,
 oo 25 (.bin .str .eql (.t 24) (.c (.str ⟨#[95]⟩)))])
 (.cond (.t 25)
 (.seq
 (.reg [x5 4 5])
 .ret)
 .skip))
 (.seq
 (.seq
 (.reg [mv 26 1,
 y5 27 193 26])
 (.cond (.t 27)
 (.seq
 (.reg [x5 4 6])
 .ret)
 .skip))
 (.seq
 (.reg [x5 4 1])
 .ret)))
 .skip))))))))))
 (.seq
 (.reg [x5 4 5])
 .ret)))
theorem ent131 : EntOK Tryz.prog 131 ⟨28, v131, [.slot 4]⟩ := fun args σ K ha h =>
 enter (own := List.range 28) Tryz.func131 (by kernel_rfl) (by kernel_rfl) (by kernel_rfl) ha h
def v132 : ACode :=
(.seq
 (.reg [x5 2 0,
 x5 3 0])
 (.seq
 (.seq
 (.reg [mv 4 0,
 oo 5 (.bin .str .eql (.t 4) (.c (.str ⟨#[57, 50, 50, 51, 51, 55, 50, 48, 51, 54, 56, 53, 52, 55, 55, 53, 56, 48, 56]⟩)))])
 (.cond (.t 5)
 (.seq
 (.reg [mv 6 0,
 oo 7 (.bin .str .add (.c (.str ⟨#[45]⟩)) (.t 6)),
 y5 8 194 7,
 z9 9 8 0,
 z9 10 8 1,
 mv 2 9,
 mv 3 10])
 .ret)
 .skip))
 (.seq
 (.reg [mv 11 0,
 y5 12 194 11,
 z9 13 12 0,
 z9 14 12 1,
 mv 2 13,
 mv 3 14])
 .ret)))
theorem ent132 : EntOK Tryz.prog 132 ⟨15, v132, [.slot 2, .slot 3]⟩ := fun args σ K ha h =>
 enter (own := List.range 15) Tryz.func132 (by kernel_rfl) (by kernel_rfl) (by kernel_rfl) ha h
def v133 : ACode :=
(.seq
 (.reg [x5 2 0])
 (.seq
 (.reg [mv 4 0,
 y5 5 136 4,
 mv 3 5])
 (.seq
 (.seq
 (.reg [mv 6 3,
 oo 7 (.bin .int .lss (.t 6) (.c (.int .i64 0))),
 mv 8 7,
 z5 9 8 0,
 og 10 8 false (.nilck (.t 9)),
 z1 11 8 1 10,
 z3 12 8 11,
 z5 13 8 3,
 og 14 8 false (.iaddr 2 (.t 12) (.t 13)),
 z1 15 8 0 14,
 z3 16 8 15,
 og 17 8 false (.bin .int .eql (.t 16) (.c (.int .i64 1))),
 y4 18 8 17])
 (.cond (.t 18)
 (.seq
 (.reg [x5 2 0])
 .ret)
 .skip))
 (.seq
 (.reg [mv 19 0,
 y3 20 19,
 x2 21 1 20,
 x1 22 21,
 mv 23 3,
 x8 24 2 22 23,
 x2 25 1 24,
 x1 26 25,
 mv 2 26])
 .ret))))
theorem ent133 : EntOK Tryz.prog 133 ⟨27, v133, [.slot 2]⟩ := fun args σ K ha h =>
 enter (own := List.range 27) Tryz.func133 (by kernel_rfl) (by kernel_rfl) (by kernel_rfl) ha h
def v134 : ACode :=
(.reg [mv 6 0,
 mv 7 0,
 y3 8 7,
 x2 9 1 8,
 x1 10 9,
 mv 11 1,
 mv 12 2,
 oo 13 (.build [(.int .i64 0), (.int .i64 0)] [(0, 1, (.t 11)), (1, 1, (.t 12))]),
 z8 14 180 2 13,
 z7 15 180 2 16 10 14,
 y3 16 6,
 x2 17 1 16,
 x3 1 17 15])
theorem ent134 : EntOK Tryz.prog 134 ⟨18, v134, []⟩ := fun args σ K ha h =>
 enter (own := List.range 18) Tryz.func134 (by kernel_rfl) (by kernel_rfl) (by kernel_rfl) ha h
def v136 : ACode :=
(.seq
 (.reg [x5 2 0])
 (.seq
 (.seq
 (.reg [mv 5 0,
 y3 6 5,
 x2 7 1 6,
 x1 8 7,
 y1 9 8,
 oo 10 (.bin .int .sub (.t 9) (.c (.int .i64 1))),
 mv 3 10])
 (.block 0
 (.loop
 (.seq
 (.seq
 (.reg [mv 11 3,
 oo 12 (.bin .int .geq (.t 11) (.c (.int .i64 0)))])
 (.cond (.t 12)
 .skip
 (.exit 0)))
 (.seq
 (.block 1
 (.seq
 (.reg [mv 15 0,
 y3 16 15,
 x2 17 1 16,
 x1 18 17,
 mv 19 3,
 x8 20 2 18 19,
 x2 21 0 20,
 x1 22 21,
 mv 4 22])
 (.seq
 (.reg [mv 23 4,
 x7 24 23 0,
 mv 25 24,
 z5 26 25 4,
 og 27 25 false (.bin .int .eql (.t 26) (.c (.int .i64 1))),
 y4 28 25 27])
 (.cond (.t 28)
 (.seq
 (.reg [mv 29 3,
 mv 2 29])
 .ret)
 .skip))))
 (.reg [mv 13 3,
 oo 14 (.bin .int .sub (.t 13) (.c (.int .i64 1))),
 mv 3 14]))))))
 (.seq
 (.reg [oo 2 (.move (.c (.int .i64 (-1))))])
 .ret)))
theorem ent136 : EntOK Tryz.prog 136 ⟨30, v136, [.slot 2]⟩ := fun args σ K ha h =>
 enter (own := List.range 30) Tryz.func136 (by kernel_rfl) (by kernel_rfl) (by kernel_rfl) ha h
def v141 : ACode :=
(.seq
 (.reg [x5 2 0,
 oo 3 (.new 64 q2)])
 (.seq
 (.seq
 (.reg [mv 5 0,
 y5 6 89 5,
 oo 7 (.field 2 none (.t 6)),
 oo 8 (.bin .int .lss (.t 7) (.c (.int .i64 0)))])
 (.cond (.t 8)
 (.reg [mv 9 0,
 oo 10 (.call 62 [(.t 9), (.c (.int .i64 11))])])
 .skip))
 (.seq
 (.reg [mv 11 0,
 y5 12 61 11,
 oo 4 (.new 83 (.c (.agg [(.int .i64 0), (.str ⟨#[]⟩), (.int .i64 0), (.int .i64 0), (.int .i64 0), (.bool false)]))),
 x3 6 4 12])
 (.seq
 (.reg [x2 13 2 4,
 x1 14 13,
 x2 15 3 4,
 x4 16 2 15,
 mv 2 14,
 x3 2 3 16])
 .ret))))
theorem ent141 : EntOK Tryz.prog 141 ⟨17, v141, [.slot 2, .cell 3 (some 2)]⟩ := fun args σ K ha h =>
 enter (own := List.range 17) Tryz.func141 (by kernel_rfl) (by kernel_rfl) (by kernel_rfl) ha h
def v146 : ACode :=
(.seq
 (.reg [oo 2 (.new 193 (.c (.agg [(.int .i64 0), (.str ⟨#[]⟩), (.int .i64 0), .nils, .nils, .nils, .nils, (.int .i64 0), (.int .i64 0)])))])
 (.seq
 (.reg [mv 6 0,
 y5 7 196 6,
 oo 3 (.new 193 (.c (.agg [(.int .i64 0), (.str ⟨#[]⟩), (.int .i64 0), .nils, .nils, .nils, .nils, (.int .i64 0), (.int .i64 0)]))),
 x3 9 3 7])
 (.seq
 (.seq
 (.reg [mv 8 0,
 oo 9 (.call 91 [(.t 8), (.c (.int .i64 3))]),
 oo 10 (.not (.t 9))])
 (.cond (.t 10)
 (.seq
 (.reg [x4 11 9 3,
 x3 9 2 11])
 .ret)
 .skip))
 (.seq
 (.reg [x4 12 9 3,
 z8 13 193 9 12,
 oo 14 (.build [(.int .i64 0), (.str ⟨#[]⟩), (.int .i64 0), .nils, .nils, .nils, .nils, (.int .i64 0), (.int .i64 0)] [(0, 1, (.c (.int .i64 (-1)))), (4, 1, (.t 13))]),
 oo 4 (.new 193 (.c (.agg [(.int .i64 0), (.str ⟨#[]⟩), (.int .i64 0), .nils, .nils, .nils, .nils, (.int .i64 0), (.int .i64 0)]))),
 x3 9 4 14])
 (.seq
 (.block 0
 (.loop
 (.seq
 (.seq
 (.reg [mv 15 0,
 oo 16 (.call 91 [(.t 15), (.c (.int .i64 3))])])
 (.cond (.t 16)
 .skip
 (.exit 0)))
 (.block 1
 (.seq
 (.reg [mv 17 0,
 y5 18 61 17,
 oo 5 (.new 83 (.c (.agg [(.int .i64 0), (.str ⟨#[]⟩), (.int .i64 0), (.int .i64 0), (.int .i64 0), (.bool false)]))),
 x3 6 5 18])
 (.seq
 (.reg [x2 19 6 4,
 x1 20 19,
 x2 21 1 5,
 x1 22 21,
 x2 23 3 5,
 x4 24 2 23,
 oo 25 (.build [(.str ⟨#[]⟩), .nils, (.int .i64 0), (.int .i64 0)] [(0, 1, (.t 22)), (2, 2, (.t 24))]),
 z8 26 120 4 25,
 z7 27 120 4 56 20 26,
 x2 28 6 4,
 x3 1 28 27])
 (.draw [] [([⟨(some 29), .faddr 4 (.t 4), none⟩], []),
 ([⟨(some 30), .load none (.t 29), none⟩], []),
 ([⟨(some 31), .move (.t 0), none⟩], []),
 ([⟨(some 32), .call 196 [(.t 31)], none⟩], [⟨(some 29), .faddr 4 (.t 4), none⟩, ⟨(some 30), .load none (.t 29), none⟩]),
 ([⟨(some 33), .lit true 193 9 [(.t 32)], none⟩], [⟨(some 29), .faddr 4 (.t 4), none⟩, ⟨(some 30), .load none (.t 29), none⟩]),
 ([⟨(some 34), .append 193 9 144 (.t 30) (.t 33), none⟩], []),
 ([⟨(some 35), .faddr 4 (.t 4), none⟩], []),
 ([x3 1 35 34], [])])))))))
 (.seq
 (.reg [x4 36 9 4,
 x3 9 2 36])
 .ret))))))
theorem ent146 : EntOK Tryz.prog 146 ⟨37, v146, [.cell 2 (some 9)]⟩ := fun args σ K ha h =>
 enter (own := List.range 37) Tryz.func146 (by kernel_rfl) (by kernel_rfl) (by kernel_rfl) ha h
def v147 : ACode :=
(.seq
 (.reg [y8 3 193 1,
 oo 4 (.new 193 (.c (.agg [(.int .i64 0), (.str ⟨#[]⟩), (.int .i64 0), .nils, .nils, .nils, .nils, (.int .i64 0), (.int .i64 0)])))])
 (.seq
 (.reg [mv 10 0,
 x4 11 9 3,
 y2 12 197 10 11,
 oo 5 (.new 318 (.c .nils)),
 x3 1 5 12])
 (.seq
 (.seq
 (.reg [mv 13 0,
 y3 14 13,
 x2 15 1 14,
 x1 16 15])
 (.cond (.t 16)
 (.seq
 (.reg [x4 17 9 3,
 x3 9 4 17])
 .ret)
 .skip))
 (.seq
 (.reg [oo 6 (.new 190 (.c .nils))])
 (.seq
 (.seq
 (.reg [x2 18 4 3,
 x1 19 18,
 y1 20 19,
 x5 21 0])
 (.block 0
 (.loop
 (.seq
 (.reg [x9 22 21 20])
 (.seq
 (.cond (.t 22)
 .skip
 (.exit 0))
 (.seq
 (.block 1
 (.seq
 (.reg [x8 23 9 19 21,
 x4 24 9 23,
 oo 8 (.new 193 (.c (.agg [(.int .i64 0), (.str ⟨#[]⟩), (.int .i64 0), .nils, .nils, .nils, .nils, (.int .i64 0), (.int .i64 0)]))),
 x3 9 8 24])
 (.perm [([⟨(some 25), .load none (.t 6), none⟩], []),
 ([⟨(some 26), .move (.t 0), none⟩], []),
 ([⟨(some 27), .load (some 9) (.t 8), none⟩], []),
 ([⟨(some 29), .len .slice (.t 25), none⟩], []),
 ([⟨(some 30), .lit false 193 9 [(.c (.agg [(.int .i64 0), (.str ⟨#[]⟩), (.int .i64 0), .nils, .nils, .nils, .nils, (.int .i64 0), (.int .i64 0)]))], none⟩], []),
 ([⟨(some 28), .call 96 [(.t 26), (.t 27)], none⟩], [⟨(some 25), .load none (.t 6), none⟩]),
 ([⟨(some 31), .append 193 9 144 (.t 25) (.t 30), none⟩], []),
 ([⟨(some 32), .iaddr 9 (.t 31) (.t 29), none⟩], [])] [(8, [x3 9 32 28], []),
 (9, [x3 1 6 31], [⟨(some 32), .iaddr 9 (.t 31) (.t 29), none⟩])] [])))
 (.reg [x6 33 21 1,
 mv 21 33])))))))
 (.seq
 (.reg [oo 9 (.new 320 (.c .nilf))])
 (.seq
 (.reg [oo 34 (.mkfn (.func 198) [] [(.t 5), (.t 3), (.t 9), (.t 6)]),
 x3 1 9 34])
 (.seq
 (.reg [x1 35 9,
 x1 36 6,
 y1 37 36,
 oo 38 (.bin .int .sub (.t 37) (.c (.int .i64 1))),
 oo 39 (.callv (.t 35) [(.c (.int .i64 0)), (.t 38)]),
 x3 9 4 39])
 .ret))))))))
theorem ent147 : EntOK Tryz.prog 147 ⟨40, v147, [.cell 4 (some 9)]⟩ := fun args σ K ha h =>
 enter (own := []) Tryz.func147 (by kernel_rfl) (by kernel_rfl) (by kernel_rfl) ha h
def v148 : ACode :=
(.seq
 (.reg [y6 4])
 (.seq
 (.seq
 (.reg [mv 7 0,
 y1 8 7,
 x5 9 0])
 (.block 0
 (.loop
 (.seq
 (.reg [x9 10 9 8])
 (.seq
 (.cond (.t 10)
 .skip
 (.exit 0))
 (.seq
 (.block 1
 (.seq
 (.reg [x8 11 1 7 9,
 x1 12 11,
 mv 6 12])
 (.seq
 (.reg [mv 13 6,
 mv 14 1,
 oo 15 (.bin .str .eql (.t 13) (.t 14))])
 (.cond (.t 15)
 (.seq
 (.reg [oo 4 (.move (.c (.bool true)))])
 .ret)
 .skip))))
 (.reg [x6 16 9 1,
 mv 9 16])))))))
 (.seq
 (.reg [y6 4])
 .ret)))
theorem ent148 : EntOK Tryz.prog 148 ⟨17, v148, [.slot 4]⟩ := fun args σ K ha h =>
 enter (own := List.range 17) Tryz.func148 (by kernel_rfl) (by kernel_rfl) (by kernel_rfl) ha h
def v150 : ACode :=
(.seq
 (.reg [y8 3 256 0,
 y8 4 47 1,
 y8 5 1 2])
 (.seq
 (.reg [y9 6])
 (.seq
 (.seq
 (.reg [x1 9 4,
 y1 10 9,
 x5 11 0])
 (.block 0
 (.loop
 (.seq
 (.reg [x9 12 11 10])
 (.seq
 (.cond (.t 12)
 .skip
 (.exit 0))
 (.seq
 (.block 1
 (.seq
 (.reg [x8 13 4 9 11,
 x4 14 4 13,
 oo 8 (.new 120 (.c (.agg [(.str ⟨#[]⟩), .nils, (.int .i64 0), (.int .i64 0)]))),
 x3 4 8 14])
 (.seq
 (.block 2
 (.seq
 (.reg [x2 16 0 8,
 x1 17 16,
 y5 18 199 17,
 oo 19 (.bin .int .gtr (.t 18) (.c (.int .i64 0))),
 mv 15 19])
 (.cond (.t 15)
 (.reg [x1 20 3,
 x2 21 2 8,
 x4 22 2 21,
 oo 23 (.call 149 [(.t 20), (.c (.int .i64 90)), (.t 22)])])
 (.seq
 (.reg [mv 25 6,
 x2 26 0 8,
 x1 27 26,
 y2 28 148 25 27,
 mv 24 28])
 (.cond (.t 24)
 (.reg [x1 29 3,
 x2 30 2 8,
 x4 31 2 30,
 oo 32 (.call 149 [(.t 29), (.c (.int .i64 80)), (.t 31)])])
 .skip)))))
 (.reg [mv 33 6,
 x2 34 0 8,
 x1 35 34,
 z8 36 9 1 35,
 z7 37 9 1 16 33 36,
 mv 6 37]))))
 (.reg [x6 38 11 1,
 mv 11 38])))))))
 (.reg [x1 39 3,
 mv 40 6,
 oo 41 (.mkfn (.func 201) [] [(.t 4), (.t 3), (.t 5)]),
 oo 42 (.call 200 [(.t 39), (.t 40), (.t 41)])]))))
theorem ent150 : EntOK Tryz.prog 150 ⟨43, v150, []⟩ := fun args σ K ha h =>
 enter (own := List.range 43) Tryz.func150 (by kernel_rfl) (by kernel_rfl) (by kernel_rfl) ha h
def v151 : ACode :=
.skip
theorem ent151 : EntOK Tryz.prog 151 ⟨0, v151, []⟩ := fun args σ K ha h =>
 enter (own := List.range 0) Tryz.func151 (by kernel_rfl) (by kernel_rfl) (by kernel_rfl) ha h
def v152 : ACode :=
(.seq
 (.reg [y9 2])
 (.seq
 (.reg [y9 3])
 (.seq
 (.seq
 (.reg [mv 15 0,
 y1 16 15,
 x5 17 0])
 (.block 0
 (.loop
 (.seq
 (.reg [x9 18 17 16])
 (.seq
 (.cond (.t 18)
 .skip
 (.exit 0))
 (.seq
 (.block 1
 (.seq
 (.reg [x8 19 4 15 17,
 x4 20 4 19,
 oo 5 (.new 120 (.c (.agg [(.str ⟨#[]⟩), .nils, (.int .i64 0), (.int .i64 0)]))),
 x3 4 5 20])
 (.reg [mv 21 3,
 x2 22 0 5,
 x1 23 22,
 z8 24 9 1 23,
 z7 25 9 1 16 21 24,
 mv 3 25])))
 (.reg [x6 26 17 1,
 mv 17 26])))))))
 (.seq
 (.reg [y9 6])
 (.seq
 (.seq
 (.reg [mv 27 0,
 y1 28 27,
 x5 29 0])
 (.block 2
 (.loop
 (.seq
 (.reg [x9 30 29 28])
 (.seq
 (.cond (.t 30)
 .skip
 (.exit 2))
 (.seq
 (.block 3
 (.seq
 (.reg [x8 31 4 27 29,
 x4 32 4 31,
 oo 8 (.new 120 (.c (.agg [(.str ⟨#[]⟩), .nils, (.int .i64 0), (.int .i64 0)]))),
 x3 4 8 32])
 (.seq
 (.reg [y9 9])
 (.seq
 (.seq
 (.reg [x4 33 4 8,
 y5 34 203 33,
 y1 35 34,
 x5 36 0])
 (.block 4
 (.loop
 (.seq
 (.reg [x9 37 36 35])
 (.seq
 (.cond (.t 37)
 .skip
 (.exit 4))
 (.seq
 (.block 5
 (.seq
 (.reg [x8 38 1 34 36,
 x1 39 38,
 mv 11 39])
 (.seq
 (.reg [mv 40 3,
 mv 41 11,
 y2 42 204 40 41,
 mv 12 42])
 (.seq
 (.reg [mv 43 12,
 oo 44 (.bin .int .geq (.t 43) (.c (.int .i64 0)))])
 (.cond (.t 44)
 (.reg [mv 45 9,
 mv 46 12,
 z8 47 3 1 46,
 z7 48 3 1 8 45 47,
 mv 9 48])
 .skip)))))
 (.reg [x6 49 36 1,
 mv 36 49])))))))
 (.reg [mv 50 6,
 mv 51 9,
 z8 52 131 1 51,
 z7 53 131 1 24 50 52,
 mv 6 53])))))
 (.reg [x6 54 29 1,
 mv 29 54])))))))
 (.seq
 (.reg [mv 56 6,
 y5 57 205 56,
 mv 55 57,
 z9 58 55 0,
 z9 59 55 1,
 mv 13 58,
 mv 14 59])
 (.seq
 (.reg [mv 60 13,
 mv 2 60])
 .ret)))))))
theorem ent152 : EntOK Tryz.prog 152 ⟨61, v152, [.slot 2]⟩ := fun args σ K ha h =>
 enter (own := List.range 61) Tryz.func152 (by kernel_rfl) (by kernel_rfl) (by kernel_rfl) ha h
def v153 : ACode :=
(.seq
 (.reg [y8 3 198 0,
 y8 4 47 1,
 y8 5 131 2,
 oo 6 (.new 135 q4)])
 (.seq
 (.draw [7] [([⟨(some 19), .load none (.t 5), none⟩], []),
 ([⟨(some 20), .load none (.t 3), none⟩], []),
 ([⟨(some 21), .load none (.t 5), none⟩], []),
 ([⟨(some 22), .len .slice (.t 21), none⟩], []),
 ([⟨(some 23), .call 206 [(.t 20), (.t 22)], none⟩], [⟨(some 19), .load none (.t 5), none⟩]),
 ([⟨(some 24), .build [.nils, .nils, .nils, .nils] [(0, 1, (.t 19)), (2, 1, (.t 23))], none⟩], []),
 ([⟨(some 7), .new 135 q4, none⟩, x3 4 7 24], [])])
 (.seq
 (.reg [y9 8])
 (.seq
 (.seq
 (.reg [x1 25 5,
 y1 26 25,
 x5 27 0])
 (.block 0
 (.loop
 (.seq
 (.reg [x9 28 27 26])
 (.seq
 (.cond (.t 28)
 .skip
 (.exit 0))
 (.seq
 (.block 1
 (.seq
 (.reg [mv 29 27,
 x8 30 1 25 27,
 x1 31 30,
 mv 9 29,
 mv 10 31])
 (.reg [mv 32 8,
 x1 33 4,
 mv 34 10,
 x8 35 4 33 34,
 x2 36 0 35,
 x1 37 36,
 x2 38 2 7,
 x1 39 38,
 mv 40 9,
 x8 41 4 39 40,
 x4 42 4 41,
 oo 43 (.build [.nils, (.int .i64 0), (.int .i64 0), (.str ⟨#[]⟩), .nils] [(1, 4, (.t 42))]),
 oo 44 (.build [(.str ⟨#[]⟩), .nils, (.int .i64 0), (.int .i64 0), (.str ⟨#[]⟩), .nils, (.bool false)] [(0, 1, (.t 37)), (1, 5, (.t 43))]),
 z8 45 331 7 44,
 z7 46 331 7 104 32 45,
 mv 8 46])))
 (.reg [x6 47 27 1,
 mv 27 47])))))))
 (.seq
 (.reg [x1 48 3,
 mv 49 8,
 oo 50 (.mkfn (.func 208) [] [(.t 5), (.t 7), (.t 3), (.t 4)]),
 oo 51 (.call 207 [(.t 48), (.t 49), (.t 50)])])
 (.seq
 (.seq
 (.reg [x1 52 3,
 y3 53 52,
 x2 54 3 53,
 x1 55 54])
 (.cond (.t 55)
 (.seq
 (.reg [x4 56 4 7,
 x3 4 6 56])
 .ret)
 .skip))
 (.seq
 (.reg [x1 57 3,
 y5 58 210 57,
 mv 11 58])
 (.seq
 (.seq
 (.reg [x1 59 5,
 y1 60 59,
 x5 61 0])
 (.block 2
 (.loop
 (.seq
 (.reg [x9 62 61 60])
 (.seq
 (.cond (.t 62)
 .skip
 (.exit 2))
 (.seq
 (.block 3
 (.seq
 (.reg [mv 63 61,
 x8 64 1 59 61,
 x1 65 64,
 mv 12 63,
 mv 13 65])
 (.seq
 (.draw [14] [([⟨(some 67), .load none (.t 3), none⟩], []),
 ([⟨(some 68), .nilck (.t 67), none⟩], []),
 ([⟨(some 69), .faddr 0 (.t 68), none⟩], []),
 ([⟨(some 70), .load none (.t 69), none⟩], []),
 ([⟨(some 71), .faddr 2 (.t 7), none⟩], []),
 ([⟨(some 72), .load none (.t 71), none⟩], []),
 ([⟨(some 73), .move (.t 12), none⟩], []),
 ([⟨(some 74), .iaddr 4 (.t 72) (.t 73), none⟩], []),
 ([⟨(some 75), .load (some 4) (.t 74), none⟩], []),
 ([⟨(some 76), .call 211 [(.t 70), (.t 75)], none⟩], []),
 ([⟨(some 66), .move (.t 76), none⟩], []),
 ([⟨(some 77), .extract (.t 66) 0, none⟩], []),
 ([⟨(some 78), .extract (.t 66) 1, none⟩], []),
 ([⟨(some 14), .new 137 (.c (.agg [(.int .i64 0), (.int .i64 0), (.str ⟨#[]⟩), .nils])), none⟩, x3 4 14 77], []),
 ([⟨(some 15), .move (.t 78), none⟩], [])])
 (.seq
 (.seq
 (.reg [mv 79 15,
 oo 80 (.bin .int .neq (.t 79) (.c (.int .i64 0)))])
 (.cond (.t 80)
 (.seq
 (.draw [] [([⟨(some 81), .load none (.t 3), none⟩], []),
 ([⟨(some 82), .call 213 [], none⟩], [⟨(some 81), .load none (.t 3), none⟩]),
 ([⟨(some 83), .call 212 [(.t 81), (.c (.int .i64 102)), (.t 82)], none⟩], [])])
 (.seq
 (.reg [x4 84 4 7,
 x3 4 6 84])
 .ret))
 .skip))
 (.seq
 (.reg [x2 85 2 7,
 x1 86 85,
 mv 87 12,
 x4 88 4 14,
 x8 89 4 86 87,
 x3 4 89 88])
 (.seq
 (.seq
 (.reg [x4 90 4 14,
 y5 91 69 90,
 y1 92 91,
 x5 93 0])
 (.block 4
 (.loop
 (.seq
 (.reg [x9 94 93 92])
 (.seq
 (.cond (.t 94)
 .skip
 (.exit 4))
 (.seq
 (.block 5
 (.seq
 (.reg [x8 95 1 91 93,
 x1 96 95,
 mv 17 96])
 (.seq
 (.reg [mv 97 11,
 mv 98 17,
 y2 99 214 97 98,
 oo 100 (.not (.t 99)),
 mv 101 100,
 z2 102 101 1 7,
 z4 103 101 102,
 z6 104 101 17,
 og 105 101 true (.call 214 [(.t 103), (.t 104)]),
 og 106 101 true (.not (.t 105)),
 y7 107 101 106])
 (.cond (.t 107)
 (.reg [x2 108 1 7,
 x1 109 108,
 mv 110 17,
 z8 111 3 1 110,
 z7 112 3 1 8 109 111,
 x2 113 1 7,
 x3 1 113 112])
 .skip))))
 (.reg [x6 114 93 1,
 mv 93 114])))))))
 (.draw [] [([⟨(some 115), .load none (.t 3), none⟩], []),
 ([⟨(some 116), .load none (.t 3), none⟩], []),
 ([⟨(some 117), .nilck (.t 116), none⟩], []),
 ([⟨(some 118), .faddr 2 (.t 117), none⟩], []),
 ([⟨(some 119), .load none (.t 118), none⟩], []),
 ([⟨(some 120), .load none (.t 4), none⟩], []),
 ([⟨(some 121), .move (.t 13), none⟩], []),
 ([⟨(some 122), .iaddr 4 (.t 120) (.t 121), none⟩], []),
 ([⟨(some 123), .faddr 0 (.t 122), none⟩], []),
 ([⟨(some 124), .load none (.t 123), none⟩], []),
 ([⟨(some 125), .build [(.str ⟨#[]⟩), .nils, (.int .i64 0), (.int .i64 0), (.str ⟨#[]⟩), .nils, (.bool false)] [(0, 1, (.t 124)), (6, 1, (.c (.bool true)))], none⟩], []),
 ([⟨(some 126), .lit true 331 7 [(.t 125)], none⟩], [⟨(some 115), .load none (.t 3), none⟩, ⟨(some 116), .load none (.t 3), none⟩, ⟨(some 118), .faddr 2 (.t 117), none⟩, ⟨(some 119), .load none (.t 118), none⟩]),
 ([⟨(some 127), .append 331 7 104 (.t 119) (.t 126), none⟩], [⟨(some 115), .load none (.t 3), none⟩]),
 ([⟨(some 128), .nilck (.t 115), none⟩], []),
 ([⟨(some 129), .faddr 2 (.t 128), none⟩], []),
 ([x3 1 129 127], [])])))))))
 (.reg [x6 130 61 1,
 mv 61 130])))))))
 (.seq
 (.seq
 (.reg [x1 131 5,
 y1 132 131,
 x5 133 0])
 (.block 6
 (.loop
 (.seq
 (.reg [x9 134 133 132])
 (.seq
 (.cond (.t 134)
 .skip
 (.exit 6))
 (.seq
 (.block 7
 (.seq
 (.reg [mv 135 133,
 mv 18 135])
 (.draw [] [([⟨(some 136), .load none (.t 3), none⟩], []),
 ([⟨(some 137), .nilck (.t 136), none⟩], []),
 ([⟨(some 138), .faddr 2 (.t 137), none⟩], []),
 ([⟨(some 139), .load none (.t 138), none⟩], []),
 ([⟨(some 140), .load none (.t 3), none⟩], []),
 ([⟨(some 141), .nilck (.t 140), none⟩], []),
 ([⟨(some 142), .faddr 2 (.t 141), none⟩], []),
 ([⟨(some 143), .load none (.t 142), none⟩], []),
 ([⟨(some 144), .len .slice (.t 143), none⟩], []),
 ([⟨(some 145), .load none (.t 5), none⟩], []),
 ([⟨(some 146), .len .slice (.t 145), none⟩], []),
 ([⟨(some 147), .bin .int .sub (.t 144) (.t 146), none⟩], []),
 ([⟨(some 148), .move (.t 18), none⟩], []),
 ([⟨(some 149), .bin .int .add (.t 147) (.t 148), none⟩], []),
 ([⟨(some 150), .faddr 2 (.t 7), none⟩], []),
 ([⟨(some 151), .load none (.t 150), none⟩], []),
 ([⟨(some 152), .move (.t 18), none⟩], []),
 ([⟨(some 153), .iaddr 4 (.t 151) (.t 152), none⟩], []),
 ([⟨(some 154), .load (some 4) (.t 153), none⟩], []),
 ([⟨(some 155), .faddr 1 (.t 7), none⟩], []),
 ([⟨(some 156), .load none (.t 155), none⟩], []),
 ([⟨(some 157), .call 215 [(.t 154), (.t 156)], none⟩], [⟨(some 136), .load none (.t 3), none⟩, ⟨(some 138), .faddr 2 (.t 137), none⟩, ⟨(some 139), .load none (.t 138), none⟩, ⟨(some 140), .load none (.t 3), none⟩, ⟨(some 142), .faddr 2 (.t 141), none⟩, ⟨(some 143), .load none (.t 142), none⟩, ⟨(some 145), .load none (.t 5), none⟩]),
 ([⟨(some 158), .iaddr 7 (.t 139) (.t 149), none⟩], []),
 ([⟨(some 159), .faddr 1 (.t 158), none⟩], []),
 ([x3 5 159 157], [])])))
 (.reg [x6 160 133 1,
 mv 133 160])))))))
 (.seq
 (.reg [x4 161 4 7,
 x3 4 6 161])
 .ret))))))))))
theorem ent153 : EntOK Tryz.prog 153 ⟨162, v153, [.cell 6 (some 4)]⟩ := fun args σ K ha h =>
 enter (own := List.range 162) Tryz.func153 (by kernel_rfl) (by kernel_rfl) (by kernel_rfl) ha h
def v154 : ACode :=
(.seq
 (.reg [y9 4])
 (.seq
 (.reg [y9 5])
 (.seq
 (.seq
 (.reg [mv 8 1,
 y1 9 8,
 x5 10 0])
 (.block 0
 (.loop
 (.seq
 (.reg [x9 11 10 9])
 (.seq
 (.cond (.t 11)
 .skip
 (.exit 0))
 (.seq
 (.block 1
 (.seq
 (.reg [x8 12 4 8 10,
 x4 13 4 12,
 oo 7 (.new 137 (.c (.agg [(.int .i64 0), (.int .i64 0), (.str ⟨#[]⟩), .nils]))),
 x3 4 7 13])
 (.reg [mv 14 5,
 mv 15 0,
 x4 16 4 7,
 y2 17 216 15 16,
 z8 18 137 4 17,
 z7 19 137 4 56 14 18,
 mv 5 19])))
 (.reg [x6 20 10 1,
 mv 10 20])))))))
 (.seq
 (.reg [mv 21 5,
 mv 4 21])
 .ret))))
theorem ent154 : EntOK Tryz.prog 154 ⟨22, v154, [.slot 4]⟩ := fun args σ K ha h =>
 enter (own := List.range 22) Tryz.func154 (by kernel_rfl) (by kernel_rfl) (by kernel_rfl) ha h
def v155 : ACode :=
(.seq
 (.reg [y9 4])
 (.seq
 (.reg [y9 5])
 (.seq
 (.seq
 (.reg [mv 8 1,
 y1 9 8,
 x5 10 0])
 (.block 0
 (.loop
 (.seq
 (.reg [x9 11 10 9])
 (.seq
 (.cond (.t 11)
 .skip
 (.exit 0))
 (.seq
 (.block 1
 (.seq
 (.reg [x8 12 6 8 10,
 x4 13 6 12,
 oo 7 (.new 339 (.c (.agg [(.int .i64 0), (.int .i64 0), (.str ⟨#[]⟩), .nils, .nils, .nils]))),
 x3 6 7 13])
 (.draw [] [([⟨(some 14), .move (.t 5), none⟩], []),
 ([⟨(some 15), .move (.t 0), none⟩], []),
 ([⟨(some 16), .faddr 0 (.t 7), none⟩], []),
 ([⟨(some 17), .load (some 4) (.t 16), none⟩], []),
 ([⟨(some 19), .move (.t 0), none⟩], []),
 ([⟨(some 20), .faddr 4 (.t 7), none⟩], []),
 ([⟨(some 21), .load none (.t 20), none⟩], []),
 ([⟨(some 23), .move (.t 0), none⟩], []),
 ([⟨(some 24), .faddr 5 (.t 7), none⟩], []),
 ([⟨(some 25), .load none (.t 24), none⟩], []),
 ([⟨(some 18), .call 216 [(.t 15), (.t 17)], none⟩], [⟨(some 20), .faddr 4 (.t 7), none⟩, ⟨(some 21), .load none (.t 20), none⟩, ⟨(some 24), .faddr 5 (.t 7), none⟩, ⟨(some 25), .load none (.t 24), none⟩]),
 ([⟨(some 22), .call 154 [(.t 19), (.t 21)], none⟩], [⟨(some 24), .faddr 5 (.t 7), none⟩, ⟨(some 25), .load none (.t 24), none⟩]),
 ([⟨(some 26), .call 155 [(.t 23), (.t 25)], none⟩], []),
 ([⟨(some 27), .build [(.int .i64 0), (.int .i64 0), (.str ⟨#[]⟩), .nils, .nils, .nils] [(0, 4, (.t 18)), (4, 1, (.t 22)), (5, 1, (.t 26))], none⟩], []),
 ([⟨(some 28), .lit true 339 6 [(.t 27)], none⟩], []),
 ([⟨(some 29), .append 339 6 104 (.t 14) (.t 28), none⟩], []),
 ([⟨(some 5), .move (.t 29), none⟩], [])])))
 (.reg [x6 30 10 1,
 mv 10 30])))))))
 (.seq
 (.reg [mv 31 5,
 mv 4 31])
 .ret))))
theorem ent155 : EntOK Tryz.prog 155 ⟨32, v155, [.slot 4]⟩ := fun args σ K ha h =>
 enter (own := List.range 32) Tryz.func155 (by kernel_rfl) (by kernel_rfl) (by kernel_rfl) ha h
def v156 : ACode :=
(.seq
 (.reg [y9 4])
 (.seq
 (.reg [y9 5])
 (.seq
 (.seq
 (.reg [mv 8 1,
 y1 9 8,
 x5 10 0])
 (.block 0
 (.loop
 (.seq
 (.reg [x9 11 10 9])
 (.seq
 (.cond (.t 11)
 .skip
 (.exit 0))
 (.seq
 (.block 1
 (.seq
 (.reg [x8 12 9 8 10,
 x4 13 9 12,
 oo 7 (.new 345 (.c (.agg [.nils, (.int .i64 0), (.int .i64 0), (.str ⟨#[]⟩), .nils, .nils, .nils, .nils, .nils]))),
 x3 9 7 13])
 (.draw [] [([⟨(some 14), .move (.t 5), none⟩], []),
 ([⟨(some 15), .move (.t 0), none⟩], []),
 ([⟨(some 16), .faddr 0 (.t 7), none⟩], []),
 ([⟨(some 17), .load none (.t 16), none⟩], []),
 ([⟨(some 19), .move (.t 0), none⟩], []),
 ([⟨(some 20), .faddr 1 (.t 7), none⟩], []),
 ([⟨(some 21), .load (some 8) (.t 20), none⟩], []),
 ([⟨(some 18), .call 217 [(.t 15), (.t 17)], none⟩], [⟨(some 20), .faddr 1 (.t 7), none⟩, ⟨(some 21), .load (some 8) (.t 20), none⟩]),
 ([⟨(some 22), .call 218 [(.t 19), (.t 21)], none⟩], []),
 ([⟨(some 23), .build [.nils, (.int .i64 0), (.int .i64 0), (.str ⟨#[]⟩), .nils, .nils, .nils, .nils, .nils] [(0, 1, (.t 18)), (1, 8, (.t 22))], none⟩], []),
 ([⟨(some 24), .lit true 345 9 [(.t 23)], none⟩], []),
 ([⟨(some 25), .append 345 9 176 (.t 14) (.t 24), none⟩], []),
 ([⟨(some 5), .move (.t 25), none⟩], [])])))
 (.reg [x6 26 10 1,
 mv 10 26])))))))
 (.seq
 (.reg [mv 27 5,
 mv 4 27])
 .ret))))
theorem ent156 : EntOK Tryz.prog 156 ⟨28, v156, [.slot 4]⟩ := fun args σ K ha h =>
 enter (own := List.range 28) Tryz.func156 (by kernel_rfl) (by kernel_rfl) (by kernel_rfl) ha h
def v157 : ACode :=
(.seq
 (.reg [y8 3 137 0,
 oo 6 (.new 137 (.c (.agg [(.int .i64 0), (.int .i64 0), (.str ⟨#[]⟩), .nils])))])
 (.seq
 (.seq
 (.reg [x2 12 0 3,
 x1 13 12,
 x7 14 13 1])
 (.cond (.t 14)
 (.seq
 (.seq
 (.reg [mv 15 1,
 y1 16 15,
 x5 17 0])
 (.block 0
 (.loop
 (.seq
 (.reg [x9 18 17 16])
 (.seq
 (.cond (.t 18)
 .skip
 (.exit 0))
 (.seq
 (.block 1
 (.seq
 (.reg [mv 19 17,
 x8 20 1 15 17,
 x1 21 20,
 mv 7 19,
 mv 8 21])
 (.seq
 (.seq
 (.reg [mv 22 8,
 x2 23 1 3,
 x1 24 23,
 oo 25 (.bin .int .eql (.t 22) (.t 24)),
 mv 26 25,
 z6 27 26 7,
 z6 28 26 2,
 og 29 26 true (.len .slice (.t 28)),
 og 30 26 true (.bin .int .lss (.t 27) (.t 29)),
 y7 31 26 30])
 (.cond (.t 31)
 (.seq
 (.reg [mv 32 2,
 mv 33 7,
 x8 34 4 32 33,
 x4 35 4 34,
 y5 36 219 35,
 x3 4 6 36])
 .ret)
 .skip))
 (.seq
 (.reg [mv 37 8,
 x2 38 1 3,
 x1 39 38,
 oo 40 (.bin .int .eql (.t 37) (.t 39))])
 (.cond (.t 40)
 (.seq
 (.reg [x4 41 4 3,
 x3 4 6 41])
 .ret)
 .skip)))))
 (.reg [x6 42 17 1,
 mv 17 42])))))))
 (.seq
 (.reg [x4 43 4 3,
 x3 4 6 43])
 .ret))
 .skip))
 (.seq
 (.reg [x2 44 0 3,
 x1 45 44,
 x2 46 2 3,
 x1 47 46,
 oo 48 (.build [(.int .i64 0), (.int .i64 0), (.str ⟨#[]⟩), .nils] [(0, 1, (.t 45)), (2, 1, (.t 47))]),
 oo 9 (.new 137 (.c (.agg [(.int .i64 0), (.int .i64 0), (.str ⟨#[]⟩), .nils]))),
 x3 4 9 48])
 (.seq
 (.seq
 (.reg [x2 49 3 3,
 x1 50 49,
 y1 51 50,
 x5 52 0])
 (.block 2
 (.loop
 (.seq
 (.reg [x9 53 52 51])
 (.seq
 (.cond (.t 53)
 .skip
 (.exit 2))
 (.seq
 (.block 3
 (.seq
 (.reg [x8 54 4 50 52,
 x4 55 4 54,
 oo 11 (.new 137 (.c (.agg [(.int .i64 0), (.int .i64 0), (.str ⟨#[]⟩), .nils]))),
 x3 4 11 55])
 (.draw [] [([⟨(some 56), .faddr 3 (.t 9), none⟩], []),
 ([⟨(some 57), .load none (.t 56), none⟩], []),
 ([⟨(some 58), .load (some 4) (.t 11), none⟩], []),
 ([⟨(some 59), .move (.t 1), none⟩], []),
 ([⟨(some 60), .move (.t 2), none⟩], []),
 ([⟨(some 61), .call 157 [(.t 58), (.t 59), (.t 60)], none⟩], [⟨(some 56), .faddr 3 (.t 9), none⟩, ⟨(some 57), .load none (.t 56), none⟩]),
 ([⟨(some 62), .lit true 137 4 [(.t 61)], none⟩], [⟨(some 56), .faddr 3 (.t 9), none⟩, ⟨(some 57), .load none (.t 56), none⟩]),
 ([⟨(some 63), .append 137 4 56 (.t 57) (.t 62), none⟩], []),
 ([⟨(some 64), .faddr 3 (.t 9), none⟩], []),
 ([x3 1 64 63], [])])))
 (.reg [x6 65 52 1,
 mv 52 65])))))))
 (.seq
 (.reg [x4 66 4 9,
 x3 4 6 66])
 .ret)))))
theorem ent157 : EntOK Tryz.prog 157 ⟨67, v157, [.cell 6 (some 4)]⟩ := fun args σ K ha h =>
 enter (own := List.range 67) Tryz.func157 (by kernel_rfl) (by kernel_rfl) (by kernel_rfl) ha h
def v160 : ACode :=
(.seq
 (.reg [y6 4])
 (.seq
 (.reg [mv 8 0,
 y5 9 220 8,
 mv 7 9,
 z9 10 7 0,
 z9 11 7 1,
 oo 5 (.new 83 (.c (.agg [(.int .i64 0), (.str ⟨#[]⟩), (.int .i64 0), (.int .i64 0), (.int .i64 0), (.bool false)]))),
 x3 6 5 10,
 mv 6 11])
 (.seq
 (.reg [mv 12 6,
 mv 13 12,
 z2 14 13 0 5,
 z4 15 13 14,
 z6 16 13 1,
 og 17 13 true (.bin .int .eql (.t 15) (.t 16)),
 y7 18 13 17,
 mv 4 18])
 .ret)))
theorem ent160 : EntOK Tryz.prog 160 ⟨19, v160, [.slot 4]⟩ := fun args σ K ha h =>
 enter (own := List.range 19) Tryz.func160 (by kernel_rfl) (by kernel_rfl) (by kernel_rfl) ha h
def v166 : ACode :=
(.seq
 (.reg [y6 2])
 (.seq
 (.reg [mv 3 0,
 oo 4 (.call 160 [(.t 3), (.c (.int .i64 1))]),
 mv 5 4,
 z5 6 5 0,
 og 7 5 false (.call 160 [(.t 6), (.c (.int .i64 3))]),
 y4 8 5 7,
 mv 2 8])
 .ret))
theorem ent166 : EntOK Tryz.prog 166 ⟨9, v166, [.slot 2]⟩ := fun args σ K ha h =>
 enter (own := List.range 9) Tryz.func166 (by kernel_rfl) (by kernel_rfl) (by kernel_rfl) ha h
def v167 : ACode :=
(.seq
 (.reg [y6 4])
 (.seq
 (.seq
 (.reg [mv 7 0,
 y1 8 7,
 x5 9 0])
 (.block 0
 (.loop
 (.seq
 (.reg [x9 10 9 8])
 (.seq
 (.cond (.t 10)
 .skip
 (.exit 0))
 (.seq
 (.block 1
 (.seq
 (.reg [x8 11 6 7 9,
 x4 12 6 11,
 oo 6 (.new 187 (.c (.agg [(.int .i64 0), (.str ⟨#[]⟩), (.int .i64 0), .nils, (.int .i64 0), (.int .i64 0)]))),
 x3 6 6 12])
 (.seq
 (.reg [mv 13 1,
 x4 14 6 6,
 oo 15 (.callv (.t 13) [(.t 14)]),
 oo 16 (.not (.t 15))])
 (.cond (.t 16)
 (.seq
 (.reg [y6 4])
 .ret)
 .skip))))
 (.reg [x6 17 9 1,
 mv 9 17])))))))
 (.seq
 (.reg [oo 4 (.move (.c (.bool true)))])
 .ret)))
theorem ent167 : EntOK Tryz.prog 167 ⟨18, v167, [.slot 4]⟩ := fun args σ K ha h =>
 enter (own := List.range 18) Tryz.func167 (by kernel_rfl) (by kernel_rfl) (by kernel_rfl) ha h
def v168 : ACode :=
(.seq
 (.reg [y8 1 187 0,
 y6 2])
 (.seq
 (.seq
 (.reg [x2 3 0 1,
 x1 4 3])
 (.block 0
 (.seq
 (.reg [x7 6 4 1,
 mv 5 6])
 (.cond (.t 5)
 (.seq
 (.reg [x2 7 1 1,
 x1 8 7,
 oo 9 (.bin .str .eql (.t 8) (.c (.str ⟨#[]⟩))),
 mv 10 9,
 z2 11 10 2 1,
 z4 12 10 11,
 og 13 10 true (.bin .int .eql (.t 12) (.c (.int .i64 0))),
 y7 14 10 13,
 mv 15 14,
 z2 16 15 3 1,
 z4 17 15 16,
 og 18 15 true (.len .slice (.t 17)),
 og 19 15 true (.bin .int .eql (.t 18) (.c (.int .i64 0))),
 y7 20 15 19,
 mv 2 20])
 .ret)
 (.seq
 (.reg [x7 22 4 2,
 mv 21 22])
 (.cond (.t 21)
 (.seq
 (.reg [x2 23 1 1,
 x1 24 23,
 oo 25 (.call 160 [(.t 24), (.c (.int .i64 1))]),
 mv 26 25,
 z2 27 26 2 1,
 z4 28 26 27,
 og 29 26 true (.bin .int .eql (.t 28) (.c (.int .i64 0))),
 y7 30 26 29,
 mv 31 30,
 z2 32 31 3 1,
 z4 33 31 32,
 og 34 31 true (.len .slice (.t 33)),
 og 35 31 true (.bin .int .eql (.t 34) (.c (.int .i64 0))),
 y7 36 31 35,
 mv 2 36])
 .ret)
 (.seq
 (.reg [x7 38 4 3,
 mv 37 38])
 (.cond (.t 37)
 (.seq
 (.reg [x2 39 1 1,
 x1 40 39,
 oo 41 (.bin .str .eql (.t 40) (.c (.str ⟨#[]⟩))),
 mv 42 41,
 z2 43 42 3 1,
 z4 44 42 43,
 og 45 42 true (.len .slice (.t 44)),
 og 46 42 true (.bin .int .eql (.t 45) (.c (.int .i64 0))),
 y7 47 42 46,
 mv 2 47])
 .ret)
 (.seq
 (.reg [x7 49 4 4,
 mv 48 49])
 (.cond (.t 48)
 (.seq
 (.reg [x2 50 1 1,
 x1 51 50,
 oo 52 (.call 160 [(.t 51), (.c (.int .i64 2))]),
 mv 53 52,
 z2 54 53 2 1,
 z4 55 53 54,
 og 56 53 true (.bin .int .eql (.t 55) (.c (.int .i64 0))),
 y7 57 53 56,
 mv 58 57,
 z2 59 58 3 1,
 z4 60 58 59,
 og 61 58 true (.call 167 [(.t 60), (.c (.fn (.func 168) [] []))]),
 y7 62 58 61,
 mv 2 62])
 .ret)
 .skip))))))))))
 (.seq
 (.reg [y6 2])
 .ret)))
theorem ent168 : EntOK Tryz.prog 168 ⟨63, v168, [.slot 2]⟩ := fun args σ K ha h =>
 enter (own := List.range 63) Tryz.func168 (by kernel_rfl) (by kernel_rfl) (by kernel_rfl) ha h
def v169 : ACode :=
(.seq
 (.reg [y6 2])
 (.seq
 (.seq
 (.reg [mv 3 0,
 y1 4 3,
 x7 5 4 1,
 mv 6 5,
 z6 7 6 0,
 og 8 6 true (.iaddr 10 (.t 7) (.c (.int .i64 0))),
 z2 9 6 0 8,
 z4 10 6 9,
 og 11 6 true (.len .slice (.t 10)),
 og 12 6 true (.bin .int .eql (.t 11) (.c (.int .i64 0))),
 y7 13 6 12])
 (.cond (.t 13)
 (.seq
 (.reg [mv 14 0,
 oo 15 (.iaddr 10 (.t 14) (.c (.int .i64 0))),
 x2 16 1 15,
 x4 17 9 16,
 y5 18 221 17,
 mv 2 18])
 .ret)
 .skip))
 (.seq
 (.reg [mv 19 0,
 y1 20 19,
 oo 21 (.bin .int .gtr (.t 20) (.c (.int .i64 0))),
 mv 22 21,
 z6 23 22 0,
 og 24 22 true (.call 222 [(.t 23), (.c (.fn (.func 223) [] []))]),
 y7 25 22 24,
 mv 2 25])
 .ret)))
theorem ent169 : EntOK Tryz.prog 169 ⟨26, v169, [.slot 2]⟩ := fun args σ K ha h =>
 enter (own := List.range 26) Tryz.func169 (by kernel_rfl) (by kernel_rfl) (by kernel_rfl) ha h
def v170 : ACode :=
(.seq
 (.reg [x5 4 0,
 oo 5 (.move (.c .junk))])
 (.seq
 (.reg [mv 6 0,
 y5 7 224 6])
 (.seq
 (.reg [mv 8 0,
 mv 9 0,
 y3 10 9,
 x2 11 1 10,
 x1 12 11,
 mv 13 1,
 oo 14 (.appends 5 (.t 12) (.t 13)),
 y3 15 8,
 x2 16 1 15,
 x3 1 16 14])
 (.seq
 (.reg [mv 17 1,
 oo 18 (.len .str (.t 17)),
 mv 4 18,
 oo 5 (.move (.c .junk))])
 .ret))))
theorem ent170 : EntOK Tryz.prog 170 ⟨19, v170, [.slot 4, .slot 5]⟩ := fun args σ K ha h =>
 enter (own := List.range 19) Tryz.func170 (by kernel_rfl) (by kernel_rfl) (by kernel_rfl) ha h
def v173 : ACode :=
(.seq
 (.reg [y6 2])
 (.seq
 (.reg [mv 3 0,
 oo 4 (.call 160 [(.t 3), (.c (.int .i64 3))]),
 mv 2 4])
 .ret))
theorem ent173 : EntOK Tryz.prog 173 ⟨5, v173, [.slot 2]⟩ := fun args σ K ha h =>
 enter (own := List.range 5) Tryz.func173 (by kernel_rfl) (by kernel_rfl) (by kernel_rfl) ha h
def v176 : ACode :=
(.seq
 (.reg [y8 3 187 1])
 (.seq
 (.seq
 (.reg [x2 4 0 3,
 x1 5 4])
 (.block 0
 (.seq
 (.reg [x7 12 5 1,
 mv 11 12])
 (.cond (.t 11)
 (.reg [mv 13 0,
 oo 14 (.lit true 9 1 [(.c (.str ⟨#[95]⟩))]),
 y2 15 111 13 14])
 (.seq
 (.reg [x7 17 5 3,
 mv 16 17])
 (.cond (.t 16)
 (.reg [mv 18 0,
 x2 19 2 3,
 x1 20 19,
 y2 21 225 18 20])
 (.reg [mv 6 0,
 x2 7 1 3,
 x1 8 7,
 z8 9 9 1 8,
 y2 10 111 6 9])))))))
 (.reg [mv 22 0,
 x2 23 3 3,
 x1 24 23,
 y2 25 117 22 24])))
theorem ent176 : EntOK Tryz.prog 176 ⟨26, v176, []⟩ := fun args σ K ha h =>
 enter (own := List.range 26) Tryz.func176 (by kernel_rfl) (by kernel_rfl) (by kernel_rfl) ha h
def v177 : ACode :=
(.seq
 (.reg [y8 2 143 0,
 y8 3 193 1])
 (.seq
 (.reg [x2 6 0 3,
 x1 7 6])
 (.block 0
 (.seq
 (.reg [x7 12 7 4,
 mv 11 12])
 (.cond (.t 11)
 (.seq
 (.seq
 (.reg [x4 13 9 3,
 y5 14 226 13])
 (.cond (.t 14)
 (.seq
 (.reg [x1 15 2,
 x2 16 4 3,
 x1 17 16,
 oo 18 (.iaddr 9 (.t 17) (.c (.int .i64 0))),
 x2 19 4 18,
 x1 20 19,
 oo 21 (.iaddr 9 (.t 20) (.c (.int .i64 1))),
 x4 22 9 21,
 y2 23 227 15 22])
 (.seq
 (.draw [] [([⟨(some 24), .load none (.t 2), none⟩], []),
 ([⟨(some 25), .faddr 4 (.t 3), none⟩], []),
 ([⟨(some 26), .load none (.t 25), none⟩], []),
 ([⟨(some 27), .iaddr 9 (.t 26) (.c (.int .i64 0)), none⟩], []),
 ([⟨(some 28), .faddr 4 (.t 27), none⟩], []),
 ([⟨(some 29), .load none (.t 28), none⟩], []),
 ([⟨(some 30), .iaddr 9 (.t 29) (.c (.int .i64 0)), none⟩], []),
 ([⟨(some 31), .faddr 1 (.t 30), none⟩], []),
 ([⟨(some 32), .load none (.t 31), none⟩], []),
 ([⟨(some 33), .lit true 9 1 [(.c (.str ⟨#[32]⟩)), (.t 32), (.c (.str ⟨#[32]⟩))], none⟩], [⟨(some 24), .load none (.t 2), none⟩]),
 ([⟨(some 34), .call 111 [(.t 24), (.t 33)], none⟩], [])])
 (.seq
 (.reg [x1 35 2,
 x2 36 4 3,
 x1 37 36,
 oo 38 (.iaddr 9 (.t 37) (.c (.int .i64 1))),
 x4 39 9 38,
 y2 40 227 35 39])
 .ret)))
 .skip))
 (.seq
 (.reg [x1 41 2,
 x2 42 4 3,
 x1 43 42,
 oo 44 (.iaddr 9 (.t 43) (.c (.int .i64 0))),
 x4 45 9 44,
 y2 46 228 41 45])
 (.seq
 (.reg [x1 47 2,
 oo 48 (.lit true 9 1 [(.c (.str ⟨#[32]⟩))]),
 y2 49 111 47 48])
 (.reg [x1 50 2,
 x2 51 4 3,
 x1 52 51,
 oo 53 (.iaddr 9 (.t 52) (.c (.int .i64 1))),
 x4 54 9 53,
 y2 55 229 50 54]))))
 (.seq
 (.reg [x7 57 7 5,
 mv 56 57])
 (.cond (.t 56)
 (.seq
 (.draw [] [([⟨(some 58), .load none (.t 2), none⟩], []),
 ([⟨(some 59), .faddr 3 (.t 3), none⟩], []),
 ([⟨(some 60), .load none (.t 59), none⟩], []),
 ([⟨(some 61), .call 230 [(.t 60), (.c (.str ⟨#[32]⟩))], none⟩], [⟨(some 58), .load none (.t 2), none⟩]),
 ([⟨(some 62), .lit true 9 1 [(.c (.str ⟨#[92]⟩)), (.t 61), (.c (.str ⟨#[32, 45, 62, 32]⟩))], none⟩], [⟨(some 58), .load none (.t 2), none⟩]),
 ([⟨(some 63), .call 111 [(.t 58), (.t 62)], none⟩], [])])
 (.reg [x1 64 2,
 x2 65 4 3,
 x1 66 65,
 oo 67 (.iaddr 9 (.t 66) (.c (.int .i64 0))),
 x4 68 9 67,
 y2 69 177 64 68]))
 (.seq
 (.reg [x7 71 7 6,
 mv 70 71])
 (.cond (.t 70)
 (.seq
 (.reg [x1 72 2,
 oo 73 (.lit true 9 1 [(.c (.str ⟨#[108, 101, 116, 32, 123, 32]⟩))]),
 y2 74 111 72 73])
 (.seq
 (.reg [x1 75 2,
 x2 76 6 3,
 x1 77 76,
 oo 78 (.call 73 [(.t 75), (.t 77), (.c (.str ⟨#[59, 32]⟩)), (.c (.str ⟨#[]⟩))])])
 (.seq
 (.reg [x1 79 2,
 oo 80 (.lit true 9 1 [(.c (.str ⟨#[32, 125, 32, 105, 110, 32]⟩))]),
 y2 81 111 79 80])
 (.reg [x1 82 2,
 x2 83 4 3,
 x1 84 83,
 oo 85 (.iaddr 9 (.t 84) (.c (.int .i64 0))),
 x4 86 9 85,
 y2 87 177 82 86]))))
 (.seq
 (.reg [x7 89 7 7,
 mv 88 89])
 (.cond (.t 88)
 (.seq
 (.reg [x1 90 2,
 oo 91 (.lit true 9 1 [(.c (.str ⟨#[99, 97, 115, 101, 32]⟩))]),
 y2 92 111 90 91])
 (.seq
 (.reg [x1 93 2,
 x2 94 4 3,
 x1 95 94,
 oo 96 (.iaddr 9 (.t 95) (.c (.int .i64 0))),
 x4 97 9 96,
 y2 98 177 93 97])
 (.seq
 (.reg [x1 99 2,
 oo 100 (.lit true 9 1 [(.c (.str ⟨#[32, 111, 102, 32, 123, 32]⟩))]),
 y2 101 111 99 100])
 (.seq
 (.reg [x1 102 2,
 x2 103 5 3,
 x1 104 103,
 y1 105 104,
 oo 106 (.mkfn (.func 231) [] [(.t 2), (.t 3)]),
 oo 107 (.call 112 [(.t 102), (.t 105), (.c (.str ⟨#[59, 32]⟩)), (.t 106)])])
 (.reg [x1 108 2,
 oo 109 (.lit true 9 1 [(.c (.str ⟨#[32, 125]⟩))]),
 y2 110 111 108 109])))))
 (.seq
 (.reg [x7 112 7 8,
 mv 111 112])
 (.cond (.t 111)
 (.seq
 (.reg [oo 113 (.lit true 9 1 [(.c (.str ⟨#[105, 102, 32]⟩)), (.c (.str ⟨#[32, 116, 104, 101, 110, 32]⟩)), (.c (.str ⟨#[32, 101, 108, 115, 101, 32]⟩))]),
 y1 114 113,
 x5 115 0])
 (.block 1
 (.loop
 (.seq
 (.reg [x9 116 115 114])
 (.seq
 (.cond (.t 116)
 .skip
 (.exit 1))
 (.seq
 (.block 2
 (.seq
 (.reg [mv 117 115,
 x8 118 1 113 115,
 x1 119 118,
 mv 4 117,
 mv 5 119])
 (.seq
 (.reg [x1 120 2,
 mv 121 5,
 z8 122 9 1 121,
 y2 123 111 120 122])
 (.reg [x1 124 2,
 x2 125 4 3,
 x1 126 125,
 mv 127 4,
 x8 128 9 126 127,
 x4 129 9 128,
 y2 130 177 124 129]))))
 (.reg [x6 131 115 1,
 mv 115 131])))))))
 (.reg [x1 8 2,
 x4 9 9 3,
 y2 10 229 8 9]))))))))))))))
theorem ent177 : EntOK Tryz.prog 177 ⟨132, v177, []⟩ := fun args σ K ha h =>
 enter (own := List.range 132) Tryz.func177 (by kernel_rfl) (by kernel_rfl) (by kernel_rfl) ha h
def v178 : ACode :=
(.seq
 (.reg [y8 4 47 1,
 y8 5 296 2])
 (.seq
 (.reg [x1 8 4,
 y1 9 8,
 x5 10 0])
 (.block 0
 (.loop
 (.seq
 (.reg [x9 11 10 9])
 (.seq
 (.cond (.t 11)
 .skip
 (.exit 0))
 (.seq
 (.block 1
 (.seq
 (.reg [mv 12 10,
 x8 13 4 8 10,
 x4 14 4 13,
 oo 6 (.new 3 (.c (.int .i64 0))),
 oo 7 (.new 120 (.c (.agg [(.str ⟨#[]⟩), .nils, (.int .i64 0), (.int .i64 0)]))),
 x3 1 6 12,
 x3 4 7 14])
 (.reg [mv 15 0,
 x4 16 4 7,
 oo 17 (.mkfn (.func 233) [] [(.t 5), (.t 4), (.t 6)]),
 oo 18 (.call 232 [(.t 15), (.t 16), (.t 17)])])))
 (.reg [x6 19 10 1,
 mv 10 19]))))))))
theorem ent178 : EntOK Tryz.prog 178 ⟨20, v178, []⟩ := fun args σ K ha h =>
 enter (own := List.range 20) Tryz.func178 (by kernel_rfl) (by kernel_rfl) (by kernel_rfl) ha h
def v179 : ACode :=
(.seq
 (.reg [oo 3 (.new 49 q1)])
 (.seq
 (.reg [x4 5 3 1,
 oo 4 (.new 49 q1),
 x3 3 4 5])
 (.seq
 (.reg [mv 6 0,
 x2 7 2 4,
 x3 1 7 6])
 (.seq
 (.reg [x4 8 3 4,
 x3 3 3 8])
 .ret))))
theorem ent179 : EntOK Tryz.prog 179 ⟨9, v179, [.cell 3 (some 3)]⟩ := fun args σ K ha h =>
 enter (own := List.range 9) Tryz.func179 (by kernel_rfl) (by kernel_rfl) (by kernel_rfl) ha h
def v180 : ACode :=
(.seq
 (.reg [y8 3 303 1])
 (.seq
 (.reg [mv 4 0,
 y3 5 4,
 x2 6 1 5,
 x1 7 6,
 x2 8 0 3,
 x1 9 8,
 x4 10 5 3,
 ⟨none, .mapset .str (.t 7) (.t 9) (.t 10), none⟩])
 (.draw [] [([⟨(some 11), .move (.t 0), none⟩], []),
 ([⟨(some 12), .move (.t 0), none⟩], []),
 ([⟨(some 13), .nilck (.t 12), none⟩], []),
 ([⟨(some 14), .faddr 2 (.t 13), none⟩], []),
 ([⟨(some 15), .load none (.t 14), none⟩], []),
 ([⟨(some 16), .faddr 0 (.t 3), none⟩], []),
 ([⟨(some 17), .load none (.t 16), none⟩], []),
 ([⟨(some 18), .lit true 9 1 [(.t 17)], none⟩], [⟨(some 14), .faddr 2 (.t 13), none⟩, ⟨(some 15), .load none (.t 14), none⟩]),
 ([⟨(some 19), .append 9 1 16 (.t 15) (.t 18), none⟩], []),
 ([⟨(some 20), .nilck (.t 11), none⟩], []),
 ([⟨(some 21), .faddr 2 (.t 20), none⟩], []),
 ([x3 1 21 19], [])])))
theorem ent180 : EntOK Tryz.prog 180 ⟨22, v180, []⟩ := fun args σ K ha h =>
 enter (own := List.range 22) Tryz.func180 (by kernel_rfl) (by kernel_rfl) (by kernel_rfl) ha h
def v183 : ACode :=
(.seq
 (.reg [y8 5 193 1,
 oo 8 (.new 28 (.c (.agg [(.int .i64 0), (.str ⟨#[]⟩), (.int .i64 0), (.int .i64 0), .nils, .nils, .nils, .nils, .nils])))])
 (.seq
 (.seq
 (.reg [x2 15 0 5,
 x1 16 15])
 (.block 0
 (.seq
 (.reg [x7 18 16 1,
 mv 17 18])
 (.cond (.t 17)
 (.seq
 (.reg [mv 19 0,
 x2 20 1 5,
 x1 21 20,
 mv 22 2,
 oo 23 (.call 235 [(.t 19), (.t 21), (.t 22)]),
 x3 9 8 23])
 .ret)
 (.seq
 (.reg [x7 25 16 2,
 mv 24 25])
 (.cond (.t 24)
 (.seq
 (.reg [mv 26 0,
 x2 27 1 5,
 x1 28 27,
 y2 29 236 26 28,
 x3 9 8 29])
 .ret)
 (.seq
 (.reg [x7 31 16 3,
 mv 30 31])
 (.cond (.t 30)
 (.seq
 (.reg [x2 32 2 5,
 x1 33 32,
 oo 34 (.build [(.int .i64 0), (.str ⟨#[]⟩), (.int .i64 0), (.int .i64 0), .nils, .nils, .nils, .nils, .nils] [(0, 1, (.c (.int .i64 3))), (2, 1, (.t 33))]),
 x3 9 8 34])
 .ret)
 (.seq
 (.reg [x7 36 16 4,
 mv 35 36])
 (.cond (.t 35)
 (.seq
 (.seq
 (.reg [x4 37 9 5,
 mv 38 2,
 y2 39 237 37 38,
 mv 9 39])
 (.seq
 (.reg [mv 40 9,
 oo 41 (.bin .int .gtr (.t 40) (.c (.int .i64 0)))])
 (.cond (.t 41)
 (.seq
 (.draw [10, 11] [([⟨(some 42), .move (.t 0), none⟩], []),
 ([⟨(some 43), .faddr 4 (.t 5), none⟩], []),
 ([⟨(some 44), .load none (.t 43), none⟩], []),
 ([⟨(some 45), .iaddr 9 (.t 44) (.c (.int .i64 0)), none⟩], []),
 ([⟨(some 46), .faddr 4 (.t 45), none⟩], []),
 ([⟨(some 47), .load none (.t 46), none⟩], []),
 ([⟨(some 48), .iaddr 9 (.t 47) (.c (.int .i64 1)), none⟩], []),
 ([⟨(some 49), .load (some 9) (.t 48), none⟩], []),
 ([⟨(some 50), .move (.t 2), none⟩], []),
 ([⟨(some 51), .move (.t 3), none⟩], []),
 ([⟨(some 53), .move (.t 0), none⟩], []),
 ([⟨(some 54), .faddr 4 (.t 5), none⟩], []),
 ([⟨(some 55), .load none (.t 54), none⟩], []),
 ([⟨(some 56), .iaddr 9 (.t 55) (.c (.int .i64 1)), none⟩], []),
 ([⟨(some 57), .load (some 9) (.t 56), none⟩], []),
 ([⟨(some 58), .move (.t 2), none⟩], []),
 ([⟨(some 59), .move (.t 3), none⟩], []),
 ([⟨(some 52), .call 183 [(.t 42), (.t 49), (.t 50), (.t 51)], none⟩], [⟨(some 54), .faddr 4 (.t 5), none⟩, ⟨(some 55), .load none (.t 54), none⟩, ⟨(some 56), .iaddr 9 (.t 55) (.c (.int .i64 1)), none⟩, ⟨(some 57), .load (some 9) (.t 56), none⟩]),
 ([⟨(some 60), .call 183 [(.t 53), (.t 57), (.t 58), (.t 59)], none⟩], []),
 ([⟨(some 10), .new 28 (.c (.agg [(.int .i64 0), (.str ⟨#[]⟩), (.int .i64 0), (.int .i64 0), .nils, .nils, .nils, .nils, .nils])), none⟩, x3 9 10 52], []),
 ([⟨(some 11), .new 28 (.c (.agg [(.int .i64 0), (.str ⟨#[]⟩), (.int .i64 0), (.int .i64 0), .nils, .nils, .nils, .nils, .nils])), none⟩, x3 9 11 60], [])])
 (.seq
 (.reg [mv 61 9,
 x4 62 9 10,
 x4 63 9 11,
 oo 64 (.lit true 28 9 [(.t 62), (.t 63)]),
 oo 65 (.build [(.int .i64 0), (.str ⟨#[]⟩), (.int .i64 0), (.int .i64 0), .nils, .nils, .nils, .nils, .nils] [(0, 1, (.c (.int .i64 9))), (2, 1, (.t 61)), (5, 1, (.t 64))]),
 x3 9 8 65])
 .ret))
 .skip)))
 (.seq
 (.draw [] [([⟨(some 66), .move (.t 0), none⟩], []),
 ([⟨(some 67), .faddr 4 (.t 5), none⟩], []),
 ([⟨(some 68), .load none (.t 67), none⟩], []),
 ([⟨(some 69), .iaddr 9 (.t 68) (.c (.int .i64 0)), none⟩], []),
 ([⟨(some 70), .load (some 9) (.t 69), none⟩], []),
 ([⟨(some 71), .move (.t 2), none⟩], []),
 ([⟨(some 72), .move (.t 3), none⟩], []),
 ([⟨(some 74), .move (.t 0), none⟩], []),
 ([⟨(some 75), .faddr 4 (.t 5), none⟩], []),
 ([⟨(some 76), .load none (.t 75), none⟩], []),
 ([⟨(some 77), .iaddr 9 (.t 76) (.c (.int .i64 1)), none⟩], []),
 ([⟨(some 78), .load (some 9) (.t 77), none⟩], []),
 ([⟨(some 79), .move (.t 2), none⟩], []),
 ([⟨(some 80), .move (.t 3), none⟩], []),
 ([⟨(some 73), .call 183 [(.t 66), (.t 70), (.t 71), (.t 72)], none⟩], [⟨(some 75), .faddr 4 (.t 5), none⟩, ⟨(some 76), .load none (.t 75), none⟩, ⟨(some 77), .iaddr 9 (.t 76) (.c (.int .i64 1)), none⟩, ⟨(some 78), .load (some 9) (.t 77), none⟩]),
 ([⟨(some 81), .call 183 [(.t 74), (.t 78), (.t 79), (.t 80)], none⟩], []),
 ([⟨(some 82), .lit true 28 9 [(.t 73), (.t 81)], none⟩], []),
 ([⟨(some 83), .build [(.int .i64 0), (.str ⟨#[]⟩), (.int .i64 0), (.int .i64 0), .nils, .nils, .nils, .nils, .nils] [(0, 1, (.c (.int .i64 5))), (5, 1, (.t 82))], none⟩], []),
 ([x3 9 8 83], [])])
 .ret))
 (.seq
 (.reg [x7 85 16 5,
 mv 84 85])
 (.cond (.t 84)
 (.seq
 (.reg [mv 86 3,
 x2 87 3 5,
 x1 88 87,
 y1 89 88,
 y2 90 126 86 89,
 mv 12 90])
 (.seq
 (.seq
 (.reg [x2 91 3 5,
 x1 92 91,
 y1 93 92,
 x5 94 0])
 (.block 1
 (.loop
 (.seq
 (.reg [x9 95 94 93])
 (.seq
 (.cond (.t 95)
 .skip
 (.exit 1))
 (.seq
 (.block 2
 (.seq
 (.reg [mv 96 94,
 x8 97 1 92 94,
 x1 98 97,
 mv 13 96,
 mv 14 98])
 (.seq
 (.reg [mv 99 14,
 oo 100 (.bin .str .neq (.t 99) (.c (.str ⟨#[95]⟩)))])
 (.cond (.t 100)
 (.reg [mv 101 2,
 mv 102 14,
 mv 103 12,
 mv 104 13,
 x8 105 1 103 104,
 x1 106 105,
 oo 107 (.call 238 [(.t 101), (.t 102), (.t 106)]),
 mv 2 107])
 .skip))))
 (.reg [x6 108 94 1,
 mv 94 108])))))))
 (.seq
 (.reg [mv 109 12,
 mv 110 0,
 x2 111 4 5,
 x1 112 111,
 oo 113 (.iaddr 9 (.t 112) (.c (.int .i64 0))),
 x4 114 9 113,
 mv 115 2,
 mv 116 3,
 mv 117 12,
 y1 118 117,
 oo 119 (.bin .int .add (.t 116) (.t 118)),
 oo 120 (.call 183 [(.t 110), (.t 114), (.t 115), (.t 119)]),
 z8 121 28 9 120,
 oo 122 (.build [(.int .i64 0), (.str ⟨#[]⟩), (.int .i64 0), (.int .i64 0), .nils, .nils, .nils, .nils, .nils] [(0, 1, (.c (.int .i64 6))), (4, 1, (.t 109)), (5, 1, (.t 121))]),
 x3 9 8 122])
 .ret)))
 (.seq
 (.reg [x7 124 16 6,
 mv 123 124])
 (.cond (.t 123)
 (.seq
 (.reg [mv 125 0,
 x4 126 9 5,
 mv 127 2,
 mv 128 3,
 oo 129 (.call 239 [(.t 125), (.t 126), (.t 127), (.t 128)]),
 x3 9 8 129])
 .ret)
 (.seq
 (.reg [x7 131 16 8,
 mv 130 131])
 (.cond (.t 130)
 (.seq
 (.draw [] [([⟨(some 132), .move (.t 0), none⟩], []),
 ([⟨(some 133), .move (.t 0), none⟩], []),
 ([⟨(some 134), .faddr 4 (.t 5), none⟩], []),
 ([⟨(some 135), .load none (.t 134), none⟩], []),
 ([⟨(some 136), .iaddr 9 (.t 135) (.c (.int .i64 0)), none⟩], []),
 ([⟨(some 137), .load (some 9) (.t 136), none⟩], []),
 ([⟨(some 138), .move (.t 2), none⟩], []),
 ([⟨(some 139), .move (.t 3), none⟩], []),
 ([⟨(some 141), .move (.t 0), none⟩], []),
 ([⟨(some 142), .faddr 4 (.t 5), none⟩], []),
 ([⟨(some 143), .load none (.t 142), none⟩], []),
 ([⟨(some 144), .iaddr 9 (.t 143) (.c (.int .i64 1)), none⟩], []),
 ([⟨(some 145), .load (some 9) (.t 144), none⟩], []),
 ([⟨(some 146), .move (.t 2), none⟩], []),
 ([⟨(some 147), .move (.t 3), none⟩], []),
 ([⟨(some 149), .move (.t 0), none⟩], []),
 ([⟨(some 150), .faddr 4 (.t 5), none⟩], []),
 ([⟨(some 151), .load none (.t 150), none⟩], []),
 ([⟨(some 152), .iaddr 9 (.t 151) (.c (.int .i64 2)), none⟩], []),
 ([⟨(some 153), .load (some 9) (.t 152), none⟩], []),
 ([⟨(some 154), .move (.t 2), none⟩], []),
 ([⟨(some 155), .move (.t 3), none⟩], []),
 ([⟨(some 140), .call 183 [(.t 133), (.t 137), (.t 138), (.t 139)], none⟩], [⟨(some 142), .faddr 4 (.t 5), none⟩, ⟨(some 143), .load none (.t 142), none⟩, ⟨(some 144), .iaddr 9 (.t 143) (.c (.int .i64 1)), none⟩, ⟨(some 145), .load (some 9) (.t 144), none⟩, ⟨(some 150), .faddr 4 (.t 5), none⟩, ⟨(some 151), .load none (.t 150), none⟩, ⟨(some 152), .iaddr 9 (.t 151) (.c (.int .i64 2)), none⟩, ⟨(some 153), .load (some 9) (.t 152), none⟩]),
 ([⟨(some 148), .call 183 [(.t 141), (.t 145), (.t 146), (.t 147)], none⟩], [⟨(some 150), .faddr 4 (.t 5), none⟩, ⟨(some 151), .load none (.t 150), none⟩, ⟨(some 152), .iaddr 9 (.t 151) (.c (.int .i64 2)), none⟩, ⟨(some 153), .load (some 9) (.t 152), none⟩]),
 ([⟨(some 156), .call 183 [(.t 149), (.t 153), (.t 154), (.t 155)], none⟩], []),
 ([⟨(some 157), .call 184 [(.t 132), (.t 140), (.t 148), (.t 156)], none⟩], []),
 ([x3 9 8 157], [])])
 .ret)
 .skip))))))))))))))))
 (.seq
 (.reg [mv 158 0,
 x4 159 9 5,
 mv 160 2,
 mv 161 3,
 oo 162 (.call 240 [(.t 158), (.t 159), (.t 160), (.t 161)]),
 x3 9 8 162])
 .ret)))
theorem ent183 : EntOK Tryz.prog 183 ⟨163, v183, [.cell 8 (some 9)]⟩ := fun args σ K ha h =>
 enter (own := List.range 163) Tryz.func183 (by kernel_rfl) (by kernel_rfl) (by kernel_rfl) ha h
def v185 : ACode :=
(.seq
 (.reg [oo 2 (.move (.c (.str ⟨#[]⟩)))])
 (.seq
 (.reg [mv 3 0,
 y5 4 115 3,
 oo 5 (.bin .str .add (.c (.str ⟨#[35]⟩)) (.t 4)),
 mv 2 5])
 .ret))
theorem ent185 : EntOK Tryz.prog 185 ⟨6, v185, [.slot 2]⟩ := fun args σ K ha h =>
 enter (own := List.range 6) Tryz.func185 (by kernel_rfl) (by kernel_rfl) (by kernel_rfl) ha h
def v187 : ACode :=
(.seq
 (.reg [y9 4])
 (.seq
 (.reg [y9 5])
 (.seq
 (.seq
 (.reg [mv 9 0,
 y1 10 9,
 x5 11 0])
 (.block 0
 (.loop
 (.seq
 (.reg [x9 12 11 10])
 (.seq
 (.cond (.t 12)
 .skip
 (.exit 0))
 (.seq
 (.block 1
 (.seq
 (.reg [mv 13 11,
 x8 14 3 9 11,
 x4 15 3 14,
 oo 7 (.new 238 q1),
 mv 6 13,
 x3 3 7 15])
 (.seq
 (.seq
 (.draw [] [([⟨(some 16), .move (.t 6), none⟩], []),
 ([⟨(some 17), .bin .int .eql (.t 16) (.c (.int .i64 0)), none⟩], []),
 ([⟨(some 18), .move (.t 17), none⟩], []),
 ([⟨(some 19), .move (.t 1), some (18, false)⟩], []),
 ([⟨(some 20), .move (.t 0), some (18, false)⟩], []),
 ([⟨(some 21), .move (.t 6), some (18, false)⟩], []),
 ([⟨(some 22), .bin .int .sub (.t 21) (.c (.int .i64 1)), some (18, false)⟩], []),
 ([⟨(some 23), .iaddr 3 (.t 20) (.t 22), some (18, false)⟩], []),
 ([⟨(some 24), .load (some 3) (.t 23), some (18, false)⟩], []),
 ([⟨(some 26), .move (.t 1), some (18, false)⟩], []),
 ([⟨(some 27), .load (some 3) (.t 7), some (18, false)⟩], []),
 ([⟨(some 25), .callv (.t 19) [(.t 24)], some (18, false)⟩], [⟨(some 27), .load (some 3) (.t 7), some (18, false)⟩]),
 ([⟨(some 28), .callv (.t 26) [(.t 27)], some (18, false)⟩], []),
 ([⟨(some 29), .bin .int .neq (.t 25) (.t 28), some (18, false)⟩], []),
 ([⟨(some 30), .pick (.t 18) (.c (.bool true)) (.t 29), none⟩], [])])
 (.cond (.t 30)
 (.reg [mv 31 5,
 oo 32 (.lit true 236 1 [(.c .nils)]),
 z7 33 236 1 24 31 32,
 mv 5 33])
 .skip))
 (.seq
 (.reg [mv 34 5,
 y1 35 34,
 oo 36 (.bin .int .sub (.t 35) (.c (.int .i64 1))),
 mv 8 36])
 (.draw [] [([⟨(some 37), .move (.t 5), none⟩], []),
 ([⟨(some 38), .move (.t 8), none⟩], []),
 ([⟨(some 39), .move (.t 5), none⟩], []),
 ([⟨(some 40), .move (.t 8), none⟩], []),
 ([⟨(some 41), .iaddr 1 (.t 39) (.t 40), none⟩], []),
 ([⟨(some 42), .load none (.t 41), none⟩], []),
 ([⟨(some 43), .load (some 3) (.t 7), none⟩], []),
 ([⟨(some 44), .lit true 238 3 [(.t 43)], none⟩], [⟨(some 41), .iaddr 1 (.t 39) (.t 40), none⟩, ⟨(some 42), .load none (.t 41), none⟩]),
 ([⟨(some 45), .append 238 3 72 (.t 42) (.t 44), none⟩], []),
 ([⟨(some 46), .iaddr 1 (.t 37) (.t 38), none⟩], []),
 ([x3 1 46 45], [])])))))
 (.reg [x6 47 11 1,
 mv 11 47])))))))
 (.seq
 (.reg [mv 48 5,
 mv 4 48])
 .ret))))
theorem ent187 : EntOK Tryz.prog 187 ⟨49, v187, [.slot 4]⟩ := fun args σ K ha h =>
 enter (own := List.range 49) Tryz.func187 (by kernel_rfl) (by kernel_rfl) (by kernel_rfl) ha h
def v189 : ACode :=
(.seq
 (.reg [y8 1 187 0,
 x5 2 0])
 (.seq
 (.seq
 (.reg [x2 3 0 1,
 x1 4 3])
 (.block 0
 (.seq
 (.reg [x7 6 4 4,
 mv 5 6])
 (.cond (.t 5)
 (.seq
 (.reg [x5 2 1])
 .ret)
 (.seq
 (.reg [x7 8 4 3,
 mv 7 8])
 (.cond (.t 7)
 (.seq
 (.reg [x5 2 2])
 .ret)
 .skip))))))
 (.seq
 (.reg [x5 2 0])
 .ret)))
theorem ent189 : EntOK Tryz.prog 189 ⟨9, v189, [.slot 2]⟩ := fun args σ K ha h =>
 enter (own := List.range 9) Tryz.func189 (by kernel_rfl) (by kernel_rfl) (by kernel_rfl) ha h
def v190 : ACode :=
(.seq
 (.reg [y8 5 28 1,
 oo 8 (.new 28 (.c (.agg [(.int .i64 0), (.str ⟨#[]⟩), (.int .i64 0), (.int .i64 0), .nils, .nils, .nils, .nils, .nils])))])
 (.seq
 (.seq
 (.reg [x2 11 0 5,
 x1 12 11,
 x7 13 12 10,
 mv 14 13,
 z1 15 14 0 5,
 z3 16 14 15,
 og 17 14 false (.bin .int .eql (.t 16) (.c (.int .i64 1))),
 y4 18 14 17])
 (.cond (.t 18)
 (.seq
 (.reg [mv 19 3,
 x4 20 9 5,
 mv 21 2,
 oo 22 (.callv (.t 19) [(.t 20), (.t 21)]),
 x3 9 8 22])
 .ret)
 .skip))
 (.seq
 (.reg [mv 23 2,
 y5 24 185 23,
 mv 9 24])
 (.seq
 (.reg [mv 25 3,
 mv 26 9,
 y5 27 241 26,
 mv 28 2,
 x6 29 28 1,
 oo 30 (.callv (.t 25) [(.t 27), (.t 29)]),
 oo 10 (.new 28 (.c (.agg [(.int .i64 0), (.str ⟨#[]⟩), (.int .i64 0), (.int .i64 0), .nils, .nils, .nils, .nils, .nils]))),
 x3 9 10 30])
 (.seq
 (.seq
 (.reg [x4 31 9 10,
 mv 32 9,
 y2 33 242 31 32])
 (.block 0
 (.seq
 (.reg [x7 35 33 0,
 mv 34 35])
 (.cond (.t 34)
 (.seq
 (.reg [x4 36 9 10,
 x3 9 8 36])
 .ret)
 (.seq
 (.reg [x7 38 33 1,
 mv 37 38])
 (.cond (.t 37)
 (.seq
 (.reg [x4 39 9 10,
 mv 40 9,
 x4 41 9 5,
 oo 42 (.call 243 [(.t 39), (.t 40), (.t 41)]),
 x3 9 8 42])
 .ret)
 .skip))))))
 (.seq
 (.reg [mv 43 9,
 x4 44 9 5,
 oo 45 (.build [(.str ⟨#[]⟩), (.int .i64 0), (.str ⟨#[]⟩), (.int .i64 0), (.int .i64 0), .nils, .nils, .nils, .nils, .nils] [(0, 1, (.t 43)), (1, 9, (.t 44))]),
 z8 46 59 10 45,
 x4 47 9 10,
 z8 48 28 9 47,
 oo 49 (.build [(.int .i64 0), (.str ⟨#[]⟩), (.int .i64 0), (.int .i64 0), .nils, .nils, .nils, .nils, .nils] [(0, 1, (.c (.int .i64 7))), (7, 1, (.t 46)), (5, 1, (.t 48))]),
 x3 9 8 49])
 .ret))))))
theorem ent190 : EntOK Tryz.prog 190 ⟨50, v190, [.cell 8 (some 9)]⟩ := fun args σ K ha h =>
 enter (own := List.range 50) Tryz.func190 (by kernel_rfl) (by kernel_rfl) (by kernel_rfl) ha h
def v191 : ACode :=
(.seq
 (.reg [y8 6 28 0,
 oo 8 (.new 28 (.c (.agg [(.int .i64 0), (.str ⟨#[]⟩), (.int .i64 0), (.int .i64 0), .nils, .nils, .nils, .nils, .nils])))])
 (.seq
 (.reg [x1 9 2,
 x1 10 3,
 x1 11 4,
 x1 12 5,
 x8 13 1 11 12,
 x1 14 13,
 x4 15 9 6,
 mv 16 1,
 oo 17 (.call 192 [(.t 9), (.t 10), (.t 14), (.t 15), (.t 16)]),
 x3 9 8 17])
 .ret))
theorem ent191 : EntOK Tryz.prog 191 ⟨18, v191, [.cell 8 (some 9)]⟩ := fun args σ K ha h =>
 enter (own := List.range 18) Tryz.func191 (by kernel_rfl) (by kernel_rfl) (by kernel_rfl) ha h
def v192 : ACode :=
(.seq
 (.reg [y8 8 28 3,
 oo 10 (.new 28 (.c (.agg [(.int .i64 0), (.str ⟨#[]⟩), (.int .i64 0), (.int .i64 0), .nils, .nils, .nils, .nils, .nils])))])
 (.seq
 (.seq
 (.reg [mv 16 2,
 oo 17 (.iaddr 3 (.t 16) (.c (.int .i64 0))),
 x2 18 0 17,
 x1 19 18,
 oo 20 (.iaddr 6 (.t 19) (.c (.int .i64 0))),
 x4 21 6 20,
 y5 22 189 21])
 (.block 0
 (.seq
 (.reg [x7 24 22 1,
 mv 23 24])
 (.cond (.t 23)
 (.seq
 (.reg [mv 25 0,
 mv 26 1,
 mv 27 2,
 x4 28 9 8,
 mv 29 4,
 oo 30 (.call 244 [(.t 25), (.t 26), (.t 27), (.t 28), (.t 29)]),
 x3 9 10 30])
 .ret)
 (.seq
 (.reg [x7 32 22 2,
 mv 31 32])
 (.cond (.t 31)
 (.seq
 (.reg [mv 33 0,
 mv 34 1,
 mv 35 2,
 x4 36 9 8,
 mv 37 4,
 oo 38 (.call 245 [(.t 33), (.t 34), (.t 35), (.t 36), (.t 37)]),
 x3 9 10 38])
 .ret)
 .skip))))))
 (.seq
 (.reg [y9 11])
 (.seq
 (.seq
 (.reg [mv 39 2,
 y1 40 39,
 x5 41 0])
 (.block 1
 (.loop
 (.seq
 (.reg [x9 42 41 40])
 (.seq
 (.cond (.t 42)
 .skip
 (.exit 1))
 (.seq
 (.block 2
 (.seq
 (.reg [x8 43 3 39 41,
 x4 44 3 43,
 oo 13 (.new 238 q1),
 x3 3 13 44])
 (.seq
 (.reg [x2 45 2 13,
 x1 46 45,
 mv 14 46])
 (.seq
 (.seq
 (.reg [x2 47 0 13,
 x1 48 47,
 oo 49 (.iaddr 6 (.t 48) (.c (.int .i64 0))),
 x4 50 6 49,
 oo 15 (.new 187 (.c (.agg [(.int .i64 0), (.str ⟨#[]⟩), (.int .i64 0), .nils, (.int .i64 0), (.int .i64 0)]))),
 x3 6 15 50])
 (.seq
 (.reg [x2 51 0 15,
 x1 52 51,
 x7 53 52 2])
 (.cond (.t 53)
 (.reg [mv 54 14,
 x2 55 1 15,
 x1 56 55,
 mv 57 1,
 oo 58 (.iaddr 1 (.t 57) (.c (.int .i64 0))),
 x1 59 58,
 oo 60 (.call 238 [(.t 54), (.t 56), (.t 59)]),
 mv 14 60])
 .skip)))
 (.reg [mv 61 11,
 x2 62 0 13,
 x1 63 62,
 oo 64 (.cut .slice 6 (.t 63) (some (.c (.int .i64 1))) none),
 x2 65 1 13,
 x1 66 65,
 mv 67 14,
 oo 68 (.build [.nils, .nils, .nils] [(0, 1, (.t 64)), (1, 1, (.t 66)), (2, 1, (.t 67))]),
 z8 69 238 3 68,
 z7 70 238 3 72 61 69,
 mv 11 70])))))
 (.reg [x6 71 41 1,
 mv 41 71])))))))
 (.seq
 (.reg [mv 72 0,
 mv 73 1,
 oo 74 (.cut .slice 1 (.t 73) (some (.c (.int .i64 1))) none),
 mv 75 11,
 x4 76 9 8,
 mv 77 4,
 oo 78 (.call 127 [(.t 72), (.t 74), (.t 75), (.t 76), (.t 77)]),
 x3 9 10 78])
 .ret)))))
theorem ent192 : EntOK Tryz.prog 192 ⟨79, v192, [.cell 10 (some 9)]⟩ := fun args σ K ha h =>
 enter (own := List.range 79) Tryz.func192 (by kernel_rfl) (by kernel_rfl) (by kernel_rfl) ha h
def v193 : ACode :=
(.seq
 (.reg [y6 2])
 (.seq
 (.seq
 (.reg [mv 3 0])
 (.block 0
 (.seq
 (.seq
 (.reg [oo 5 (.bin .str .eql (.t 3) (.c (.str ⟨#[100, 97, 116, 97]⟩))),
 mv 4 5])
 (.cond (.t 4)
 .skip
 (.seq
 (.reg [oo 6 (.bin .str .eql (.t 3) (.c (.str ⟨#[105, 110, 102, 105, 120, 108]⟩))),
 mv 4 6])
 (.cond (.t 4)
 .skip
 (.seq
 (.reg [oo 7 (.bin .str .eql (.t 3) (.c (.str ⟨#[105, 110, 102, 105, 120, 114]⟩))),
 mv 4 7])
 (.cond (.t 4)
 .skip
 (.seq
 (.reg [oo 8 (.bin .str .eql (.t 3) (.c (.str ⟨#[105, 110, 102, 105, 120]⟩))),
 mv 4 8])
 (.cond (.t 4)
 .skip
 (.seq
 (.reg [oo 9 (.bin .str .eql (.t 3) (.c (.str ⟨#[108, 101, 116]⟩))),
 mv 4 9])
 (.cond (.t 4)
 .skip
 (.seq
 (.reg [oo 10 (.bin .str .eql (.t 3) (.c (.str ⟨#[105, 110]⟩))),
 mv 4 10])
 (.cond (.t 4)
 .skip
 (.seq
 (.reg [oo 11 (.bin .str .eql (.t 3) (.c (.str ⟨#[99, 97, 115, 101]⟩))),
 mv 4 11])
 (.cond (.t 4)
 .skip
 (.seq
 (.reg [oo 12 (.bin .str .eql (.t 3) (.c (.str ⟨#[111, 102]⟩))),
 mv 4 12])
 (.cond (.t 4)
 .skip
 (.seq
 (.reg [oo 13 (.bin .str .eql (.t 3) (.c (.str ⟨#[105, 102]⟩))),
 mv 4 13])
 (.cond (.t 4)
 .skip
 (.seq
 (.reg [oo 14 (.bin .str .eql (.t 3) (.c (.str ⟨#[116, 104, 101, 110]⟩))),
 mv 4 14])
 (.cond (.t 4)
 .skip
 (.reg [oo 15 (.bin .str .eql (.t 3) (.c (.str ⟨#[101, 108, 115, 101]⟩))),
 mv 4 15])))))))))))))))))))))
 (.cond (.t 4)
 (.seq
 (.reg [oo 2 (.move (.c (.bool true)))])
 .ret)
 .skip))))
 (.seq
 (.reg [y6 2])
 .ret)))
theorem ent193 : EntOK Tryz.prog 193 ⟨16, v193, [.slot 2]⟩ := fun args σ K ha h =>
 enter (own := List.range 16) Tryz.func193 (by kernel_rfl) (by kernel_rfl) (by kernel_rfl) ha h
def v194 : ACode :=
(.seq
 (.reg [x5 2 0,
 x5 3 0])
 (.scope
 (.seq
 (.reg [mv 10 0,
 mv 4 10])
 (.seq
 (.reg [mv 11 0,
 oo 12 (.len .str (.t 11)),
 oo 13 (.bin .int .gtr (.t 12) (.c (.int .i64 0))),
 mv 14 13,
 z6 15 14 0,
 og 16 14 true (.index (.t 15) (.c (.int .i64 0))),
 og 17 14 true (.bin .int .eql (.t 16) (.c (.int .u8 45))),
 y7 18 14 17,
 mv 5 18])
 (.seq
 (.seq
 (.reg [mv 19 5])
 (.cond (.t 19)
 (.reg [mv 20 0,
 oo 21 (.cut .str 1 (.t 20) (some (.c (.int .i64 1))) none),
 mv 4 21])
 .skip))
 (.seq
 (.seq
 (.reg [mv 22 4,
 oo 23 (.bin .str .eql (.t 22) (.c (.str ⟨#[]⟩))),
 mv 24 23,
 z5 25 24 4,
 og 26 24 false (.len .str (.t 25)),
 og 27 24 false (.bin .int .gtr (.t 26) (.c (.int .i64 19))),
 y4 28 24 27,
 mv 29 28,
 z5 30 29 4,
 og 31 29 false (.index (.t 30) (.c (.int .i64 0))),
 og 32 29 false (.bin .int .eql (.t 31) (.c (.int .u8 48))),
 z5 33 29 32,
 z6 34 33 0,
 og 35 33 true (.len .str (.t 34)),
 og 36 33 true (.bin .int .gtr (.t 35) (.c (.int .i64 1))),
 og 37 29 false (.pick (.t 33) (.t 36) (.c (.bool false))),
 y4 38 29 37])
 (.cond (.t 38)
 (.seq
 (.reg [x5 2 0,
 x5 3 11])
 .ret)
 .skip))
 (.seq
 (.reg [oo 6 (.move (.c (.int .u64 0)))])
 (.seq
 (.reg [oo 7 (.move (.c (.bool true)))])
 (.seq
 .skip
 (.seq
 (.seq
 (.reg [x5 8 0])
 (.block 0
 (.loop
 (.seq
 (.seq
 (.reg [mv 39 8,
 mv 40 4,
 oo 41 (.len .str (.t 40)),
 x9 42 39 41])
 (.cond (.t 42)
 .skip
 (.exit 0)))
 (.seq
 (.block 1
 (.seq
 (.reg [mv 45 4,
 mv 46 8,
 oo 47 (.index (.t 45) (.t 46)),
 mv 9 47])
 (.seq
 (.seq
 (.reg [mv 48 9,
 oo 49 (.bin .int .lss (.t 48) (.c (.int .u8 48))),
 mv 50 49,
 z5 51 50 9,
 og 52 50 false (.bin .int .gtr (.t 51) (.c (.int .u8 57))),
 y4 53 50 52])
 (.cond (.t 53)
 (.seq
 (.reg [y6 7])
 (.exit 0))
 .skip))
 (.reg [mv 54 6,
 oo 55 (.bin .int .mul (.t 54) (.c (.int .u64 10))),
 mv 56 9,
 oo 57 (.bin .int .sub (.t 56) (.c (.int .u8 48))),
 oo 58 (.conv .u64 (.t 57)),
 oo 59 (.bin .int .add (.t 55) (.t 58)),
 mv 6 59]))))
 (.reg [mv 43 8,
 x6 44 43 1,
 mv 8 44]))))))
 (.seq
 (.seq
 (.reg [mv 60 7,
 oo 61 (.not (.t 60)),
 mv 62 61,
 z5 63 62 6,
 og 64 62 false (.bin .int .gtr (.t 63) (.c (.int .u64 9223372036854775808))),
 y4 65 62 64,
 mv 66 65,
 z5 67 66 6,
 og 68 66 false (.bin .int .eql (.t 67) (.c (.int .u64 9223372036854775808))),
 z5 69 66 68,
 z6 70 69 5,
 og 71 69 true (.not (.t 70)),
 og 72 66 false (.pick (.t 69) (.t 71) (.c (.bool false))),
 y4 73 66 72])
 (.cond (.t 73)
 (.seq
 (.reg [x5 2 0,
 x5 3 11])
 .ret)
 .skip))
 (.seq
 (.seq
 (.reg [mv 74 5])
 (.cond (.t 74)
 (.reg [mv 75 6,
 oo 76 (.neg (.t 75)),
 mv 6 76])
 .skip))
 (.seq
 (.reg [mv 77 6,
 oo 78 (.conv .i64 (.t 77)),
 mv 2 78,
 x5 3 0])
 .ret)))))))))))))
theorem ent194 : EntOK Tryz.prog 194 ⟨79, v194, [.slot 2, .slot 3]⟩ := fun args σ K ha h =>
 enter (own := List.range 79) Tryz.func194 (by kernel_rfl) (by kernel_rfl) (by kernel_rfl) ha h
def v196 : ACode :=
(.seq
 (.reg [y8 1 77 0,
 oo 2 (.new 193 (.c (.agg [(.int .i64 0), (.str ⟨#[]⟩), (.int .i64 0), .nils, .nils, .nils, .nils, (.int .i64 0), (.int .i64 0)])))])
 (.seq
 (.reg [x1 11 1,
 y5 12 89 11,
 oo 13 (.field 3 (some 2) (.t 12)),
 oo 3 (.new 64 q2),
 x3 2 3 13])
 (.seq
 (.block 0
 (.seq
 (.reg [x1 15 1,
 oo 16 (.call 60 [(.t 15), (.c (.str ⟨#[92]⟩))]),
 mv 14 16])
 (.cond (.t 14)
 (.seq
 (.reg [x1 17 1,
 y5 18 246 17,
 x3 9 2 18])
 .ret)
 (.seq
 (.reg [x1 20 1,
 oo 21 (.call 60 [(.t 20), (.c (.str ⟨#[108, 101, 116]⟩))]),
 mv 19 21])
 (.cond (.t 19)
 (.seq
 (.reg [x1 22 1,
 y5 23 61 22])
 (.seq
 (.reg [x4 24 2 3,
 oo 25 (.build [(.int .i64 0), (.str ⟨#[]⟩), (.int .i64 0), .nils, .nils, .nils, .nils, (.int .i64 0), (.int .i64 0)] [(0, 1, (.c (.int .i64 6))), (7, 2, (.t 24))]),
 oo 4 (.new 193 (.c (.agg [(.int .i64 0), (.str ⟨#[]⟩), (.int .i64 0), .nils, .nils, .nils, .nils, (.int .i64 0), (.int .i64 0)]))),
 x3 9 4 25])
 (.seq
 (.seq
 (.reg [x1 26 1,
 oo 27 (.mkfn (.func 247) [] [(.t 1), (.t 4)]),
 y2 28 44 26 27,
 mv 5 28])
 (.seq
 (.reg [mv 29 5,
 x7 30 29 0])
 (.cond (.t 30)
 (.reg [x1 31 1,
 oo 32 (.call 62 [(.t 31), (.c (.int .i64 60))])])
 .skip)))
 (.seq
 (.reg [x1 33 1,
 oo 34 (.call 47 [(.t 33), (.c (.str ⟨#[125]⟩))])])
 (.seq
 (.reg [x1 35 1,
 oo 36 (.call 47 [(.t 35), (.c (.str ⟨#[105, 110]⟩))])])
 (.seq
 (.reg [x1 37 1,
 y5 38 146 37,
 z8 39 193 9 38,
 x2 40 4 4,
 x3 1 40 39])
 (.seq
 (.reg [x4 41 9 4,
 x3 9 2 41])
 .ret)))))))
 (.seq
 (.reg [x1 43 1,
 oo 44 (.call 60 [(.t 43), (.c (.str ⟨#[105, 102]⟩))]),
 mv 42 44])
 (.cond (.t 42)
 (.seq
 (.reg [x1 45 1,
 y5 46 61 45])
 (.seq
 (.reg [x1 47 1,
 y5 48 146 47,
 oo 6 (.new 193 (.c (.agg [(.int .i64 0), (.str ⟨#[]⟩), (.int .i64 0), .nils, .nils, .nils, .nils, (.int .i64 0), (.int .i64 0)]))),
 x3 9 6 48])
 (.seq
 (.reg [x1 49 1,
 oo 50 (.call 47 [(.t 49), (.c (.str ⟨#[116, 104, 101, 110]⟩))])])
 (.seq
 (.reg [x1 51 1,
 y5 52 146 51,
 oo 7 (.new 193 (.c (.agg [(.int .i64 0), (.str ⟨#[]⟩), (.int .i64 0), .nils, .nils, .nils, .nils, (.int .i64 0), (.int .i64 0)]))),
 x3 9 7 52])
 (.seq
 (.reg [x1 53 1,
 oo 54 (.call 47 [(.t 53), (.c (.str ⟨#[101, 108, 115, 101]⟩))])])
 (.seq
 (.draw [] [([⟨(some 55), .load (some 9) (.t 6), none⟩], []),
 ([⟨(some 56), .load (some 9) (.t 7), none⟩], []),
 ([⟨(some 57), .load none (.t 1), none⟩], []),
 ([⟨(some 60), .load (some 2) (.t 3), none⟩], []),
 ([⟨(some 58), .call 146 [(.t 57)], none⟩], [⟨(some 55), .load (some 9) (.t 6), none⟩, ⟨(some 56), .load (some 9) (.t 7), none⟩, ⟨(some 60), .load (some 2) (.t 3), none⟩]),
 ([⟨(some 59), .lit true 193 9 [(.t 55), (.t 56), (.t 58)], none⟩], [⟨(some 60), .load (some 2) (.t 3), none⟩]),
 ([⟨(some 61), .build [(.int .i64 0), (.str ⟨#[]⟩), (.int .i64 0), .nils, .nils, .nils, .nils, (.int .i64 0), (.int .i64 0)] [(0, 1, (.c (.int .i64 8))), (4, 1, (.t 59)), (7, 2, (.t 60))], none⟩], []),
 ([x3 9 2 61], [])])
 .ret))))))
 (.seq
 (.reg [x1 63 1,
 oo 64 (.call 60 [(.t 63), (.c (.str ⟨#[99, 97, 115, 101]⟩))]),
 mv 62 64])
 (.cond (.t 62)
 (.seq
 (.reg [x1 65 1,
 y5 66 61 65])
 (.seq
 (.draw [8] [([⟨(some 67), .load none (.t 1), none⟩], []),
 ([⟨(some 70), .load (some 2) (.t 3), none⟩], []),
 ([⟨(some 68), .call 146 [(.t 67)], none⟩], [⟨(some 70), .load (some 2) (.t 3), none⟩]),
 ([⟨(some 69), .lit true 193 9 [(.t 68)], none⟩], [⟨(some 70), .load (some 2) (.t 3), none⟩]),
 ([⟨(some 71), .build [(.int .i64 0), (.str ⟨#[]⟩), (.int .i64 0), .nils, .nils, .nils, .nils, (.int .i64 0), (.int .i64 0)] [(0, 1, (.c (.int .i64 7))), (4, 1, (.t 69)), (7, 2, (.t 70))], none⟩], []),
 ([⟨(some 8), .new 193 (.c (.agg [(.int .i64 0), (.str ⟨#[]⟩), (.int .i64 0), .nils, .nils, .nils, .nils, (.int .i64 0), (.int .i64 0)])), none⟩, x3 9 8 71], [])])
 (.seq
 (.reg [x1 72 1,
 oo 73 (.call 47 [(.t 72), (.c (.str ⟨#[111, 102]⟩))])])
 (.seq
 (.seq
 (.reg [x1 74 1,
 oo 75 (.mkfn (.func 248) [] [(.t 8), (.t 1)]),
 y2 76 44 74 75,
 mv 9 76])
 (.seq
 (.reg [mv 77 9,
 x7 78 77 0])
 (.cond (.t 78)
 (.reg [x1 79 1,
 oo 80 (.call 62 [(.t 79), (.c (.int .i64 60))])])
 .skip)))
 (.seq
 (.reg [x1 81 1,
 oo 82 (.call 47 [(.t 81), (.c (.str ⟨#[125]⟩))])])
 (.seq
 (.reg [x4 83 9 8,
 x3 9 2 83])
 .ret))))))
 .skip)))))))))
 (.seq
 (.reg [x1 84 1,
 y5 85 250 84,
 oo 10 (.new 193 (.c (.agg [(.int .i64 0), (.str ⟨#[]⟩), (.int .i64 0), .nils, .nils, .nils, .nils, (.int .i64 0), (.int .i64 0)]))),
 x3 9 10 85])
 (.seq
 (.block 1
 (.loop
 (.seq
 (.seq
 (.reg [x1 86 1,
 y5 87 251 86])
 (.cond (.t 87)
 .skip
 (.exit 1)))
 (.block 2
 (.draw [] [([⟨(some 88), .load (some 9) (.t 10), none⟩], []),
 ([⟨(some 89), .load none (.t 1), none⟩], []),
 ([⟨(some 92), .faddr 7 (.t 10), none⟩], []),
 ([⟨(some 93), .load (some 2) (.t 92), none⟩], []),
 ([⟨(some 90), .call 250 [(.t 89)], none⟩], [⟨(some 88), .load (some 9) (.t 10), none⟩, ⟨(some 92), .faddr 7 (.t 10), none⟩, ⟨(some 93), .load (some 2) (.t 92), none⟩]),
 ([⟨(some 91), .lit true 193 9 [(.t 88), (.t 90)], none⟩], [⟨(some 92), .faddr 7 (.t 10), none⟩, ⟨(some 93), .load (some 2) (.t 92), none⟩]),
 ([⟨(some 94), .build [(.int .i64 0), (.str ⟨#[]⟩), (.int .i64 0), .nils, .nils, .nils, .nils, (.int .i64 0), (.int .i64 0)] [(0, 1, (.c (.int .i64 4))), (4, 1, (.t 91)), (7, 2, (.t 93))], none⟩], []),
 ([x3 9 10 94], [])])))))
 (.seq
 (.reg [x4 95 9 10,
 x3 9 2 95])
 .ret))))))
theorem ent196 : EntOK Tryz.prog 196 ⟨96, v196, [.cell 2 (some 9)]⟩ := fun args σ K ha h =>
 enter (own := List.range 96) Tryz.func196 (by kernel_rfl) (by kernel_rfl) (by kernel_rfl) ha h
def v197 : ACode :=
(.seq
 (.reg [y8 3 193 1,
 y9 4])
 (.seq
 (.reg [y9 5])
 (.seq
 (.seq
 (.reg [x2 11 6 3,
 x1 12 11,
 y1 13 12,
 x5 14 0])
 (.block 0
 (.loop
 (.seq
 (.reg [x9 15 14 13])
 (.seq
 (.cond (.t 15)
 .skip
 (.exit 0))
 (.seq
 (.block 1
 (.seq
 (.reg [x8 16 4 12 14,
 x4 17 4 16,
 oo 7 (.new 120 (.c (.agg [(.str ⟨#[]⟩), .nils, (.int .i64 0), (.int .i64 0)]))),
 x3 4 7 17])
 (.reg [mv 18 5,
 mv 19 0,
 y3 20 19,
 x2 21 0 20,
 x1 22 21,
 x2 23 0 7,
 x1 24 23,
 y2 25 252 22 24,
 z8 26 116 5 25,
 z7 27 116 5 48 18 26,
 mv 5 27])))
 (.reg [x6 28 14 1,
 mv 14 28])))))))
 (.seq
 (.reg [mv 30 5,
 y5 31 253 30,
 mv 29 31,
 z9 32 29 0,
 z9 33 29 1,
 z9 34 29 2,
 mv 8 32,
 mv 9 33,
 mv 10 34])
 (.seq
 (.seq
 (.reg [mv 35 10,
 oo 36 (.bin .int .neq (.t 35) (.c (.int .i64 0))),
 mv 37 36,
 z6 38 37 0,
 og 39 37 true (.nilck (.t 38)),
 z2 40 37 1 39,
 z4 41 37 40,
 og 42 37 true (.not (.t 41)),
 y7 43 37 42])
 (.cond (.t 43)
 (.seq
 (.reg [mv 44 0,
 y3 45 44,
 x2 46 1 45,
 ⟨none, .store 1 (.t 46) (.c (.bool true)), none⟩])
 (.reg [mv 47 0,
 mv 48 10,
 x2 49 6 3,
 x1 50 49,
 mv 51 9,
 x8 52 4 50 51,
 x2 53 2 52,
 x4 54 2 53,
 oo 55 (.build [(.int .i64 0), (.int .i64 0), (.int .i64 0)] [(0, 1, (.t 48)), (1, 2, (.t 54))]),
 y3 56 47,
 x2 57 2 56,
 x3 3 57 55]))
 .skip))
 (.seq
 (.reg [mv 58 8,
 mv 4 58])
 .ret))))))
theorem ent197 : EntOK Tryz.prog 197 ⟨59, v197, [.slot 4]⟩ := fun args σ K ha h =>
 enter (own := List.range 59) Tryz.func197 (by kernel_rfl) (by kernel_rfl) (by kernel_rfl) ha h
def v198 : ACode :=
(.seq
 (.reg [oo 8 (.new 193 (.c (.agg [(.int .i64 0), (.str ⟨#[]⟩), (.int .i64 0), .nils, .nils, .nils, .nils, (.int .i64 0), (.int .i64 0)])))])
 (.seq
 (.seq
 (.reg [mv 13 0,
 mv 9 13])
 (.block 0
 (.loop
 (.seq
 (.seq
 (.reg [mv 14 9,
 mv 15 1,
 x9 16 14 15])
 (.cond (.t 16)
 .skip
 (.exit 0)))
 (.seq
 (.block 1
 (.seq
 (.reg [x1 19 2,
 mv 20 9,
 x8 21 2 19 20,
 x4 22 2 21,
 mv 23 0,
 mv 24 1,
 oo 25 (.build [(.int .i64 0), (.int .i64 0)] [(0, 1, (.t 23)), (1, 1, (.t 24))]),
 oo 26 (.bin (.row [.int, .int]) .eql (.t 22) (.t 25))])
 (.cond (.t 26)
 (.seq
 (.reg [x2 27 6 3,
 x1 28 27,
 mv 29 9,
 x8 30 4 28 29,
 x4 31 4 30,
 oo 10 (.new 120 (.c (.agg [(.str ⟨#[]⟩), .nils, (.int .i64 0), (.int .i64 0)]))),
 x3 4 10 31])
 (.seq
 (.reg [x2 32 0 10,
 x1 33 32,
 x2 34 2 10,
 x4 35 2 34,
 oo 36 (.build [(.int .i64 0), (.str ⟨#[]⟩), (.int .i64 0), .nils, .nils, .nils, .nils, (.int .i64 0), (.int .i64 0)] [(0, 1, (.c (.int .i64 1))), (1, 1, (.t 33)), (7, 2, (.t 35))]),
 oo 11 (.new 193 (.c (.agg [(.int .i64 0), (.str ⟨#[]⟩), (.int .i64 0), .nils, .nils, .nils, .nils, (.int .i64 0), (.int .i64 0)]))),
 x3 9 11 36])
 (.seq
 (.draw [12] [([⟨(some 37), .load (some 9) (.t 11), none⟩], []),
 ([⟨(some 38), .load none (.t 4), none⟩], []),
 ([⟨(some 39), .move (.t 0), none⟩], []),
 ([⟨(some 40), .move (.t 9), none⟩], []),
 ([⟨(some 43), .faddr 2 (.t 10), none⟩], []),
 ([⟨(some 44), .load (some 2) (.t 43), none⟩], []),
 ([⟨(some 41), .callv (.t 38) [(.t 39), (.t 40)], none⟩], [⟨(some 37), .load (some 9) (.t 11), none⟩, ⟨(some 43), .faddr 2 (.t 10), none⟩, ⟨(some 44), .load (some 2) (.t 43), none⟩]),
 ([⟨(some 42), .lit true 193 9 [(.t 37), (.t 41)], none⟩], [⟨(some 43), .faddr 2 (.t 10), none⟩, ⟨(some 44), .load (some 2) (.t 43), none⟩]),
 ([⟨(some 45), .build [(.int .i64 0), (.str ⟨#[]⟩), (.int .i64 0), .nils, .nils, .nils, .nils, (.int .i64 0), (.int .i64 0)] [(0, 1, (.c (.int .i64 4))), (4, 1, (.t 42)), (7, 2, (.t 44))], none⟩], []),
 ([⟨(some 12), .new 193 (.c (.agg [(.int .i64 0), (.str ⟨#[]⟩), (.int .i64 0), .nils, .nils, .nils, .nils, (.int .i64 0), (.int .i64 0)])), none⟩, x3 9 12 45], [])])
 (.seq
 (.draw [] [([⟨(some 46), .load (some 9) (.t 12), none⟩], []),
 ([⟨(some 47), .load none (.t 4), none⟩], []),
 ([⟨(some 48), .move (.t 9), none⟩], []),
 ([⟨(some 49), .bin .int .add (.t 48) (.c (.int .i64 1)), none⟩], []),
 ([⟨(some 50), .move (.t 1), none⟩], []),
 ([⟨(some 53), .faddr 2 (.t 10), none⟩], []),
 ([⟨(some 54), .load (some 2) (.t 53), none⟩], []),
 ([⟨(some 51), .callv (.t 47) [(.t 49), (.t 50)], none⟩], [⟨(some 46), .load (some 9) (.t 12), none⟩, ⟨(some 53), .faddr 2 (.t 10), none⟩, ⟨(some 54), .load (some 2) (.t 53), none⟩]),
 ([⟨(some 52), .lit true 193 9 [(.t 46), (.t 51)], none⟩], [⟨(some 53), .faddr 2 (.t 10), none⟩, ⟨(some 54), .load (some 2) (.t 53), none⟩]),
 ([⟨(some 55), .build [(.int .i64 0), (.str ⟨#[]⟩), (.int .i64 0), .nils, .nils, .nils, .nils, (.int .i64 0), (.int .i64 0)] [(0, 1, (.c (.int .i64 4))), (4, 1, (.t 52)), (7, 2, (.t 54))], none⟩], []),
 ([x3 9 8 55], [])])
 .ret))))
 .skip)))
 (.reg [mv 17 9,
 x6 18 17 1,
 mv 9 18]))))))
 (.seq
 (.reg [x1 56 5,
 mv 57 0,
 x8 58 9 56 57,
 x4 59 9 58,
 x3 9 8 59])
 .ret)))
theorem ent198 : EntOK Tryz.prog 198 ⟨60, v198, [.cell 8 (some 9)]⟩ := fun args σ K ha h =>
 enter (own := List.range 60) Tryz.func198 (by kernel_rfl) (by kernel_rfl) (by kernel_rfl) ha h
def v199 : ACode :=
(.seq
 (.reg [x5 2 0])
 (.seq
 (.seq
 (.reg [mv 4 0,
 oo 5 (.bin .str .eql (.t 4) (.c (.str ⟨#[]⟩)))])
 (.cond (.t 5)
 (.seq
 (.reg [x5 2 0])
 .ret)
 .skip))
 (.seq
 (.seq
 (.reg [x5 3 1])
 (.block 0
 (.loop
 (.seq
 (.seq
 (.reg [mv 6 3,
 oo 7 (.bin .int .leq (.t 6) (.c (.int .i64 11)))])
 (.cond (.t 7)
 .skip
 (.exit 0)))
 (.seq
 (.block 1
 (.seq
 (.reg [mv 10 3,
 y5 11 254 10,
 mv 12 0,
 oo 13 (.bin .str .eql (.t 11) (.t 12))])
 (.cond (.t 13)
 (.seq
 (.reg [mv 14 3,
 mv 2 14])
 .ret)
 .skip)))
 (.reg [mv 8 3,
 x6 9 8 1,
 mv 3 9]))))))
 (.seq
 (.reg [x5 2 0])
 .ret))))
theorem ent199 : EntOK Tryz.prog 199 ⟨15, v199, [.slot 2]⟩ := fun args σ K ha h =>
 enter (own := List.range 15) Tryz.func199 (by kernel_rfl) (by kernel_rfl) (by kernel_rfl) ha h
def v200 : ACode :=
(.seq
 (.reg [mv 7 0,
 y3 8 7,
 x2 9 1 8,
 x1 10 9,
 y1 11 10,
 mv 6 11])
 (.seq
 (.reg [mv 12 0,
 mv 13 0,
 y3 14 13,
 x2 15 1 14,
 x1 16 15,
 mv 17 1,
 z7 18 9 1 16 16 17,
 y3 19 12,
 x2 20 1 19,
 x3 1 20 18])
 (.seq
 (.reg [mv 21 2,
 oo 22 (.callv (.t 21) [])])
 (.reg [mv 23 0,
 mv 24 0,
 y3 25 24,
 x2 26 1 25,
 x1 27 26,
 mv 28 6,
 oo 29 (.cut .slice 1 (.t 27) none (some (.t 28))),
 y3 30 23,
 x2 31 1 30,
 x3 1 31 29]))))
theorem ent200 : EntOK Tryz.prog 200 ⟨32, v200, []⟩ := fun args σ K ha h =>
 enter (own := List.range 32) Tryz.func200 (by kernel_rfl) (by kernel_rfl) (by kernel_rfl) ha h
def v201 : ACode :=
(.seq
 (.seq
 (.reg [x1 5 0,
 y1 6 5,
 x5 7 0])
 (.block 0
 (.loop
 (.seq
 (.reg [x9 8 7 6])
 (.seq
 (.cond (.t 8)
 .skip
 (.exit 0))
 (.seq
 (.block 1
 (.seq
 (.reg [x8 9 4 5 7,
 x4 10 4 9,
 oo 4 (.new 120 (.c (.agg [(.str ⟨#[]⟩), .nils, (.int .i64 0), (.int .i64 0)]))),
 x3 4 4 10])
 (.reg [x1 11 1,
 x4 12 4 4,
 y2 13 202 11 12])))
 (.reg [x6 14 7 1,
 mv 7 14])))))))
 (.reg [x1 15 2,
 oo 16 (.callv (.t 15) [])]))
theorem ent201 : EntOK Tryz.prog 201 ⟨17, v201, []⟩ := fun args σ K ha h =>
 enter (own := List.range 17) Tryz.func201 (by kernel_rfl) (by kernel_rfl) (by kernel_rfl) ha h
def v202 : ACode :=
(.seq
 (.reg [y8 3 120 1])
 (.seq
 (.reg [x2 9 1 3,
 x1 10 9,
 oo 11 (.iaddr 2 (.t 10) (.c (.int .i64 0))),
 x2 12 0 11,
 x1 13 12,
 y1 14 13,
 mv 4 14])
 (.seq
 (.seq
 (.reg [mv 15 4,
 x7 16 15 0,
 mv 17 16,
 z2 18 17 1 3,
 z4 19 17 18,
 og 20 17 true (.len .slice (.t 19)),
 og 21 17 true (.bin .int .gtr (.t 20) (.c (.int .i64 1))),
 y7 22 17 21])
 (.cond (.t 22)
 (.reg [mv 23 0,
 x2 24 2 3,
 x4 25 2 24,
 oo 26 (.call 149 [(.t 23), (.c (.int .i64 80)), (.t 25)])])
 .skip))
 (.seq
 (.seq
 (.reg [x2 27 1 3,
 x1 28 27,
 y1 29 28,
 x5 30 0])
 (.block 0
 (.loop
 (.seq
 (.reg [x9 31 30 29])
 (.seq
 (.cond (.t 31)
 .skip
 (.exit 0))
 (.seq
 (.block 1
 (.seq
 (.reg [x8 32 2 28 30,
 x4 33 2 32,
 oo 6 (.new 124 q3),
 x3 2 6 33])
 (.seq
 (.reg [x2 34 0 6,
 x1 35 34,
 y1 36 35,
 mv 37 4,
 oo 38 (.bin .int .neq (.t 36) (.t 37))])
 (.cond (.t 38)
 (.reg [mv 39 0,
 x2 40 2 3,
 x4 41 2 40,
 oo 42 (.call 149 [(.t 39), (.c (.int .i64 82)), (.t 41)])])
 .skip))))
 (.reg [x6 43 30 1,
 mv 30 43])))))))
 (.seq
 (.reg [x2 44 1 3,
 x1 45 44,
 y1 46 45,
 x5 47 0])
 (.block 2
 (.loop
 (.seq
 (.reg [x9 48 47 46])
 (.seq
 (.cond (.t 48)
 .skip
 (.exit 2))
 (.seq
 (.block 3
 (.seq
 (.reg [x8 49 2 45 47,
 x4 50 2 49,
 oo 8 (.new 124 q3),
 x3 2 8 50])
 (.reg [mv 51 0,
 x2 52 0 8,
 x1 53 52,
 x2 54 1 8,
 x1 55 54,
 oo 56 (.call 255 [(.t 51), (.t 53), (.t 55)])])))
 (.reg [x6 57 47 1,
 mv 47 57])))))))))))
theorem ent202 : EntOK Tryz.prog 202 ⟨58, v202, []⟩ := fun args σ K ha h =>
 enter (own := List.range 58) Tryz.func202 (by kernel_rfl) (by kernel_rfl) (by kernel_rfl) ha h
def v203 : ACode :=
(.seq
 (.reg [y8 1 120 0,
 y9 2])
 (.seq
 (.reg [oo 5 (.build [.nils, .nils] []),
 y8 6 371 5,
 mv 3 6])
 (.seq
 (.seq
 (.reg [x4 7 4 1,
 z8 8 120 4 7,
 mv 4 8])
 (.seq
 (.reg [mv 9 4,
 oo 10 (.build [.nils, .nils, .nils] [(2, 1, (.t 9))]),
 y5 11 70 10])
 (.cond (.t 11)
 (.reg [mv 12 3,
 mv 13 4,
 y2 14 256 12 13])
 .skip)))
 (.seq
 (.reg [mv 15 3,
 y3 16 15,
 x2 17 1 16,
 x1 18 17,
 mv 2 18])
 .ret))))
theorem ent203 : EntOK Tryz.prog 203 ⟨19, v203, [.slot 2]⟩ := fun args σ K ha h =>
 enter (own := List.range 19) Tryz.func203 (by kernel_rfl) (by kernel_rfl) (by kernel_rfl) ha h
def v204 : ACode :=
(.seq
 (.reg [x5 4 0])
 (.seq
 (.seq
 (.reg [mv 6 0,
 y1 7 6,
 x5 8 0])
 (.block 0
 (.loop
 (.seq
 (.reg [x9 9 8 7])
 (.seq
 (.cond (.t 9)
 .skip
 (.exit 0))
 (.seq
 (.block 1
 (.seq
 (.reg [mv 10 8,
 mv 5 10])
 (.seq
 (.reg [mv 11 1,
 mv 12 0,
 mv 13 5,
 x8 14 1 12 13,
 x1 15 14,
 oo 16 (.bin .str .eql (.t 11) (.t 15))])
 (.cond (.t 16)
 (.seq
 (.reg [mv 17 5,
 mv 4 17])
 .ret)
 .skip))))
 (.reg [x6 18 8 1,
 mv 8 18])))))))
 (.seq
 (.reg [oo 4 (.move (.c (.int .i64 (-1))))])
 .ret)))
theorem ent204 : EntOK Tryz.prog 204 ⟨19, v204, [.slot 4]⟩ := fun args σ K ha h =>
 enter (own := List.range 19) Tryz.func204 (by kernel_rfl) (by kernel_rfl) (by kernel_rfl) ha h
def v205 : ACode :=
(.seq
 (.reg [y9 2,
 x5 3 0])
 (.seq
 (.seq
 (.reg [mv 13 0,
 y5 14 257 13,
 mv 4 14])
 (.seq
 (.reg [mv 15 4,
 oo 16 (.bin .int .neq (.t 15) (.c (.int .i64 0)))])
 (.cond (.t 16)
 (.seq
 (.reg [mv 17 4,
 y9 2,
 mv 3 17])
 .ret)
 .skip)))
 (.seq
 (.reg [mv 19 0,
 y5 20 258 19,
 mv 18 20,
 z9 21 18 0,
 z9 22 18 1,
 mv 5 21,
 mv 6 22])
 (.seq
 (.reg [mv 23 6,
 oo 24 (.mkslice 131 1 24 [.nils] (.t 23) (.t 23)),
 mv 7 24])
 (.seq
 (.seq
 (.reg [mv 25 5,
 y1 26 25,
 x5 27 0])
 (.block 0
 (.loop
 (.seq
 (.reg [x9 28 27 26])
 (.seq
 (.cond (.t 28)
 .skip
 (.exit 0))
 (.seq
 (.block 1
 (.seq
 (.reg [mv 29 27,
 x8 30 1 25 27,
 x1 31 30,
 mv 8 29,
 mv 9 31])
 (.reg [mv 32 7,
 mv 33 9,
 mv 34 7,
 mv 35 9,
 x8 36 1 34 35,
 x1 37 36,
 mv 38 8,
 z8 39 3 1 38,
 z7 40 3 1 8 37 39,
 x8 41 1 32 33,
 x3 1 41 40])))
 (.reg [x6 42 27 1,
 mv 27 42])))))))
 (.seq
 (.reg [mv 43 6,
 oo 44 (.mkslice 4 1 1 [(.bool false)] (.t 43) (.t 43)),
 mv 10 44])
 (.seq
 (.reg [y9 11])
 (.seq
 (.seq
 (.reg [mv 45 6,
 x5 46 0])
 (.block 2
 (.loop
 (.seq
 (.reg [x9 47 46 45])
 (.seq
 (.cond (.t 47)
 .skip
 (.exit 2))
 (.seq
 (.block 3
 (.seq
 (.reg [mv 48 0,
 mv 49 5,
 mv 50 7,
 mv 51 10,
 oo 52 (.call 259 [(.t 48), (.t 49), (.t 50), (.t 51)]),
 mv 12 52])
 (.seq
 (.reg [mv 53 10,
 mv 54 12,
 x8 55 1 53 54,
 ⟨none, .store 1 (.t 55) (.c (.bool true)), none⟩])
 (.reg [mv 56 11,
 mv 57 7,
 mv 58 12,
 x8 59 1 57 58,
 x1 60 59,
 z8 61 131 1 60,
 z7 62 131 1 24 56 61,
 mv 11 62]))))
 (.reg [x6 63 46 1,
 mv 46 63])))))))
 (.seq
 (.reg [mv 64 11,
 mv 2 64,
 x5 3 0])
 .ret)))))))))
theorem ent205 : EntOK Tryz.prog 205 ⟨65, v205, [.slot 2, .slot 3]⟩ := fun args σ K ha h =>
 enter (own := List.range 65) Tryz.func205 (by kernel_rfl) (by kernel_rfl) (by kernel_rfl) ha h
def v206 : ACode :=
(.seq
 (.reg [y9 4])
 (.seq
 (.reg [y9 5])
 (.seq
 (.seq
 (.reg [mv 6 1,
 x5 7 0])
 (.block 0
 (.loop
 (.seq
 (.reg [x9 8 7 6])
 (.seq
 (.cond (.t 8)
 .skip
 (.exit 0))
 (.seq
 (.block 1
 (.reg [mv 9 5,
 mv 10 0,
 y3 11 10,
 x2 12 0 11,
 x1 13 12,
 y5 14 260 13,
 z8 15 137 4 14,
 z7 16 137 4 56 9 15,
 mv 5 16]))
 (.reg [x6 17 7 1,
 mv 7 17])))))))
 (.seq
 (.reg [mv 18 5,
 mv 4 18])
 .ret))))
theorem ent206 : EntOK Tryz.prog 206 ⟨19, v206, [.slot 4]⟩ := fun args σ K ha h =>
 enter (own := List.range 19) Tryz.func206 (by kernel_rfl) (by kernel_rfl) (by kernel_rfl) ha h
def v207 : ACode :=
(.seq
 (.reg [mv 7 0,
 y3 8 7,
 x2 9 2 8,
 x1 10 9,
 y1 11 10,
 mv 6 11])
 (.seq
 (.reg [mv 12 0,
 mv 13 0,
 y3 14 13,
 x2 15 2 14,
 x1 16 15,
 mv 17 1,
 z7 18 331 7 104 16 17,
 y3 19 12,
 x2 20 2 19,
 x3 1 20 18])
 (.seq
 (.reg [mv 21 2,
 oo 22 (.callv (.t 21) [])])
 (.reg [mv 23 0,
 mv 24 0,
 y3 25 24,
 x2 26 2 25,
 x1 27 26,
 mv 28 6,
 oo 29 (.cut .slice 7 (.t 27) none (some (.t 28))),
 y3 30 23,
 x2 31 2 30,
 x3 1 31 29]))))
theorem ent207 : EntOK Tryz.prog 207 ⟨32, v207, []⟩ := fun args σ K ha h =>
 enter (own := List.range 32) Tryz.func207 (by kernel_rfl) (by kernel_rfl) (by kernel_rfl) ha h
def v208 : ACode :=
(.seq
 (.reg [x1 6 0,
 y1 7 6,
 x5 8 0])
 (.block 0
 (.loop
 (.seq
 (.reg [x9 9 8 7])
 (.seq
 (.cond (.t 9)
 .skip
 (.exit 0))
 (.seq
 (.block 1
 (.seq
 (.reg [mv 10 8,
 x8 11 1 6 8,
 x1 12 11,
 mv 4 10,
 mv 5 12])
 (.draw [] [([⟨(some 13), .faddr 3 (.t 1), none⟩], []),
 ([⟨(some 14), .load none (.t 13), none⟩], []),
 ([⟨(some 15), .load none (.t 2), none⟩], []),
 ([⟨(some 16), .load none (.t 3), none⟩], []),
 ([⟨(some 17), .move (.t 5), none⟩], []),
 ([⟨(some 18), .iaddr 4 (.t 16) (.t 17), none⟩], []),
 ([⟨(some 19), .load (some 4) (.t 18), none⟩], []),
 ([⟨(some 20), .faddr 2 (.t 1), none⟩], []),
 ([⟨(some 21), .load none (.t 20), none⟩], []),
 ([⟨(some 22), .move (.t 4), none⟩], []),
 ([⟨(some 23), .iaddr 4 (.t 21) (.t 22), none⟩], []),
 ([⟨(some 24), .load (some 4) (.t 23), none⟩], []),
 ([⟨(some 25), .call 209 [(.t 15), (.t 19), (.t 24)], none⟩], [⟨(some 13), .faddr 3 (.t 1), none⟩, ⟨(some 14), .load none (.t 13), none⟩]),
 ([⟨(some 26), .lit true 272 1 [(.t 25)], none⟩], [⟨(some 13), .faddr 3 (.t 1), none⟩, ⟨(some 14), .load none (.t 13), none⟩]),
 ([⟨(some 27), .append 272 1 24 (.t 14) (.t 26), none⟩], []),
 ([⟨(some 28), .faddr 3 (.t 1), none⟩], []),
 ([x3 1 28 27], [])])))
 (.reg [x6 29 8 1,
 mv 8 29])))))))
theorem ent208 : EntOK Tryz.prog 208 ⟨30, v208, []⟩ := fun args σ K ha h =>
 enter (own := List.range 30) Tryz.func208 (by kernel_rfl) (by kernel_rfl) (by kernel_rfl) ha h
def v209 : ACode :=
(.seq
 (.reg [y8 3 198 0,
 y8 4 120 1,
 y8 5 137 2,
 oo 6 (.new 272 q5)])
 (.seq
 (.reg [oo 7 (.new 272 q5)])
 (.seq
 (.seq
 (.reg [x2 18 1 4,
 x1 19 18,
 y1 20 19,
 x5 21 0])
 (.block 0
 (.loop
 (.seq
 (.reg [x9 22 21 20])
 (.seq
 (.cond (.t 22)
 .skip
 (.exit 0))
 (.seq
 (.block 1
 (.seq
 (.reg [x8 23 2 19 21,
 x4 24 2 23,
 oo 9 (.new 124 q3),
 x3 2 9 24])
 (.seq
 (.reg [y9 10])
 (.seq
 (.reg [y9 11])
 (.seq
 (.reg [oo 12 (.new 276 q3)])
 (.seq
 (.seq
 (.reg [x2 25 0 9,
 x1 26 25,
 y1 27 26,
 x5 28 0])
 (.block 2
 (.loop
 (.seq
 (.reg [x9 29 28 27])
 (.seq
 (.cond (.t 29)
 .skip
 (.exit 2))
 (.seq
 (.block 3
 (.seq
 (.reg [x8 30 6 26 28,
 x4 31 6 30,
 oo 14 (.new 187 (.c (.agg [(.int .i64 0), (.str ⟨#[]⟩), (.int .i64 0), .nils, (.int .i64 0), (.int .i64 0)]))),
 x3 6 14 31])
 (.seq
 (.reg [x1 33 3,
 x4 34 6 14,
 y2 35 261 33 34,
 mv 32 35,
 z9 36 32 0,
 z9 37 32 1,
 oo 15 (.new 339 (.c (.agg [(.int .i64 0), (.int .i64 0), (.str ⟨#[]⟩), .nils, .nils, .nils]))),
 x3 6 15 36,
 mv 16 37])
 (.seq
 (.perm [([⟨(some 38), .faddr 0 (.t 12), none⟩], []),
 ([⟨(some 39), .load none (.t 38), none⟩], []),
 ([⟨(some 40), .load (some 6) (.t 15), none⟩], []),
 ([⟨(some 41), .len .slice (.t 39), none⟩], []),
 ([⟨(some 42), .lit true 339 6 [(.c (.agg [(.int .i64 0), (.int .i64 0), (.str ⟨#[]⟩), .nils, .nils, .nils]))], none⟩], [⟨(some 38), .faddr 0 (.t 12), none⟩, ⟨(some 39), .load none (.t 38), none⟩, ⟨(some 40), .load (some 6) (.t 15), none⟩]),
 ([⟨(some 43), .append 339 6 104 (.t 39) (.t 42), none⟩], []),
 ([⟨(some 44), .iaddr 6 (.t 43) (.t 41), none⟩], []),
 ([⟨(some 45), .faddr 0 (.t 12), none⟩], [])] [(7, [x3 6 44 40], [⟨(some 45), .faddr 0 (.t 12), none⟩]),
 (9, [x3 1 45 43], [⟨(some 44), .iaddr 6 (.t 43) (.t 41), none⟩])] [])
 (.seq
 (.reg [mv 46 11,
 x2 47 0 15,
 x4 48 4 47,
 z8 49 137 4 48,
 z7 50 137 4 56 46 49,
 mv 11 50])
 (.reg [mv 51 10,
 mv 52 16,
 z7 53 331 7 104 51 52,
 mv 10 53]))))))
 (.reg [x6 54 28 1,
 mv 28 54])))))))
 (.seq
 (.reg [x1 55 3,
 y3 56 55,
 x2 57 0 56,
 x1 58 57,
 y5 59 260 58,
 oo 17 (.new 137 (.c (.agg [(.int .i64 0), (.int .i64 0), (.str ⟨#[]⟩), .nils]))),
 x3 4 17 59])
 (.seq
 (.draw [] [([⟨(some 60), .load none (.t 3), none⟩], []),
 ([⟨(some 61), .load (some 4) (.t 5), none⟩], []),
 ([⟨(some 62), .move (.t 11), none⟩], []),
 ([⟨(some 63), .load (some 4) (.t 17), none⟩], []),
 ([⟨(some 65), .faddr 2 (.t 4), none⟩], []),
 ([⟨(some 66), .load (some 2) (.t 65), none⟩], []),
 ([⟨(some 64), .call 263 [(.t 62), (.t 63)], none⟩], [⟨(some 60), .load none (.t 3), none⟩, ⟨(some 61), .load (some 4) (.t 5), none⟩, ⟨(some 65), .faddr 2 (.t 4), none⟩, ⟨(some 66), .load (some 2) (.t 65), none⟩]),
 ([⟨(some 67), .call 262 [(.t 60), (.t 61), (.t 64), (.t 66)], none⟩], [])])
 (.seq
 (.reg [x1 68 3,
 mv 69 10,
 oo 70 (.mkfn (.func 264) [] [(.t 3), (.t 9), (.t 17), (.t 12)]),
 oo 71 (.call 207 [(.t 68), (.t 69), (.t 70)])])
 (.reg [x2 72 0 7,
 x1 73 72,
 x4 74 2 12,
 z8 75 276 2 74,
 z7 76 276 2 48 73 75,
 x2 77 0 7,
 x3 1 77 76]))))))))))
 (.reg [x6 78 21 1,
 mv 21 78])))))))
 (.seq
 (.reg [x4 79 1 7,
 x3 1 6 79])
 .ret))))
theorem ent209 : EntOK Tryz.prog 209 ⟨80, v209, [.cell 6 (some 1)]⟩ := fun args σ K ha h =>
 enter (own := List.range 80) Tryz.func209 (by kernel_rfl) (by kernel_rfl) (by kernel_rfl) ha h
def v210 : ACode :=
(.seq
 (.reg [y9 2])
 (.seq
 (.reg [y9 3])
 (.seq
 (.seq
 (.reg [mv 8 0,
 y3 9 8,
 x2 10 2 9,
 x1 11 10,
 y1 12 11,
 x5 13 0])
 (.block 0
 (.loop
 (.seq
 (.reg [x9 14 13 12])
 (.seq
 (.cond (.t 14)
 .skip
 (.exit 0))
 (.seq
 (.block 1
 (.seq
 (.reg [x8 15 7 11 13,
 x4 16 7 15,
 oo 5 (.new 331 (.c (.agg [(.str ⟨#[]⟩), .nils, (.int .i64 0), (.int .i64 0), (.str ⟨#[]⟩), .nils, (.bool false)]))),
 x3 7 5 16])
 (.seq
 (.seq
 (.reg [x2 17 6 5,
 x1 18 17])
 (.cond (.t 18)
 (.exit 1)
 .skip))
 (.seq
 (.reg [mv 20 0,
 y3 21 20,
 x2 22 0 21,
 x1 23 22,
 x2 24 1 5,
 x2 25 1 24,
 x4 26 4 25,
 y2 27 266 23 26,
 mv 19 27,
 z9 28 19 0,
 z9 29 19 1,
 mv 6 28,
 mv 7 29])
 (.reg [mv 30 3,
 mv 31 6,
 z7 32 3 1 8 30 31,
 mv 3 32])))))
 (.reg [x6 33 13 1,
 mv 13 33])))))))
 (.seq
 (.reg [mv 34 3,
 mv 2 34])
 .ret))))
theorem ent210 : EntOK Tryz.prog 210 ⟨35, v210, [.slot 2]⟩ := fun args σ K ha h =>
 enter (own := List.range 35) Tryz.func210 (by kernel_rfl) (by kernel_rfl) (by kernel_rfl) ha h
def v211 : ACode :=
(.seq
 (.reg [y8 3 137 1,
 oo 4 (.new 137 (.c (.agg [(.int .i64 0), (.int .i64 0), (.str ⟨#[]⟩), .nils]))),
 x5 5 0])
 (.seq
 (.block 0
 (.seq
 (.reg [mv 9 0,
 oo 10 (.nileq .ptr false (.t 9) (.c .nilp)),
 mv 11 10,
 z5 12 11 0,
 og 13 11 false (.nilck (.t 12)),
 z1 14 11 0 13,
 z3 15 11 14,
 og 16 11 false (.nileq .map false (.t 15) (.c .nilm)),
 y4 17 11 16,
 mv 8 17])
 (.cond (.t 8)
 (.seq
 (.reg [oo 18 (.build [(.int .i64 0), (.int .i64 0), (.str ⟨#[]⟩), .nils] []),
 x3 4 4 18,
 x5 5 3])
 .ret)
 (.seq
 (.reg [x4 20 4 3,
 y5 21 104 20,
 oo 22 (.not (.t 21)),
 mv 19 22])
 (.cond (.t 19)
 (.seq
 (.reg [oo 23 (.build [(.int .i64 0), (.int .i64 0), (.str ⟨#[]⟩), .nils] []),
 x3 4 4 23,
 x5 5 1])
 .ret)
 .skip)))))
 (.seq
 (.reg [mv 24 0,
 x4 25 4 3,
 y2 26 267 24 25])
 (.seq
 (.reg [mv 27 0,
 oo 28 (.build [.nilp, (.int .i64 0)] [(0, 1, (.t 27))]),
 y8 29 388 28,
 mv 6 29])
 (.seq
 (.reg [mv 30 6,
 x4 31 4 3,
 y2 32 268 30 31,
 oo 7 (.new 137 (.c (.agg [(.int .i64 0), (.int .i64 0), (.str ⟨#[]⟩), .nils]))),
 x3 4 7 32])
 (.seq
 (.seq
 (.reg [mv 33 6,
 y3 34 33,
 x2 35 1 34,
 x1 36 35,
 oo 37 (.bin .int .gtr (.t 36) (.c (.int .i64 256)))])
 (.cond (.t 37)
 (.seq
 (.reg [oo 38 (.build [(.int .i64 0), (.int .i64 0), (.str ⟨#[]⟩), .nils] []),
 x3 4 4 38,
 x5 5 102])
 .ret)
 .skip))
 (.seq
 (.reg [x4 39 4 7,
 x3 4 4 39,
 x5 5 0])
 .ret)))))))
theorem ent211 : EntOK Tryz.prog 211 ⟨40, v211, [.cell 4 (some 4), .slot 5]⟩ := fun args σ K ha h =>
 enter (own := List.range 40) Tryz.func211 (by kernel_rfl) (by kernel_rfl) (by kernel_rfl) ha h
def v215 : ACode :=
(.seq
 (.reg [y8 2 137 0,
 oo 4 (.new 141 (.c (.agg [.nils, (.int .i64 0), (.int .i64 0), (.str ⟨#[]⟩), .nils])))])
 (.seq
 (.reg [y9 5])
 (.seq
 (.seq
 (.reg [x4 8 4 2,
 y5 9 69 8,
 y1 10 9,
 x5 11 0])
 (.block 0
 (.loop
 (.seq
 (.reg [x9 12 11 10])
 (.seq
 (.cond (.t 12)
 .skip
 (.exit 0))
 (.seq
 (.block 1
 (.seq
 (.reg [x8 13 1 9 11,
 x1 14 13,
 mv 7 14])
 (.seq
 (.reg [mv 15 1,
 mv 16 7,
 y2 17 214 15 16])
 (.cond (.t 17)
 (.reg [mv 18 5,
 mv 19 7,
 z8 20 3 1 19,
 z7 21 3 1 8 18 20,
 mv 5 21])
 .skip))))
 (.reg [x6 22 11 1,
 mv 11 22])))))))
 (.seq
 (.reg [mv 23 5,
 x4 24 4 2,
 oo 25 (.build [.nils, (.int .i64 0), (.int .i64 0), (.str ⟨#[]⟩), .nils] [(0, 1, (.t 23)), (1, 4, (.t 24))]),
 x3 5 4 25])
 .ret))))
theorem ent215 : EntOK Tryz.prog 215 ⟨26, v215, [.cell 4 (some 5)]⟩ := fun args σ K ha h =>
 enter (own := List.range 26) Tryz.func215 (by kernel_rfl) (by kernel_rfl) (by kernel_rfl) ha h
def v216 : ACode :=
(.seq
 (.reg [y8 3 137 1,
 oo 4 (.new 137 (.c (.agg [(.int .i64 0), (.int .i64 0), (.str ⟨#[]⟩), .nils])))])
 (.seq
 (.seq
 (.reg [mv 7 0,
 y3 8 7,
 x2 9 3 8,
 x1 10 9])
 (.cond (.t 10)
 (.seq
 (.reg [x4 11 4 3,
 x3 4 4 11])
 .ret)
 .skip))
 (.seq
 (.draw [5] [([⟨(some 13), .move (.t 0), none⟩], []),
 ([⟨(some 14), .nilck (.t 13), none⟩], []),
 ([⟨(some 15), .faddr 0 (.t 14), none⟩], []),
 ([⟨(some 16), .load none (.t 15), none⟩], []),
 ([⟨(some 17), .load (some 4) (.t 3), none⟩], []),
 ([⟨(some 18), .call 211 [(.t 16), (.t 17)], none⟩], []),
 ([⟨(some 12), .move (.t 18), none⟩], []),
 ([⟨(some 19), .extract (.t 12) 0, none⟩], []),
 ([⟨(some 20), .extract (.t 12) 1, none⟩], []),
 ([⟨(some 5), .new 137 (.c (.agg [(.int .i64 0), (.int .i64 0), (.str ⟨#[]⟩), .nils])), none⟩, x3 4 5 19], []),
 ([⟨(some 6), .move (.t 20), none⟩], [])])
 (.seq
 (.seq
 (.reg [mv 21 6,
 oo 22 (.bin .int .neq (.t 21) (.c (.int .i64 0)))])
 (.cond (.t 22)
 (.reg [mv 23 0,
 oo 24 (.call 213 []),
 oo 25 (.call 212 [(.t 23), (.c (.int .i64 102)), (.t 24)])])
 .skip))
 (.seq
 (.reg [x4 26 4 5,
 x3 4 4 26])
 .ret)))))
theorem ent216 : EntOK Tryz.prog 216 ⟨27, v216, [.cell 4 (some 4)]⟩ := fun args σ K ha h =>
 enter (own := List.range 27) Tryz.func216 (by kernel_rfl) (by kernel_rfl) (by kernel_rfl) ha h
def v217 : ACode :=
(.seq
 (.reg [y9 4])
 (.seq
 (.reg [y9 5])
 (.seq
 (.seq
 (.reg [mv 8 1,
 y1 9 8,
 x5 10 0])
 (.block 0
 (.loop
 (.seq
 (.reg [x9 11 10 9])
 (.seq
 (.cond (.t 11)
 .skip
 (.exit 0))
 (.seq
 (.block 1
 (.seq
 (.reg [x8 12 8 8 10,
 x4 13 8 12,
 oo 7 (.new 343 (.c (.agg [(.int .i64 0), (.int .i64 0), (.str ⟨#[]⟩), .nils, .nils, .nils, .nils, .nils]))),
 x3 8 7 13])
 (.reg [mv 14 5,
 mv 15 0,
 x4 16 8 7,
 y2 17 218 15 16,
 z8 18 343 8 17,
 z7 19 343 8 152 14 18,
 mv 5 19])))
 (.reg [x6 20 10 1,
 mv 10 20])))))))
 (.seq
 (.reg [mv 21 5,
 mv 4 21])
 .ret))))
theorem ent217 : EntOK Tryz.prog 217 ⟨22, v217, [.slot 4]⟩ := fun args σ K ha h =>
 enter (own := List.range 22) Tryz.func217 (by kernel_rfl) (by kernel_rfl) (by kernel_rfl) ha h
def v218 : ACode :=
(.seq
 (.reg [y8 3 343 1,
 oo 4 (.new 343 (.c (.agg [(.int .i64 0), (.int .i64 0), (.str ⟨#[]⟩), .nils, .nils, .nils, .nils, .nils])))])
 (.seq
 (.seq
 (.reg [mv 8 0,
 y3 9 8,
 x2 10 3 9,
 x1 11 10])
 (.cond (.t 11)
 (.seq
 (.reg [x4 12 8 3,
 x3 8 4 12])
 .ret)
 .skip))
 (.seq
 (.draw [5] [([⟨(some 13), .move (.t 0), none⟩], []),
 ([⟨(some 14), .faddr 0 (.t 3), none⟩], []),
 ([⟨(some 15), .load (some 4) (.t 14), none⟩], []),
 ([⟨(some 17), .move (.t 0), none⟩], []),
 ([⟨(some 18), .faddr 4 (.t 3), none⟩], []),
 ([⟨(some 19), .load none (.t 18), none⟩], []),
 ([⟨(some 21), .move (.t 0), none⟩], []),
 ([⟨(some 22), .faddr 5 (.t 3), none⟩], []),
 ([⟨(some 23), .load none (.t 22), none⟩], []),
 ([⟨(some 25), .move (.t 0), none⟩], []),
 ([⟨(some 26), .faddr 7 (.t 3), none⟩], []),
 ([⟨(some 27), .load none (.t 26), none⟩], []),
 ([⟨(some 16), .call 216 [(.t 13), (.t 15)], none⟩], [⟨(some 18), .faddr 4 (.t 3), none⟩, ⟨(some 19), .load none (.t 18), none⟩, ⟨(some 22), .faddr 5 (.t 3), none⟩, ⟨(some 23), .load none (.t 22), none⟩, ⟨(some 26), .faddr 7 (.t 3), none⟩, ⟨(some 27), .load none (.t 26), none⟩]),
 ([⟨(some 20), .call 154 [(.t 17), (.t 19)], none⟩], [⟨(some 22), .faddr 5 (.t 3), none⟩, ⟨(some 23), .load none (.t 22), none⟩, ⟨(some 26), .faddr 7 (.t 3), none⟩, ⟨(some 27), .load none (.t 26), none⟩]),
 ([⟨(some 24), .call 217 [(.t 21), (.t 23)], none⟩], [⟨(some 26), .faddr 7 (.t 3), none⟩, ⟨(some 27), .load none (.t 26), none⟩]),
 ([⟨(some 28), .call 101 [(.t 25), (.t 27)], none⟩], []),
 ([⟨(some 29), .build [(.int .i64 0), (.int .i64 0), (.str ⟨#[]⟩), .nils, .nils, .nils, .nils, .nils] [(0, 4, (.t 16)), (4, 1, (.t 20)), (5, 1, (.t 24)), (7, 1, (.t 28))], none⟩], []),
 ([⟨(some 5), .new 343 (.c (.agg [(.int .i64 0), (.int .i64 0), (.str ⟨#[]⟩), .nils, .nils, .nils, .nils, .nils])), none⟩, x3 8 5 29], [])])
 (.seq
 (.seq
 (.reg [x2 30 6 3,
 x1 31 30,
 y1 32 31,
 x5 33 0])
 (.block 0
 (.loop
 (.seq
 (.reg [x9 34 33 32])
 (.seq
 (.cond (.t 34)
 .skip
 (.exit 0))
 (.seq
 (.block 1
 (.seq
 (.reg [x8 35 7 31 33,
 x4 36 7 35,
 oo 7 (.new 390 (.c (.agg [(.int .i64 0), (.int .i64 0), (.str ⟨#[]⟩), .nils, .nils, .nils, .nils]))),
 x3 7 7 36])
 (.draw [] [([⟨(some 37), .faddr 6 (.t 5), none⟩], []),
 ([⟨(some 38), .load none (.t 37), none⟩], []),
 ([⟨(some 39), .move (.t 0), none⟩], []),
 ([⟨(some 40), .faddr 0 (.t 7), none⟩], []),
 ([⟨(some 41), .load (some 6) (.t 40), none⟩], []),
 ([⟨(some 46), .move (.t 0), none⟩], []),
 ([⟨(some 47), .faddr 6 (.t 7), none⟩], []),
 ([⟨(some 48), .load none (.t 47), none⟩], []),
 ([⟨(some 42), .lit true 339 6 [(.t 41)], none⟩], [⟨(some 37), .faddr 6 (.t 5), none⟩, ⟨(some 38), .load none (.t 37), none⟩, ⟨(some 47), .faddr 6 (.t 7), none⟩, ⟨(some 48), .load none (.t 47), none⟩]),
 ([⟨(some 43), .call 155 [(.t 39), (.t 42)], none⟩], [⟨(some 37), .faddr 6 (.t 5), none⟩, ⟨(some 38), .load none (.t 37), none⟩, ⟨(some 47), .faddr 6 (.t 7), none⟩, ⟨(some 48), .load none (.t 47), none⟩]),
 ([⟨(some 44), .iaddr 6 (.t 43) (.c (.int .i64 0)), none⟩], []),
 ([⟨(some 45), .load (some 6) (.t 44), none⟩], []),
 ([⟨(some 49), .call 156 [(.t 46), (.t 48)], none⟩], [⟨(some 37), .faddr 6 (.t 5), none⟩, ⟨(some 38), .load none (.t 37), none⟩, ⟨(some 44), .iaddr 6 (.t 43) (.c (.int .i64 0)), none⟩, ⟨(some 45), .load (some 6) (.t 44), none⟩]),
 ([⟨(some 50), .build [(.int .i64 0), (.int .i64 0), (.str ⟨#[]⟩), .nils, .nils, .nils, .nils] [(0, 6, (.t 45)), (6, 1, (.t 49))], none⟩], []),
 ([⟨(some 51), .lit true 390 7 [(.t 50)], none⟩], [⟨(some 37), .faddr 6 (.t 5), none⟩, ⟨(some 38), .load none (.t 37), none⟩]),
 ([⟨(some 52), .append 390 7 128 (.t 38) (.t 51), none⟩], []),
 ([⟨(some 53), .faddr 6 (.t 5), none⟩], []),
 ([x3 1 53 52], [])])))
 (.reg [x6 54 33 1,
 mv 33 54])))))))
 (.seq
 (.reg [x4 55 8 5,
 x3 8 4 55])
 .ret)))))
theorem ent218 : EntOK Tryz.prog 218 ⟨56, v218, [.cell 4 (some 8)]⟩ := fun args σ K ha h =>
 enter (own := List.range 56) Tryz.func218 (by kernel_rfl) (by kernel_rfl) (by kernel_rfl) ha h
def v219 : ACode :=
(.seq
 (.reg [y8 1 137 0,
 oo 2 (.new 137 (.c (.agg [(.int .i64 0), (.int .i64 0), (.str ⟨#[]⟩), .nils])))])
 (.seq
 (.reg [y9 3])
 (.seq
 (.seq
 (.reg [x2 6 3 1,
 x1 7 6,
 y1 8 7,
 x5 9 0])
 (.block 0
 (.loop
 (.seq
 (.reg [x9 10 9 8])
 (.seq
 (.cond (.t 10)
 .skip
 (.exit 0))
 (.seq
 (.block 1
 (.seq
 (.reg [x8 11 4 7 9,
 x4 12 4 11,
 oo 5 (.new 137 (.c (.agg [(.int .i64 0), (.int .i64 0), (.str ⟨#[]⟩), .nils]))),
 x3 4 5 12])
 (.reg [mv 13 3,
 x4 14 4 5,
 y5 15 219 14,
 z8 16 137 4 15,
 z7 17 137 4 56 13 16,
 mv 3 17])))
 (.reg [x6 18 9 1,
 mv 9 18])))))))
 (.seq
 (.reg [mv 19 3,
 x2 20 3 1,
 x3 1 20 19])
 (.seq
 (.reg [x4 21 4 1,
 x3 4 2 21])
 .ret)))))
theorem ent219 : EntOK Tryz.prog 219 ⟨22, v219, [.cell 2 (some 4)]⟩ := fun args σ K ha h =>
 enter (own := List.range 22) Tryz.func219 (by kernel_rfl) (by kernel_rfl) (by kernel_rfl) ha h
def v220 : ACode :=
(.seq
 (.reg [oo 2 (.new 83 (.c (.agg [(.int .i64 0), (.str ⟨#[]⟩), (.int .i64 0), (.int .i64 0), (.int .i64 0), (.bool false)]))),
 y6 3])
 (.seq
 (.reg [mv 7 0,
 y5 8 58 7,
 mv 6 8,
 z9 9 6 0,
 z9 10 6 1,
 oo 5 (.new 66 q0),
 mv 4 9,
 x3 3 5 10])
 (.seq
 (.seq
 (.reg [x2 11 0 5,
 x1 12 11,
 oo 13 (.bin .int .neq (.t 12) (.c (.int .i64 0))),
 mv 14 13,
 z5 15 14 4,
 og 16 14 false (.len .slice (.t 15)),
 og 17 14 false (.bin .int .neq (.t 16) (.c (.int .i64 1))),
 y4 18 14 17,
 mv 19 18,
 z5 20 19 4,
 og 21 19 false (.iaddr 6 (.t 20) (.c (.int .i64 0))),
 z1 22 19 1 21,
 z3 23 19 22,
 z5 24 19 0,
 og 25 19 false (.bin .str .neq (.t 23) (.t 24)),
 y4 26 19 25])
 (.cond (.t 26)
 (.seq
 (.reg [oo 27 (.build [(.int .i64 0), (.str ⟨#[]⟩), (.int .i64 0), (.int .i64 0), (.int .i64 0), (.bool false)] []),
 x3 6 2 27,
 y6 3])
 .ret)
 .skip))
 (.seq
 (.reg [mv 28 4,
 oo 29 (.iaddr 6 (.t 28) (.c (.int .i64 0))),
 x4 30 6 29,
 x3 6 2 30,
 oo 3 (.move (.c (.bool true)))])
 .ret))))
theorem ent220 : EntOK Tryz.prog 220 ⟨31, v220, [.cell 2 (some 6), .slot 3]⟩ := fun args σ K ha h =>
 enter (own := List.range 31) Tryz.func220 (by kernel_rfl) (by kernel_rfl) (by kernel_rfl) ha h
def v221 : ACode :=
(.seq
 (.reg [y8 1 193 0,
 y6 2])
 (.seq
 (.reg [x2 5 3 1,
 x1 6 5,
 y1 7 6,
 x2 8 4 1,
 x1 9 8,
 y1 10 9,
 x2 11 5 1,
 x1 12 11,
 y1 13 12,
 x2 14 6 1,
 x1 15 14,
 y1 16 15,
 oo 17 (.build [(.int .i64 0), (.int .i64 0), (.int .i64 0), (.int .i64 0)] [(0, 1, (.t 7)), (1, 1, (.t 10)), (2, 1, (.t 13)), (3, 1, (.t 16))]),
 oo 3 (.new 392 (.c (.agg [(.int .i64 0), (.int .i64 0), (.int .i64 0), (.int .i64 0)]))),
 x3 4 3 17])
 (.seq
 (.reg [x2 18 0 1,
 x1 19 18,
 x7 20 19 1,
 mv 21 20,
 z1 22 21 0 1,
 z3 23 21 22,
 og 24 21 false (.bin .int .eql (.t 23) (.c (.int .i64 2))),
 y4 25 21 24,
 mv 4 25])
 (.seq
 (.seq
 (.reg [mv 26 4,
 oo 27 (.not (.t 26)),
 mv 28 27,
 z2 29 28 1 1,
 z4 30 28 29,
 og 31 28 true (.bin .str .neq (.t 30) (.c (.str ⟨#[]⟩))),
 y7 32 28 31,
 mv 33 32,
 z1 34 33 0 1,
 z3 35 33 34,
 og 36 33 false (.bin .int .neq (.t 35) (.c (.int .i64 3))),
 z5 37 33 36,
 z2 38 37 2 1,
 z4 39 37 38,
 og 40 37 true (.bin .int .neq (.t 39) (.c (.int .i64 0))),
 og 41 33 false (.pick (.t 37) (.t 40) (.c (.bool false))),
 y4 42 33 41,
 mv 43 42,
 z1 44 43 4 1,
 z3 45 43 44,
 og 46 43 false (.call 269 [(.t 45), (.c (.fn (.func 221) [] []))]),
 og 47 43 false (.not (.t 46)),
 y4 48 43 47])
 (.cond (.t 48)
 (.seq
 (.reg [y6 2])
 .ret)
 .skip))
 (.seq
 (.seq
 (.reg [x2 49 0 1,
 x1 50 49])
 (.block 0
 (.seq
 (.reg [x7 52 50 1,
 mv 51 52])
 (.cond (.t 51)
 (.seq
 (.reg [x4 53 4 3,
 oo 54 (.build [(.int .i64 0), (.int .i64 0), (.int .i64 0), (.int .i64 0)] []),
 oo 55 (.bin (.row [.int, .int, .int, .int]) .eql (.t 53) (.t 54)),
 mv 56 55,
 z2 57 56 1 1,
 z4 58 56 57,
 og 59 56 true (.call 166 [(.t 58)]),
 y7 60 56 59,
 mv 2 60])
 .ret)
 (.seq
 (.reg [x7 62 50 2,
 mv 61 62])
 (.cond (.t 61)
 (.seq
 (.reg [x4 63 4 3,
 oo 64 (.build [(.int .i64 0), (.int .i64 0), (.int .i64 0), (.int .i64 0)] []),
 oo 65 (.bin (.row [.int, .int, .int, .int]) .eql (.t 63) (.t 64)),
 mv 66 65,
 z2 67 66 1 1,
 z4 68 66 67,
 og 69 66 true (.call 160 [(.t 68), (.c (.int .i64 2))]),
 y7 70 66 69,
 mv 2 70])
 .ret)
 (.seq
 (.reg [x7 72 50 3,
 mv 71 72])
 (.cond (.t 71)
 (.seq
 (.reg [x4 73 4 3,
 oo 74 (.build [(.int .i64 0), (.int .i64 0), (.int .i64 0), (.int .i64 0)] []),
 oo 75 (.bin (.row [.int, .int, .int, .int]) .eql (.t 73) (.t 74)),
 mv 2 75])
 .ret)
 (.seq
 (.reg [x7 77 50 4,
 mv 76 77])
 (.cond (.t 76)
 (.seq
 (.reg [x4 78 4 3,
 oo 79 (.build [(.int .i64 0), (.int .i64 0), (.int .i64 0), (.int .i64 0)] [(1, 1, (.c (.int .i64 2)))]),
 oo 80 (.bin (.row [.int, .int, .int, .int]) .eql (.t 78) (.t 79)),
 mv 2 80])
 .ret)
 (.seq
 (.reg [x7 82 50 5,
 mv 81 82])
 (.cond (.t 81)
 (.seq
 (.reg [x2 83 0 3,
 x1 84 83,
 oo 85 (.bin .int .gtr (.t 84) (.c (.int .i64 0))),
 mv 86 85,
 og 87 86 true (.load (some 4) (.t 3)),
 z2 88 86 0 3,
 z4 89 86 88,
 og 90 86 true (.build [(.int .i64 0), (.int .i64 0), (.int .i64 0), (.int .i64 0)] [(0, 1, (.t 89)), (1, 1, (.c (.int .i64 1)))]),
 og 91 86 true (.bin (.row [.int, .int, .int, .int]) .eql (.t 87) (.t 90)),
 y7 92 86 91,
 mv 93 92,
 z2 94 93 3 1,
 z4 95 93 94,
 og 96 93 true (.call 161 [(.t 95), (.c (.fn (.func 270) [] []))]),
 y7 97 93 96,
 mv 2 97])
 .ret)
 (.seq
 (.reg [x7 99 50 6,
 mv 98 99])
 (.cond (.t 98)
 (.seq
 (.reg [x2 100 3 3,
 x1 101 100,
 oo 102 (.bin .int .gtr (.t 101) (.c (.int .i64 0))),
 mv 103 102,
 og 104 103 true (.load (some 4) (.t 3)),
 z2 105 103 3 3,
 z4 106 103 105,
 og 107 103 true (.build [(.int .i64 0), (.int .i64 0), (.int .i64 0), (.int .i64 0)] [(1, 1, (.c (.int .i64 1))), (3, 1, (.t 106))]),
 og 108 103 true (.bin (.row [.int, .int, .int, .int]) .eql (.t 104) (.t 107)),
 y7 109 103 108,
 mv 110 109,
 z2 111 110 6 1,
 z4 112 110 111,
 og 113 110 true (.call 110 [(.t 112)]),
 y7 114 110 113,
 mv 2 114])
 .ret)
 (.seq
 (.reg [x7 116 50 7,
 mv 115 116])
 (.cond (.t 115)
 (.seq
 (.reg [x2 117 2 3,
 x1 118 117,
 oo 119 (.bin .int .gtr (.t 118) (.c (.int .i64 0))),
 mv 120 119,
 og 121 120 true (.load (some 4) (.t 3)),
 z2 122 120 2 3,
 z4 123 120 122,
 og 124 120 true (.build [(.int .i64 0), (.int .i64 0), (.int .i64 0), (.int .i64 0)] [(1, 1, (.c (.int .i64 1))), (2, 1, (.t 123))]),
 og 125 120 true (.bin (.row [.int, .int, .int, .int]) .eql (.t 121) (.t 124)),
 y7 126 120 125,
 mv 127 126,
 z2 128 127 5 1,
 z4 129 127 128,
 og 130 127 true (.call 271 [(.t 129), (.c (.fn (.func 272) [] []))]),
 y7 131 127 130,
 mv 2 131])
 .ret)
 (.seq
 (.reg [x7 133 50 8,
 mv 132 133])
 (.cond (.t 132)
 (.seq
 (.reg [x4 134 4 3,
 oo 135 (.build [(.int .i64 0), (.int .i64 0), (.int .i64 0), (.int .i64 0)] [(1, 1, (.c (.int .i64 3)))]),
 oo 136 (.bin (.row [.int, .int, .int, .int]) .eql (.t 134) (.t 135)),
 mv 2 136])
 .ret)
 .skip))))))))))))))))))
 (.seq
 (.reg [y6 2])
 .ret))))))
theorem ent221 : EntOK Tryz.prog 221 ⟨137, v221, [.slot 2]⟩ := fun args σ K ha h =>
 enter (own := List.range 137) Tryz.func221 (by kernel_rfl) (by kernel_rfl) (by kernel_rfl) ha h
def v224 : ACode :=
(.seq
 (.reg [mv 2 0,
 y3 3 2,
 x2 4 0 3,
 x1 5 4,
 oo 6 (.nileq .ptr false (.t 5) (.c .nilp))])
 (.cond (.t 6)
 (.reg [mv 7 0,
 mv 8 0,
 oo 9 (.uptr (.t 8)),
 y5 10 273 9,
 oo 11 (.ufrom [(147, 2), (148, 2), (149, 2)] (.t 10)),
 y3 12 7,
 x2 13 0 12,
 x3 1 13 11])
 (.seq
 (.reg [mv 14 0,
 y3 15 14,
 x2 16 0 15,
 x1 17 16,
 mv 18 0,
 oo 19 (.ptreq true (.t 17) (.t 18))])
 (.cond (.t 19)
 .dead
 .skip))))
theorem ent224 : EntOK Tryz.prog 224 ⟨20, v224, []⟩ := fun args σ K ha h =>
 enter (own := List.range 20) Tryz.func224 (by kernel_rfl) (by kernel_rfl) (by kernel_rfl) ha h
def v225 : ACode :=
(.seq
 (.reg [y8 2 143 0,
 y8 3 2 1])
 (.seq
 (.seq
 (.reg [x1 4 3,
 oo 5 (.bin .int .lss (.t 4) (.c (.int .i64 0)))])
 (.cond (.t 5)
 (.seq
 (.reg [x1 6 2,
 oo 7 (.mkfn (.func 274) [] [(.t 2), (.t 3)]),
 y2 8 171 6 7])
 .ret)
 .skip))
 (.draw [] [([⟨(some 9), .load none (.t 2), none⟩], []),
 ([⟨(some 10), .load none (.t 3), none⟩], []),
 ([⟨(some 11), .call 115 [(.t 10)], none⟩], [⟨(some 9), .load none (.t 2), none⟩]),
 ([⟨(some 12), .lit true 9 1 [(.t 11)], none⟩], [⟨(some 9), .load none (.t 2), none⟩]),
 ([⟨(some 13), .call 111 [(.t 9), (.t 12)], none⟩], [])])))
theorem ent225 : EntOK Tryz.prog 225 ⟨14, v225, []⟩ := fun args σ K ha h =>
 enter (own := List.range 14) Tryz.func225 (by kernel_rfl) (by kernel_rfl) (by kernel_rfl) ha h
def v226 : ACode :=
(.seq
 (.reg [y8 1 193 0,
 y6 2])
 (.seq
 (.seq
 (.reg [x2 4 0 1,
 x1 5 4,
 oo 6 (.bin .int .neq (.t 5) (.c (.int .i64 4))),
 mv 7 6,
 z1 8 7 4 1,
 z3 9 7 8,
 og 10 7 false (.iaddr 9 (.t 9) (.c (.int .i64 0))),
 z1 11 7 0 10,
 z3 12 7 11,
 og 13 7 false (.bin .int .neq (.t 12) (.c (.int .i64 4))),
 y4 14 7 13])
 (.cond (.t 14)
 (.seq
 (.reg [y6 2])
 .ret)
 .skip))
 (.seq
 (.reg [x2 15 4 1,
 x1 16 15,
 oo 17 (.iaddr 9 (.t 16) (.c (.int .i64 0))),
 x2 18 4 17,
 x1 19 18,
 oo 20 (.iaddr 9 (.t 19) (.c (.int .i64 0))),
 x4 21 9 20,
 oo 3 (.new 193 (.c (.agg [(.int .i64 0), (.str ⟨#[]⟩), (.int .i64 0), .nils, .nils, .nils, .nils, (.int .i64 0), (.int .i64 0)]))),
 x3 9 3 21])
 (.seq
 (.reg [x2 22 0 3,
 x1 23 22,
 x7 24 23 1,
 mv 25 24,
 z2 26 25 1 3,
 z4 27 25 26,
 og 28 25 true (.call 173 [(.t 27)]),
 y7 29 25 28,
 mv 2 29])
 .ret))))
theorem ent226 : EntOK Tryz.prog 226 ⟨30, v226, [.slot 2]⟩ := fun args σ K ha h =>
 enter (own := List.range 30) Tryz.func226 (by kernel_rfl) (by kernel_rfl) (by kernel_rfl) ha h
def v227 : ACode :=
(.seq
 (.reg [y8 2 143 0,
 y8 3 193 1])
 (.seq
 (.seq
 (.reg [x2 4 0 3,
 x1 5 4,
 oo 6 (.bin .int .geq (.t 5) (.c (.int .i64 5))),
 mv 7 6,
 og 8 7 false (.load (some 9) (.t 3)),
 og 9 7 false (.call 226 [(.t 8)]),
 y4 10 7 9])
 (.cond (.t 10)
 (.seq
 (.reg [x1 11 2,
 oo 12 (.mkfn (.func 275) [] [(.t 2), (.t 3)]),
 y2 13 171 11 12])
 .ret)
 .skip))
 (.reg [x1 14 2,
 x4 15 9 3,
 y2 16 177 14 15])))
theorem ent227 : EntOK Tryz.prog 227 ⟨17, v227, []⟩ := fun args σ K ha h =>
 enter (own := List.range 17) Tryz.func227 (by kernel_rfl) (by kernel_rfl) (by kernel_rfl) ha h
def v229 : ACode :=
(.seq
 (.reg [y8 2 143 0,
 y8 3 193 1])
 (.seq
 (.reg [x2 4 0 3,
 x1 5 4])
 (.block 0
 (.seq
 (.reg [x7 10 5 1,
 mv 9 10])
 (.cond (.t 9)
 (.reg [x1 11 2,
 x2 12 1 3,
 x1 13 12,
 y2 14 116 11 13])
 (.seq
 (.reg [x7 16 5 2,
 mv 15 16])
 (.cond (.t 15)
 (.reg [x1 17 2,
 x2 18 1 3,
 x1 19 18,
 z8 20 9 1 19,
 y2 21 111 17 20])
 (.seq
 (.reg [x7 23 5 3,
 mv 22 23])
 (.cond (.t 22)
 (.reg [x1 24 2,
 x2 25 2 3,
 x1 26 25,
 y2 27 225 24 26])
 (.reg [x1 6 2,
 oo 7 (.mkfn (.func 276) [] [(.t 2), (.t 3)]),
 y2 8 171 6 7]))))))))))
theorem ent229 : EntOK Tryz.prog 229 ⟨28, v229, []⟩ := fun args σ K ha h =>
 enter (own := List.range 28) Tryz.func229 (by kernel_rfl) (by kernel_rfl) (by kernel_rfl) ha h
def v232 : ACode :=
(.seq
 (.reg [y8 4 120 1,
 y8 5 357 2])
 (.seq
 (.reg [mv 12 0,
 y3 13 12,
 x2 14 1 13,
 x1 15 14,
 x6 16 15 1,
 y3 17 12,
 x2 18 1 17,
 x3 1 18 16])
 (.seq
 (.reg [oo 19 (.mkfn (.func 278) [] [(.t 4), (.t 5)]),
 oo 6 (.new 398 (.c .nilf)),
 x3 1 6 19])
 (.seq
 (.reg [x2 20 1 4,
 x1 21 20,
 y1 22 21,
 mv 7 22])
 (.seq
 (.seq
 (.reg [x5 8 0])
 (.block 0
 (.loop
 (.seq
 (.seq
 (.reg [mv 23 8,
 x6 24 23 1,
 mv 25 7,
 x9 26 24 25])
 (.cond (.t 26)
 .skip
 (.exit 0)))
 (.seq
 (.block 1
 (.draw [] [([⟨(some 29), .move (.t 0), none⟩], []),
 ([⟨(some 30), .nilck (.t 29), none⟩], []),
 ([⟨(some 31), .faddr 2 (.t 30), none⟩], []),
 ([⟨(some 32), .load none (.t 31), none⟩], []),
 ([⟨(some 33), .load none (.t 6), none⟩], []),
 ([⟨(some 34), .faddr 1 (.t 4), none⟩], []),
 ([⟨(some 35), .load none (.t 34), none⟩], []),
 ([⟨(some 36), .move (.t 8), none⟩], []),
 ([⟨(some 37), .call 279 [(.t 35), (.t 36)], none⟩], [⟨(some 31), .faddr 2 (.t 30), none⟩, ⟨(some 32), .load none (.t 31), none⟩, ⟨(some 33), .load none (.t 6), none⟩]),
 ([⟨(some 38), .callv (.t 33) [(.t 37)], none⟩], [⟨(some 31), .faddr 2 (.t 30), none⟩, ⟨(some 32), .load none (.t 31), none⟩]),
 ([⟨(some 39), .callv (.t 32) [(.c (.int .i64 1)), (.t 38)], none⟩], [])]))
 (.reg [mv 27 8,
 x6 28 27 1,
 mv 8 28]))))))
 (.seq
 (.seq
 (.reg [x5 9 0])
 (.block 2
 (.loop
 (.seq
 (.seq
 (.reg [mv 40 9,
 mv 41 7,
 x9 42 40 41,
 mv 43 42,
 z6 44 43 7,
 og 45 43 true (.bin .int .gtr (.t 44) (.c (.int .i64 1))),
 y7 46 43 45])
 (.cond (.t 46)
 .skip
 (.exit 2)))
 (.seq
 (.block 3
 (.draw [] [([⟨(some 49), .move (.t 0), none⟩], []),
 ([⟨(some 50), .nilck (.t 49), none⟩], []),
 ([⟨(some 51), .faddr 2 (.t 50), none⟩], []),
 ([⟨(some 52), .load none (.t 51), none⟩], []),
 ([⟨(some 53), .load none (.t 6), none⟩], []),
 ([⟨(some 54), .faddr 1 (.t 4), none⟩], []),
 ([⟨(some 55), .load none (.t 54), none⟩], []),
 ([⟨(some 56), .move (.t 9), none⟩], []),
 ([⟨(some 57), .call 280 [(.t 55), (.t 56)], none⟩], [⟨(some 51), .faddr 2 (.t 50), none⟩, ⟨(some 52), .load none (.t 51), none⟩, ⟨(some 53), .load none (.t 6), none⟩]),
 ([⟨(some 58), .callv (.t 53) [(.t 57)], none⟩], [⟨(some 51), .faddr 2 (.t 50), none⟩, ⟨(some 52), .load none (.t 51), none⟩]),
 ([⟨(some 59), .callv (.t 52) [(.c (.int .i64 2)), (.t 58)], none⟩], [])]))
 (.reg [mv 47 9,
 x6 48 47 1,
 mv 9 48]))))))
 (.seq
 (.reg [x2 60 1 4,
 x1 61 60,
 y1 62 61,
 x5 63 0])
 (.block 4
 (.loop
 (.seq
 (.reg [x9 64 63 62])
 (.seq
 (.cond (.t 64)
 .skip
 (.exit 4))
 (.seq
 (.block 5
 (.seq
 (.reg [mv 65 63,
 x8 66 2 61 63,
 x4 67 2 66,
 oo 10 (.new 3 (.c (.int .i64 0))),
 oo 11 (.new 124 q3),
 x3 1 10 65,
 x3 2 11 67])
 (.seq
 (.reg [mv 68 0,
 x2 69 0 11,
 x1 70 69,
 oo 71 (.mkfn (.func 282) [] [(.t 6), (.t 4), (.t 10), (.t 11)]),
 oo 72 (.call 281 [(.t 68), (.t 70), (.t 71)])])
 (.reg [mv 73 0,
 x2 74 1 11,
 x1 75 74,
 oo 76 (.mkfn (.func 285) [] [(.t 6), (.t 4), (.t 10), (.t 11)]),
 oo 77 (.call 284 [(.t 73), (.t 75), (.t 76)])]))))
 (.reg [x6 78 63 1,
 mv 63 78])))))))))))))
theorem ent232 : EntOK Tryz.prog 232 ⟨79, v232, []⟩ := fun args σ K ha h =>
 enter (own := List.range 79) Tryz.func232 (by kernel_rfl) (by kernel_rfl) (by kernel_rfl) ha h
def v233 : ACode :=
(.seq
 (.reg [y8 4 120 0,
 oo 5 (.new 49 q1)])
 (.seq
 (.draw [] [([⟨(some 6), .load none (.t 1), none⟩], []),
 ([⟨(some 7), .load none (.t 2), none⟩], []),
 ([⟨(some 8), .load none (.t 3), none⟩], []),
 ([⟨(some 9), .load (some 4) (.t 4), none⟩], []),
 ([⟨(some 10), .call 234 [(.t 7), (.t 8), (.t 9)], none⟩], [⟨(some 6), .load none (.t 1), none⟩]),
 ([⟨(some 11), .callv (.t 6) [(.t 10)], none⟩], []),
 ([x3 3 5 11], [])])
 .ret))
theorem ent233 : EntOK Tryz.prog 233 ⟨12, v233, [.cell 5 (some 3)]⟩ := fun args σ K ha h =>
 enter (own := List.range 12) Tryz.func233 (by kernel_rfl) (by kernel_rfl) (by kernel_rfl) ha h
def v234 : ACode :=
(.seq
 (.reg [y8 5 120 2,
 y9 6])
 (.seq
 (.reg [mv 8 0,
 y5 9 286 8,
 mv 7 9])
 (.seq
 (.reg [mv 10 7,
 mv 11 1,
 x4 12 4 5,
 x8 13 4 10 11,
 x3 4 13 12])
 (.seq
 (.reg [mv 14 7,
 mv 6 14])
 .ret))))
theorem ent234 : EntOK Tryz.prog 234 ⟨15, v234, [.slot 6]⟩ := fun args σ K ha h =>
 enter (own := List.range 15) Tryz.func234 (by kernel_rfl) (by kernel_rfl) (by kernel_rfl) ha h
def v235 : ACode :=
(.seq
 (.reg [oo 6 (.new 28 (.c (.agg [(.int .i64 0), (.str ⟨#[]⟩), (.int .i64 0), (.int .i64 0), .nils, .nils, .nils, .nils, .nils])))])
 (.seq
 (.seq
 (.reg [mv 8 2,
 y1 9 8,
 oo 10 (.bin .int .sub (.t 9) (.c (.int .i64 1))),
 mv 7 10])
 (.block 0
 (.loop
 (.seq
 (.seq
 (.reg [mv 11 7,
 oo 12 (.bin .int .geq (.t 11) (.c (.int .i64 0)))])
 (.cond (.t 12)
 .skip
 (.exit 0)))
 (.seq
 (.block 1
 (.seq
 (.reg [mv 15 2,
 mv 16 7,
 x8 17 2 15 16,
 x2 18 0 17,
 x1 19 18,
 mv 20 1,
 oo 21 (.bin .str .eql (.t 19) (.t 20))])
 (.cond (.t 21)
 (.seq
 (.reg [mv 22 2,
 mv 23 7,
 x8 24 2 22 23,
 x2 25 1 24,
 x1 26 25,
 y5 27 241 26,
 x3 9 6 27])
 .ret)
 .skip)))
 (.reg [mv 13 7,
 oo 14 (.bin .int .sub (.t 13) (.c (.int .i64 1))),
 mv 7 14]))))))
 (.seq
 (.reg [mv 28 1,
 oo 29 (.build [(.int .i64 0), (.str ⟨#[]⟩), (.int .i64 0), (.int .i64 0), .nils, .nils, .nils, .nils, .nils] [(0, 1, (.c (.int .i64 2))), (1, 1, (.t 28))]),
 x3 9 6 29])
 .ret)))
theorem ent235 : EntOK Tryz.prog 235 ⟨30, v235, [.cell 6 (some 9)]⟩ := fun args σ K ha h =>
 enter (own := List.range 30) Tryz.func235 (by kernel_rfl) (by kernel_rfl) (by kernel_rfl) ha h
def v237 : ACode :=
(.seq
 (.reg [y8 2 193 0,
 x5 4 0])
 (.seq
 (.seq
 (.reg [x2 8 0 2,
 x1 9 8,
 oo 10 (.bin .int .neq (.t 9) (.c (.int .i64 4))),
 mv 11 10,
 z1 12 11 4 2,
 z3 13 11 12,
 og 14 11 false (.iaddr 9 (.t 13) (.c (.int .i64 0))),
 z1 15 11 0 14,
 z3 16 11 15,
 og 17 11 false (.bin .int .neq (.t 16) (.c (.int .i64 4))),
 y4 18 11 17,
 mv 19 18,
 z1 20 19 4 2,
 z3 21 19 20,
 og 22 19 false (.iaddr 9 (.t 21) (.c (.int .i64 0))),
 z1 23 19 4 22,
 z3 24 19 23,
 og 25 19 false (.iaddr 9 (.t 24) (.c (.int .i64 0))),
 z1 26 19 0 25,
 z3 27 19 26,
 og 28 19 false (.bin .int .neq (.t 27) (.c (.int .i64 1))),
 y4 29 19 28])
 (.cond (.t 29)
 (.seq
 (.reg [x5 4 0])
 .ret)
 .skip))
 (.seq
 (.reg [x2 30 4 2,
 x1 31 30,
 oo 32 (.iaddr 9 (.t 31) (.c (.int .i64 0))),
 x2 33 4 32,
 x1 34 33,
 oo 35 (.iaddr 9 (.t 34) (.c (.int .i64 0))),
 x2 36 1 35,
 x1 37 36,
 mv 5 37])
 (.seq
 (.seq
 (.reg [mv 38 1,
 y1 39 38,
 x5 40 0])
 (.block 0
 (.loop
 (.seq
 (.reg [x9 41 40 39])
 (.seq
 (.cond (.t 41)
 .skip
 (.exit 0))
 (.seq
 (.block 1
 (.seq
 (.reg [x8 42 2 38 40,
 x4 43 2 42,
 oo 7 (.new 406 (.c (.agg [(.str ⟨#[]⟩), (.str ⟨#[]⟩)]))),
 x3 2 7 43])
 (.seq
 (.reg [x2 44 0 7,
 x1 45 44,
 mv 46 5,
 oo 47 (.bin .str .eql (.t 45) (.t 46))])
 (.cond (.t 47)
 (.seq
 (.reg [x5 4 0])
 .ret)
 .skip))))
 (.reg [x6 48 40 1,
 mv 40 48])))))))
 (.seq
 (.reg [mv 49 5,
 y5 50 199 49,
 mv 4 50])
 .ret)))))
theorem ent237 : EntOK Tryz.prog 237 ⟨51, v237, [.slot 4]⟩ := fun args σ K ha h =>
 enter (own := List.range 51) Tryz.func237 (by kernel_rfl) (by kernel_rfl) (by kernel_rfl) ha h
def v238 : ACode :=
(.seq
 (.reg [y9 6])
 (.seq
 (.reg [y9 7])
 (.seq
 (.reg [mv 8 7,
 mv 9 0,
 z7 10 406 2 32 8 9,
 mv 7 10])
 (.seq
 (.reg [mv 11 7,
 mv 12 1,
 mv 13 2,
 oo 14 (.build [(.str ⟨#[]⟩), (.str ⟨#[]⟩)] [(0, 1, (.t 12)), (1, 1, (.t 13))]),
 z8 15 406 2 14,
 z7 16 406 2 32 11 15,
 mv 6 16])
 .ret))))
theorem ent238 : EntOK Tryz.prog 238 ⟨17, v238, [.slot 6]⟩ := fun args σ K ha h =>
 enter (own := List.range 17) Tryz.func238 (by kernel_rfl) (by kernel_rfl) (by kernel_rfl) ha h
def v241 : ACode :=
(.seq
 (.reg [oo 2 (.new 28 (.c (.agg [(.int .i64 0), (.str ⟨#[]⟩), (.int .i64 0), (.int .i64 0), .nils, .nils, .nils, .nils, .nils])))])
 (.seq
 (.reg [mv 3 0,
 oo 4 (.build [(.int .i64 0), (.str ⟨#[]⟩), (.int .i64 0), (.int .i64 0), .nils, .nils, .nils, .nils, .nils] [(0, 1, (.c (.int .i64 1))), (1, 1, (.t 3))]),
 x3 9 2 4])
 .ret))
theorem ent241 : EntOK Tryz.prog 241 ⟨5, v241, [.cell 2 (some 9)]⟩ := fun args σ K ha h =>
 enter (own := List.range 5) Tryz.func241 (by kernel_rfl) (by kernel_rfl) (by kernel_rfl) ha h
def v250 : ACode :=
(.seq
 (.reg [oo 2 (.new 193 (.c (.agg [(.int .i64 0), (.str ⟨#[]⟩), (.int .i64 0), .nils, .nils, .nils, .nils, (.int .i64 0), (.int .i64 0)])))])
 (.seq
 (.reg [mv 10 0,
 y5 11 89 10,
 oo 3 (.new 83 (.c (.agg [(.int .i64 0), (.str ⟨#[]⟩), (.int .i64 0), (.int .i64 0), (.int .i64 0), (.bool false)]))),
 x3 6 3 11])
 (.seq
 (.block 0
 (.seq
 (.reg [x2 13 0 3,
 x1 14 13,
 x7 15 14 1,
 mv 12 15])
 (.cond (.t 12)
 (.seq
 (.reg [mv 16 0,
 y5 17 61 16])
 (.seq
 (.reg [x2 18 1 3,
 x1 19 18,
 x2 20 3 3,
 x4 21 2 20,
 oo 22 (.build [(.int .i64 0), (.str ⟨#[]⟩), (.int .i64 0), .nils, .nils, .nils, .nils, (.int .i64 0), (.int .i64 0)] [(0, 1, (.c (.int .i64 1))), (1, 1, (.t 19)), (7, 2, (.t 21))]),
 x3 9 2 22])
 .ret))
 (.seq
 (.reg [x2 24 0 3,
 x1 25 24,
 x7 26 25 2,
 mv 23 26])
 (.cond (.t 23)
 (.seq
 (.reg [mv 27 0,
 y5 28 61 27])
 (.seq
 (.reg [x2 29 1 3,
 x1 30 29,
 x2 31 3 3,
 x4 32 2 31,
 oo 33 (.build [(.int .i64 0), (.str ⟨#[]⟩), (.int .i64 0), .nils, .nils, .nils, .nils, (.int .i64 0), (.int .i64 0)] [(0, 1, (.c (.int .i64 2))), (1, 1, (.t 30)), (7, 2, (.t 32))]),
 x3 9 2 33])
 .ret))
 (.seq
 (.reg [x2 35 0 3,
 x1 36 35,
 x7 37 36 4,
 mv 34 37])
 (.cond (.t 34)
 (.seq
 (.reg [mv 39 0,
 y5 40 141 39,
 mv 38 40,
 z9 41 38 0,
 z9 42 38 1,
 oo 5 (.new 64 q2),
 mv 4 41,
 x3 2 5 42])
 (.seq
 (.reg [mv 43 4,
 x4 44 2 5,
 oo 45 (.build [(.int .i64 0), (.str ⟨#[]⟩), (.int .i64 0), .nils, .nils, .nils, .nils, (.int .i64 0), (.int .i64 0)] [(0, 1, (.c (.int .i64 3))), (2, 1, (.t 43)), (7, 2, (.t 44))]),
 x3 9 2 45])
 .ret))
 (.seq
 (.reg [mv 47 0,
 oo 48 (.call 142 [(.t 47), (.c (.str ⟨#[45]⟩)), (.c (.int .i64 4))]),
 mv 46 48])
 (.cond (.t 46)
 (.seq
 (.reg [mv 50 0,
 y5 51 143 50,
 mv 49 51,
 z9 52 49 0,
 z9 53 49 1,
 oo 7 (.new 64 q2),
 mv 6 52,
 x3 2 7 53])
 (.seq
 (.reg [mv 54 6,
 x4 55 2 7,
 oo 56 (.build [(.int .i64 0), (.str ⟨#[]⟩), (.int .i64 0), .nils, .nils, .nils, .nils, (.int .i64 0), (.int .i64 0)] [(0, 1, (.c (.int .i64 3))), (2, 1, (.t 54)), (7, 2, (.t 55))]),
 x3 9 2 56])
 .ret))
 (.seq
 (.reg [mv 58 0,
 y5 59 294 58,
 mv 57 59])
 (.cond (.t 57)
 (.seq
 (.reg [mv 60 0,
 y5 61 61 60])
 (.seq
 (.reg [mv 62 0,
 y5 63 61 62,
 oo 8 (.new 83 (.c (.agg [(.int .i64 0), (.str ⟨#[]⟩), (.int .i64 0), (.int .i64 0), (.int .i64 0), (.bool false)]))),
 x3 6 8 63])
 (.seq
 (.reg [mv 64 0,
 oo 65 (.call 47 [(.t 64), (.c (.str ⟨#[41]⟩))])])
 (.seq
 (.reg [x2 66 1 8,
 x1 67 66,
 x2 68 3 8,
 x4 69 2 68,
 oo 70 (.build [(.int .i64 0), (.str ⟨#[]⟩), (.int .i64 0), .nils, .nils, .nils, .nils, (.int .i64 0), (.int .i64 0)] [(0, 1, (.c (.int .i64 1))), (1, 1, (.t 67)), (7, 2, (.t 69))]),
 x3 9 2 70])
 .ret))))
 .skip)))))))))))
 (.seq
 (.reg [mv 71 0,
 oo 72 (.call 47 [(.t 71), (.c (.str ⟨#[40]⟩))])])
 (.seq
 (.seq
 (.reg [mv 73 0,
 y3 74 73,
 x2 75 2 74,
 x1 76 75])
 (.cond (.t 76)
 (.seq
 (.reg [oo 77 (.build [(.int .i64 0), (.str ⟨#[]⟩), (.int .i64 0), .nils, .nils, .nils, .nils, (.int .i64 0), (.int .i64 0)] []),
 x3 9 2 77])
 .ret)
 .skip))
 (.seq
 (.reg [mv 78 0,
 y5 79 146 78,
 oo 9 (.new 193 (.c (.agg [(.int .i64 0), (.str ⟨#[]⟩), (.int .i64 0), .nils, .nils, .nils, .nils, (.int .i64 0), (.int .i64 0)]))),
 x3 9 9 79])
 (.seq
 (.reg [mv 80 0,
 oo 81 (.call 47 [(.t 80), (.c (.str ⟨#[41]⟩))])])
 (.seq
 (.reg [x4 82 9 9,
 x3 9 2 82])
 .ret))))))))
theorem ent250 : EntOK Tryz.prog 250 ⟨83, v250, [.cell 2 (some 9)]⟩ := fun args σ K ha h =>
 enter (own := List.range 83) Tryz.func250 (by kernel_rfl) (by kernel_rfl) (by kernel_rfl) ha h
def v251 : ACode :=
(.seq
 (.reg [y6 2])
 (.seq
 (.reg [mv 3 0,
 oo 4 (.call 91 [(.t 3), (.c (.int .i64 1))]),
 mv 5 4,
 z5 6 5 0,
 og 7 5 false (.call 91 [(.t 6), (.c (.int .i64 2))]),
 y4 8 5 7,
 mv 9 8,
 z5 10 9 0,
 og 11 9 false (.call 91 [(.t 10), (.c (.int .i64 4))]),
 y4 12 9 11,
 mv 13 12,
 z5 14 13 0,
 og 15 13 false (.call 60 [(.t 14), (.c (.str ⟨#[40]⟩))]),
 y4 16 13 15,
 mv 2 16])
 .ret))
theorem ent251 : EntOK Tryz.prog 251 ⟨17, v251, [.slot 2]⟩ := fun args σ K ha h =>
 enter (own := List.range 17) Tryz.func251 (by kernel_rfl) (by kernel_rfl) (by kernel_rfl) ha h
def v252 : ACode :=
(.seq
 (.reg [oo 4 (.new 116 (.c (.agg [(.str ⟨#[]⟩), (.int .i64 0), (.int .i64 0), (.int .i64 0), (.int .i64 0)])))])
 (.seq
 (.seq
 (.reg [mv 7 0,
 y1 8 7,
 x5 9 0])
 (.block 0
 (.loop
 (.seq
 (.reg [x9 10 9 8])
 (.seq
 (.cond (.t 10)
 .skip
 (.exit 0))
 (.seq
 (.block 1
 (.seq
 (.reg [x8 11 5 7 9,
 x4 12 5 11,
 oo 6 (.new 116 (.c (.agg [(.str ⟨#[]⟩), (.int .i64 0), (.int .i64 0), (.int .i64 0), (.int .i64 0)]))),
 x3 5 6 12])
 (.seq
 (.reg [x2 13 0 6,
 x1 14 13,
 mv 15 1,
 oo 16 (.bin .str .eql (.t 14) (.t 15))])
 (.cond (.t 16)
 (.seq
 (.reg [x4 17 5 6,
 x3 5 4 17])
 .ret)
 .skip))))
 (.reg [x6 18 9 1,
 mv 9 18])))))))
 (.seq
 (.reg [mv 19 1,
 y5 20 295 19,
 x3 5 4 20])
 .ret)))
theorem ent252 : EntOK Tryz.prog 252 ⟨21, v252, [.cell 4 (some 5)]⟩ := fun args σ K ha h =>
 enter (own := List.range 21) Tryz.func252 (by kernel_rfl) (by kernel_rfl) (by kernel_rfl) ha h
end Go.Proofs.YtgjcnkcepdoedaaGreat

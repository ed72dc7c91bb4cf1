/- A part of the proof of the claim: the abstract layer, the contracts of the functions, the law (no condition of its own). -/
import Derived.Test.YtojfdejpoideaaaGreatK3
import Derived.Test.YtojfdejpoideaaaGreatProg
import Derived.KernelRfl
set_option linter.unusedVariables false
namespace Go.Proofs.YtojfdejpoideaaaGreat
open Go.AL
def v4 : ACode :=
(.seq
 (.reg [oo 5 (.new 28 (.t 1)),
 oo 7 (.new 30 (.t 3)),
 oo 8 (.new 37 (.c (.agg [(.int .i64 0), (.str ⟨#[]⟩), (.int .i64 0), .nils, (.int .i64 0)]))),
 oo 9 (.move (.c (.int .i64 0)))])
 (.seq
 (.reg [mv 13 0,
 oo 14 (.load (some 9) (.t 5)),
 mv 15 2,
 oo 16 (.load (some 4) (.t 7)),
 oo 17 (.call 5 [(.t 13), (.t 14), (.t 15), (.t 16)]),
 mv 12 17,
 oo 18 (.extract (.t 12) 0),
 oo 19 (.extract (.t 12) 1),
 mv 10 18,
 mv 11 19])
 (.seq
 (.seq
 (.reg [mv 20 11,
 oo 21 (.bin .int .neq (.t 20) (.c (.int .i64 0)))])
 (.cond (.t 21)
 (.seq
 (.reg [oo 22 (.build [(.int .i64 0), (.str ⟨#[]⟩), (.int .i64 0), .nils, (.int .i64 0)] []),
 mv 23 11,
 ⟨none, .store 5 (.t 8) (.t 22), none⟩,
 mv 9 23])
 .ret)
 .skip))
 (.seq
 (.block 0
 (.loop
 (.seq
 (.seq
 (.reg [mv 24 10,
 oo 25 (.call 6 [(.t 24)])])
 (.cond (.t 25)
 .skip
 (.exit 0)))
 (.block 1
 .skip))))
 (.seq
 (.reg [mv 26 10,
 oo 27 (.call 7 [(.t 26)]),
 ⟨none, .store 5 (.t 8) (.t 27), none⟩,
 oo 9 (.move (.c (.int .i64 0)))])
 .ret)))))
theorem ent4 : EntOK Tryz.prog 4 ⟨28, v4, [.cell 8 (some 5), .slot 9]⟩ := fun args σ K ha h =>
 enter (own := List.range 28) Tryz.func4 (by kernel_rfl) (by kernel_rfl) (by kernel_rfl) ha h
def v5 : ACode :=
(.seq
 (.reg [oo 5 (.new 28 (.t 1)),
 oo 7 (.new 30 (.t 3)),
 oo 8 (.move (.c .nilp)),
 oo 9 (.move (.c (.int .i64 0)))])
 (.seq
 (.seq
 (.reg [mv 18 0,
 oo 19 (.nileq .ptr false (.t 18) (.c .nilp)),
 mv 20 19,
 og 21 20 false (.move (.t 0)),
 og 22 20 false (.nilck (.t 21)),
 og 23 20 false (.faddr 2 (.t 22)),
 og 24 20 false (.load none (.t 23)),
 og 25 20 false (.nileq .slice false (.t 24) (.c .nils)),
 oo 26 (.pick (.t 20) (.c (.bool true)) (.t 25))])
 (.cond (.t 26)
 (.seq
 (.reg [oo 8 (.move (.c .nilp)),
 oo 9 (.move (.c (.int .i64 3)))])
 .ret)
 .skip))
 (.seq
 (.seq
 (.reg [oo 27 (.load (some 4) (.t 7)),
 oo 28 (.call 16 [(.t 27)]),
 oo 29 (.not (.t 28))])
 (.cond (.t 29)
 (.seq
 (.reg [oo 8 (.move (.c .nilp)),
 oo 9 (.move (.c (.int .i64 1)))])
 .ret)
 .skip))
 (.seq
 (.draw [10] [([⟨(some 31), .load (some 9) (.t 5), none⟩], []),
 ([⟨(some 32), .move (.t 0), none⟩], []),
 ([⟨(some 33), .nilck (.t 32), none⟩], []),
 ([⟨(some 34), .faddr 0 (.t 33), none⟩], []),
 ([⟨(some 35), .load none (.t 34), none⟩], []),
 ([⟨(some 36), .move (.t 0), none⟩], []),
 ([⟨(some 37), .nilck (.t 36), none⟩], []),
 ([⟨(some 38), .faddr 1 (.t 37), none⟩], []),
 ([⟨(some 39), .load none (.t 38), none⟩], []),
 ([⟨(some 40), .call 17 [(.t 31), (.t 35), (.t 39)], none⟩], []),
 ([⟨(some 30), .move (.t 40), none⟩], []),
 ([⟨(some 41), .extract (.t 30) 0, none⟩], []),
 ([⟨(some 42), .extract (.t 30) 1, none⟩], []),
 ([⟨(some 10), .new 63 (.c (.agg [(.str ⟨#[]⟩), (.int .i64 0), (.bool false), .nils])), none⟩, ⟨none, .store 4 (.t 10) (.t 41), none⟩], []),
 ([⟨(some 11), .move (.t 42), none⟩], [])])
 (.seq
 (.seq
 (.reg [mv 43 11,
 oo 44 (.bin .int .neq (.t 43) (.c (.int .i64 0)))])
 (.cond (.t 44)
 (.seq
 (.reg [mv 45 11,
 oo 8 (.move (.c .nilp)),
 mv 9 45])
 .ret)
 .skip))
 (.seq
 (.reg [oo 47 (.faddr 1 (.t 7)),
 oo 48 (.load none (.t 47)),
 oo 49 (.call 18 [(.t 48)]),
 mv 46 49,
 oo 50 (.extract (.t 46) 0),
 oo 51 (.extract (.t 46) 1),
 mv 12 50,
 mv 13 51])
 (.seq
 (.reg [mv 52 0,
 oo 53 (.load (some 4) (.t 10)),
 mv 54 12,
 oo 55 (.load (some 4) (.t 7)),
 mv 56 2,
 oo 57 (.build [.nilp, (.str ⟨#[]⟩), (.int .i64 0), (.bool false), .nils, .nilp, (.int .i64 0), (.int .i64 0), (.int .i64 0), (.int .i64 0), (.int .i64 0), .nils, .nils, .nils, (.int .i64 0), (.int .i64 0), (.int .i64 0), (.bool false), (.int .i64 0), (.int .i64 0), .nils, (.bool false), (.int .i64 0), (.str ⟨#[]⟩), (.int .i64 0), .nils, (.int .i64 0)] [(0, 1, (.t 52)), (1, 4, (.t 53)), (5, 1, (.t 54)), (6, 4, (.t 55)), (10, 1, (.t 56)), (14, 1, (.c (.int .i64 (-1))))]),
 oo 58 (.new 73 (.t 57)),
 mv 14 58])
 (.seq
 (.seq
 (.reg [mv 59 0,
 oo 60 (.nilck (.t 59)),
 oo 61 (.faddr 2 (.t 60)),
 oo 62 (.load none (.t 61)),
 oo 63 (.len .slice (.t 62)),
 oo 64 (.move (.c (.int .i64 0)))])
 (.block 0
 (.loop
 (.seq
 (.reg [oo 65 (.bin .int .lss (.t 64) (.t 63))])
 (.seq
 (.cond (.t 65)
 .skip
 (.exit 0))
 (.seq
 (.block 1
 (.seq
 (.reg [mv 66 64,
 mv 15 66])
 (.seq
 (.reg [mv 68 12,
 mv 69 15,
 oo 70 (.build [(.int .i64 0), (.int .i64 0), .nils] [(0, 1, (.c (.int .i64 4))), (1, 1, (.t 69))]),
 oo 71 (.call 19 [(.t 68), (.t 70)]),
 mv 67 71,
 oo 72 (.extract (.t 67) 0),
 oo 73 (.extract (.t 67) 1),
 mv 16 72,
 mv 17 73])
 (.seq
 (.seq
 (.reg [mv 74 17,
 oo 75 (.bin .int .neq (.t 74) (.c (.int .i64 0)))])
 (.cond (.t 75)
 (.seq
 (.reg [mv 76 14,
 oo 77 (.call 20 [(.t 76), (.c (.int .i64 6))])])
 (.exit 0))
 .skip))
 (.reg [mv 78 14,
 mv 79 14,
 oo 80 (.nilck (.t 79)),
 oo 81 (.faddr 11 (.t 80)),
 oo 82 (.load none (.t 81)),
 mv 83 16,
 oo 84 (.lit true 3 1 [(.t 83)]),
 oo 85 (.append 3 1 8 (.t 82) (.t 84)),
 oo 86 (.nilck (.t 78)),
 oo 87 (.faddr 11 (.t 86)),
 ⟨none, .store 1 (.t 87) (.t 85), none⟩])))))
 (.reg [oo 88 (.bin .int .add (.t 64) (.c (.int .i64 1))),
 mv 64 88])))))))
 (.seq
 (.reg [mv 89 14,
 mv 8 89,
 oo 9 (.move (.c (.int .i64 0)))])
 .ret)))))))))
theorem ent5 : EntOK Tryz.prog 5 ⟨90, v5, [.slot 8, .slot 9]⟩ := fun args σ K ha h =>
 enter (own := List.range 90) Tryz.func5 (by kernel_rfl) (by kernel_rfl) (by kernel_rfl) ha h
def v6 : ACode :=
(.seq
 (.reg [oo 2 (.move (.c (.bool false)))])
 (.seq
 (.seq
 (.reg [mv 3 0,
 oo 4 (.nileq .ptr false (.t 3) (.c .nilp)),
 mv 5 4,
 og 6 5 false (.move (.t 0)),
 og 7 5 false (.nilck (.t 6)),
 og 8 5 false (.faddr 21 (.t 7)),
 og 9 5 false (.load none (.t 8)),
 oo 10 (.pick (.t 5) (.c (.bool true)) (.t 9))])
 (.cond (.t 10)
 (.seq
 (.reg [oo 2 (.move (.c (.bool false)))])
 .ret)
 .skip))
 (.seq
 (.seq
 (.reg [mv 11 0,
 oo 12 (.nilck (.t 11)),
 oo 13 (.faddr 19 (.t 12)),
 oo 14 (.load none (.t 13)),
 mv 15 0,
 oo 16 (.nilck (.t 15)),
 oo 17 (.faddr 6 (.t 16)),
 oo 18 (.faddr 0 (.t 17)),
 oo 19 (.load none (.t 18)),
 oo 20 (.bin .int .geq (.t 14) (.t 19))])
 (.cond (.t 20)
 (.seq
 (.reg [mv 21 0,
 oo 22 (.call 20 [(.t 21), (.c (.int .i64 5))])])
 (.seq
 (.reg [oo 2 (.move (.c (.bool false)))])
 .ret))
 .skip))
 (.seq
 (.reg [mv 23 0,
 oo 24 (.nilck (.t 23)),
 oo 25 (.faddr 19 (.t 24)),
 oo 26 (.load none (.t 25)),
 oo 27 (.bin .int .add (.t 26) (.c (.int .i64 1))),
 oo 28 (.nilck (.t 23)),
 oo 29 (.faddr 19 (.t 28)),
 ⟨none, .store 1 (.t 29) (.t 27), none⟩])
 (.seq
 (.seq
 (.reg [mv 30 0,
 oo 31 (.nilck (.t 30)),
 oo 32 (.faddr 17 (.t 31)),
 oo 33 (.load none (.t 32))])
 (.cond (.t 33)
 (.reg [mv 34 0,
 oo 35 (.call 21 [(.t 34)])])
 (.reg [mv 36 0,
 oo 37 (.call 22 [(.t 36)])])))
 (.seq
 (.reg [mv 38 0,
 oo 39 (.nilck (.t 38)),
 oo 40 (.faddr 21 (.t 39)),
 oo 41 (.load none (.t 40)),
 oo 42 (.not (.t 41)),
 mv 2 42])
 .ret))))))
theorem ent6 : EntOK Tryz.prog 6 ⟨43, v6, [.slot 2]⟩ := fun args σ K ha h =>
 enter (own := List.range 43) Tryz.func6 (by kernel_rfl) (by kernel_rfl) (by kernel_rfl) ha h
def v7 : ACode :=
(.seq
 (.reg [oo 2 (.new 37 (.c (.agg [(.int .i64 0), (.str ⟨#[]⟩), (.int .i64 0), .nils, (.int .i64 0)])))])
 (.seq
 (.seq
 (.reg [mv 3 0,
 oo 4 (.nileq .ptr false (.t 3) (.c .nilp))])
 (.cond (.t 4)
 (.seq
 (.reg [oo 5 (.build [(.int .i64 0), (.str ⟨#[]⟩), (.int .i64 0), .nils, (.int .i64 0)] []),
 ⟨none, .store 5 (.t 2) (.t 5), none⟩])
 .ret)
 .skip))
 (.seq
 (.reg [mv 6 0,
 oo 7 (.nilck (.t 6)),
 oo 8 (.faddr 22 (.t 7)),
 oo 9 (.load (some 5) (.t 8)),
 ⟨none, .store 5 (.t 2) (.t 9), none⟩])
 .ret)))
theorem ent7 : EntOK Tryz.prog 7 ⟨10, v7, [.cell 2 (some 5)]⟩ := fun args σ K ha h =>
 enter (own := List.range 10) Tryz.func7 (by kernel_rfl) (by kernel_rfl) (by kernel_rfl) ha h
def v12 : ACode :=
(.seq
 (.reg [oo 2 (.new 50 (.c (.agg [.nils, .nils, .nils]))),
 oo 3 (.move (.c .nils)),
 oo 4 (.move (.c .nils)),
 oo 5 (.move (.c .nilp))])
 (.seq
 (.reg [mv 17 0,
 oo 18 (.call 24 [(.t 17)]),
 mv 16 18,
 oo 19 (.extract (.t 16) 0),
 oo 20 (.extract (.t 16) 1),
 oo 6 (.new 50 (.c (.agg [.nils, .nils, .nils]))),
 oo 7 (.new 82 (.c (.agg [(.int .i64 0), (.int .i64 0), (.int .i64 0)]))),
 ⟨none, .store 3 (.t 6) (.t 19), none⟩,
 ⟨none, .store 3 (.t 7) (.t 20), none⟩])
 (.seq
 (.seq
 (.reg [oo 21 (.faddr 0 (.t 7)),
 oo 22 (.load none (.t 21)),
 oo 23 (.bin .int .neq (.t 22) (.c (.int .i64 0)))])
 (.cond (.t 23)
 (.seq
 (.reg [oo 24 (.load (some 3) (.t 6)),
 ⟨none, .store 3 (.t 2) (.t 24), none⟩,
 oo 3 (.move (.c .nils)),
 oo 4 (.move (.c .nils)),
 oo 5 (.move (.c .nilp))])
 .ret)
 .skip))
 (.seq
 (.reg [oo 26 (.load (some 3) (.t 6)),
 oo 27 (.call 25 [(.t 26)]),
 mv 25 27,
 oo 28 (.extract (.t 25) 0),
 oo 29 (.extract (.t 25) 1),
 oo 9 (.new 82 (.c (.agg [(.int .i64 0), (.int .i64 0), (.int .i64 0)]))),
 mv 8 28,
 ⟨none, .store 3 (.t 9) (.t 29), none⟩])
 (.seq
 (.reg [oo 31 (.faddr 0 (.t 6)),
 oo 32 (.load none (.t 31)),
 oo 33 (.call 26 [(.t 32)]),
 mv 30 33,
 oo 34 (.extract (.t 30) 0),
 oo 35 (.extract (.t 30) 1),
 oo 11 (.new 82 (.c (.agg [(.int .i64 0), (.int .i64 0), (.int .i64 0)]))),
 mv 10 34,
 ⟨none, .store 3 (.t 11) (.t 35), none⟩])
 (.seq
 (.seq
 (.reg [oo 36 (.faddr 0 (.t 9)),
 oo 37 (.load none (.t 36)),
 oo 38 (.bin .int .neq (.t 37) (.c (.int .i64 0))),
 mv 39 38,
 og 40 39 false (.move (.t 10)),
 og 41 39 false (.nileq .ptr false (.t 40) (.c .nilp)),
 oo 42 (.pick (.t 39) (.c (.bool true)) (.t 41))])
 (.cond (.t 42)
 (.seq
 (.reg [oo 43 (.load (some 3) (.t 6)),
 ⟨none, .store 3 (.t 2) (.t 43), none⟩,
 oo 3 (.move (.c .nils)),
 oo 4 (.move (.c .nils)),
 oo 5 (.move (.c .nilp))])
 .ret)
 .skip))
 (.seq
 (.reg [mv 45 8,
 oo 46 (.call 27 [(.t 45)]),
 mv 44 46,
 oo 47 (.extract (.t 44) 0),
 oo 48 (.extract (.t 44) 1),
 mv 12 47,
 mv 13 48])
 (.seq
 (.reg [mv 50 12,
 mv 51 10,
 oo 52 (.call 29 [(.t 51)]),
 oo 53 (.call 28 [(.t 50), (.t 52)]),
 mv 49 53,
 oo 54 (.extract (.t 49) 0),
 oo 55 (.extract (.t 49) 1),
 mv 14 54,
 mv 15 55])
 (.seq
 (.seq
 (.reg [mv 56 15,
 oo 57 (.bin .int .neq (.t 56) (.c (.int .i64 0)))])
 (.cond (.t 57)
 (.seq
 (.reg [oo 58 (.load (some 3) (.t 6)),
 ⟨none, .store 3 (.t 2) (.t 58), none⟩,
 oo 3 (.move (.c .nils)),
 oo 4 (.move (.c .nils)),
 oo 5 (.move (.c .nilp))])
 .ret)
 .skip))
 (.seq
 (.draw [] [([⟨(some 59), .load (some 3) (.t 6), none⟩], []),
 ([⟨(some 60), .move (.t 12), none⟩], []),
 ([⟨(some 61), .move (.t 10), none⟩], []),
 ([⟨(some 63), .move (.t 14), none⟩], []),
 ([⟨(some 62), .call 29 [(.t 61)], none⟩], [⟨(some 59), .load (some 3) (.t 6), none⟩]),
 ([⟨none, .store 3 (.t 2) (.t 59), none⟩], []),
 ([⟨(some 3), .move (.t 60), none⟩], []),
 ([⟨(some 4), .move (.t 62), none⟩], []),
 ([⟨(some 5), .move (.t 63), none⟩], [])])
 .ret))))))))))
theorem ent12 : EntOK Tryz.prog 12 ⟨64, v12, [.cell 2 (some 3), .slot 3, .slot 4, .slot 5]⟩ := fun args σ K ha h =>
 enter (own := List.range 64) Tryz.func12 (by kernel_rfl) (by kernel_rfl) (by kernel_rfl) ha h
def v13 : ACode :=
(.seq
 (.reg [oo 2 (.new 28 (.c (.agg [(.int .i64 0), (.str ⟨#[]⟩), (.int .i64 0), (.int .i64 0), .nils, .nils, .nils, .nils, .nils])))])
 (.seq
 (.reg [mv 3 0,
 oo 4 (.build [(.int .i64 0), (.str ⟨#[]⟩), (.int .i64 0), (.int .i64 0), .nils, .nils, .nils, .nils, .nils] [(0, 1, (.c (.int .i64 2))), (1, 1, (.t 3))]),
 ⟨none, .store 9 (.t 2) (.t 4), none⟩])
 .ret))
theorem ent13 : EntOK Tryz.prog 13 ⟨5, v13, [.cell 2 (some 9)]⟩ := fun args σ K ha h =>
 enter (own := List.range 5) Tryz.func13 (by kernel_rfl) (by kernel_rfl) (by kernel_rfl) ha h
def v15 : ACode :=
(.seq
 (.reg [oo 0 (.move (.c (.bool false)))])
 (.seq
 (.reg [oo 5 (.call 30 [(.c (.str ⟨#[102, 32, 61, 32, 49, 32, 47, 32, 48]⟩))]),
 oo 6 (.call 30 [(.c (.str ⟨#[120, 32, 61, 32, 120]⟩))]),
 oo 7 (.call 30 [(.c (.str ⟨#[102, 32, 61, 32, 92, 121, 32, 45, 62, 32, 121]⟩))]),
 oo 8 (.call 30 [(.c (.str ⟨#[102, 32, 61, 32, 54, 32, 42, 32, 55]⟩))]),
 oo 1 (.new 37 (.c (.agg [(.int .i64 0), (.str ⟨#[]⟩), (.int .i64 0), .nils, (.int .i64 0)]))),
 oo 2 (.new 37 (.c (.agg [(.int .i64 0), (.str ⟨#[]⟩), (.int .i64 0), .nils, (.int .i64 0)]))),
 oo 3 (.new 37 (.c (.agg [(.int .i64 0), (.str ⟨#[]⟩), (.int .i64 0), .nils, (.int .i64 0)]))),
 oo 4 (.new 37 (.c (.agg [(.int .i64 0), (.str ⟨#[]⟩), (.int .i64 0), .nils, (.int .i64 0)]))),
 ⟨none, .store 5 (.t 1) (.t 5), none⟩,
 ⟨none, .store 5 (.t 2) (.t 6), none⟩,
 ⟨none, .store 5 (.t 3) (.t 7), none⟩,
 ⟨none, .store 5 (.t 4) (.t 8), none⟩])
 (.seq
 (.reg [oo 9 (.faddr 0 (.t 1)),
 oo 10 (.load none (.t 9)),
 oo 11 (.bin .int .eql (.t 10) (.c (.int .i64 3))),
 mv 12 11,
 og 13 12 true (.faddr 0 (.t 2)),
 og 14 12 true (.load none (.t 13)),
 og 15 12 true (.bin .int .eql (.t 14) (.c (.int .i64 4))),
 oo 16 (.pick (.t 12) (.t 15) (.c (.bool false))),
 mv 17 16,
 og 18 17 true (.faddr 0 (.t 3)),
 og 19 17 true (.load none (.t 18)),
 og 20 17 true (.bin .int .eql (.t 19) (.c (.int .i64 1))),
 oo 21 (.pick (.t 17) (.t 20) (.c (.bool false))),
 mv 22 21,
 og 23 22 true (.faddr 1 (.t 3)),
 og 24 22 true (.faddr 0 (.t 23)),
 og 25 22 true (.load none (.t 24)),
 og 26 22 true (.bin .str .eql (.t 25) (.c (.str ⟨#[45, 62]⟩))),
 oo 27 (.pick (.t 22) (.t 26) (.c (.bool false))),
 mv 28 27,
 og 29 28 true (.faddr 0 (.t 4)),
 og 30 28 true (.load none (.t 29)),
 og 31 28 true (.bin .int .eql (.t 30) (.c (.int .i64 1))),
 oo 32 (.pick (.t 28) (.t 31) (.c (.bool false))),
 mv 33 32,
 og 34 33 true (.faddr 1 (.t 4)),
 og 35 33 true (.faddr 1 (.t 34)),
 og 36 33 true (.load none (.t 35)),
 og 37 33 true (.bin .int .eql (.t 36) (.c (.int .i64 42))),
 oo 38 (.pick (.t 33) (.t 37) (.c (.bool false))),
 mv 0 38])
 .ret)))
theorem ent15 : EntOK Tryz.prog 15 ⟨39, v15, [.slot 0]⟩ := fun args σ K ha h =>
 enter (own := List.range 39) Tryz.func15 (by kernel_rfl) (by kernel_rfl) (by kernel_rfl) ha h
def v16 : ACode :=
(.seq
 (.reg [oo 1 (.new 30 (.t 0)),
 oo 2 (.move (.c (.bool false)))])
 (.seq
 (.reg [oo 3 (.faddr 0 (.t 1)),
 oo 4 (.load none (.t 3)),
 oo 5 (.bin .int .geq (.t 4) (.c (.int .i64 0))),
 mv 6 5,
 og 7 6 true (.faddr 0 (.t 1)),
 og 8 6 true (.load none (.t 7)),
 og 9 6 true (.bin .int .leq (.t 8) (.c (.int .i64 1099511627776))),
 oo 10 (.pick (.t 6) (.t 9) (.c (.bool false))),
 mv 11 10,
 og 12 11 true (.faddr 1 (.t 1)),
 og 13 11 true (.load none (.t 12)),
 og 14 11 true (.bin .int .geq (.t 13) (.c (.int .i64 1))),
 oo 15 (.pick (.t 11) (.t 14) (.c (.bool false))),
 mv 16 15,
 og 17 16 true (.faddr 1 (.t 1)),
 og 18 16 true (.load none (.t 17)),
 og 19 16 true (.bin .int .leq (.t 18) (.c (.int .i64 16777216))),
 oo 20 (.pick (.t 16) (.t 19) (.c (.bool false))),
 mv 21 20,
 og 22 21 true (.faddr 2 (.t 1)),
 og 23 21 true (.load none (.t 22)),
 og 24 21 true (.bin .int .geq (.t 23) (.c (.int .i64 1))),
 oo 25 (.pick (.t 21) (.t 24) (.c (.bool false))),
 mv 26 25,
 og 27 26 true (.faddr 2 (.t 1)),
 og 28 26 true (.load none (.t 27)),
 og 29 26 true (.bin .int .leq (.t 28) (.c (.int .i64 16777216))),
 oo 30 (.pick (.t 26) (.t 29) (.c (.bool false))),
 mv 31 30,
 og 32 31 true (.faddr 3 (.t 1)),
 og 33 31 true (.load none (.t 32)),
 og 34 31 true (.bin .int .geq (.t 33) (.c (.int .i64 0))),
 oo 35 (.pick (.t 31) (.t 34) (.c (.bool false))),
 mv 2 35])
 .ret))
theorem ent16 : EntOK Tryz.prog 16 ⟨36, v16, [.slot 2]⟩ := fun args σ K ha h =>
 enter (own := List.range 36) Tryz.func16 (by kernel_rfl) (by kernel_rfl) (by kernel_rfl) ha h
def v17 : ACode :=
(.seq
 (.reg [oo 3 (.new 28 (.t 0)),
 oo 6 (.new 63 (.c (.agg [(.str ⟨#[]⟩), (.int .i64 0), (.bool false), .nils]))),
 oo 7 (.move (.c (.int .i64 0)))])
 (.seq
 (.reg [mv 14 1,
 mv 15 2,
 oo 16 (.call 31 [(.t 14), (.t 15)]),
 mv 13 16,
 oo 17 (.extract (.t 13) 0),
 oo 18 (.extract (.t 13) 1),
 mv 8 17,
 mv 9 18])
 (.seq
 (.seq
 (.reg [mv 19 9,
 oo 20 (.not (.t 19))])
 (.cond (.t 20)
 (.seq
 (.reg [oo 21 (.build [(.str ⟨#[]⟩), (.int .i64 0), (.bool false), .nils] []),
 ⟨none, .store 4 (.t 6) (.t 21), none⟩,
 oo 7 (.move (.c (.int .i64 1)))])
 .ret)
 .skip))
 (.seq
 (.reg [oo 10 (.move (.c .nils))])
 (.seq
 (.reg [mv 22 10,
 mv 23 1,
 oo 24 (.append 102 11 200 (.t 22) (.t 23)),
 mv 10 24])
 (.seq
 (.seq
 (.reg [mv 25 10,
 oo 26 (.load (some 9) (.t 3)),
 mv 27 1,
 oo 28 (.call 33 [(.t 26), (.t 27)]),
 oo 29 (.lit true 102 11 [(.t 28)]),
 oo 30 (.append 102 11 200 (.t 25) (.t 29)),
 oo 31 (.call 32 [(.t 30)]),
 oo 32 (.not (.t 31)),
 mv 33 32,
 og 34 33 false (.move (.t 8)),
 og 35 33 false (.load (some 9) (.t 3)),
 og 36 33 false (.call 34 [(.t 34), (.t 35)]),
 og 37 33 false (.not (.t 36)),
 oo 38 (.pick (.t 33) (.c (.bool true)) (.t 37)),
 mv 39 38,
 og 40 39 false (.load (some 9) (.t 3)),
 og 41 39 false (.move (.t 1)),
 og 42 39 false (.call 35 [(.t 40), (.t 41)]),
 og 43 39 false (.not (.t 42)),
 oo 44 (.pick (.t 39) (.c (.bool true)) (.t 43))])
 (.cond (.t 44)
 (.seq
 (.reg [oo 45 (.build [(.str ⟨#[]⟩), (.int .i64 0), (.bool false), .nils] []),
 ⟨none, .store 4 (.t 6) (.t 45), none⟩,
 oo 7 (.move (.c (.int .i64 1)))])
 .ret)
 .skip))
 (.seq
 (.reg [mv 46 8,
 oo 47 (.build [.nilp, .nils] [(0, 1, (.t 46))]),
 oo 48 (.new 108 (.t 47)),
 mv 11 48])
 (.seq
 (.reg [mv 49 11,
 oo 50 (.load (some 9) (.t 3)),
 oo 51 (.call 36 [(.t 49), (.t 50), (.c .nils), (.c (.int .i64 0))])])
 (.seq
 (.reg [mv 52 11,
 oo 53 (.call 37 [(.t 52), (.c (.int .i64 9)), (.c (.int .i64 0))]),
 mv 12 53])
 (.seq
 (.reg [mv 54 11,
 oo 55 (.call 37 [(.t 54), (.c (.int .i64 18)), (.c (.int .i64 0))])])
 (.seq
 (.reg [mv 56 11,
 mv 57 12,
 oo 58 (.call 37 [(.t 56), (.c (.int .i64 19)), (.t 57)])])
 (.seq
 (.reg [mv 59 11,
 oo 60 (.nilck (.t 59)),
 oo 61 (.faddr 1 (.t 60)),
 oo 62 (.load none (.t 61)),
 oo 63 (.build [(.str ⟨#[]⟩), (.int .i64 0), (.bool false), .nils] [(3, 1, (.t 62))]),
 ⟨none, .store 4 (.t 6) (.t 63), none⟩,
 oo 7 (.move (.c (.int .i64 0)))])
 .ret))))))))))))
theorem ent17 : EntOK Tryz.prog 17 ⟨64, v17, [.cell 6 (some 4), .slot 7]⟩ := fun args σ K ha h =>
 enter (own := List.range 64) Tryz.func17 (by kernel_rfl) (by kernel_rfl) (by kernel_rfl) ha h
def v18 : ACode :=
(.seq
 (.reg [oo 2 (.move (.c .nilp)),
 oo 3 (.move (.c (.int .i64 0)))])
 (.seq
 (.seq
 (.reg [mv 4 0,
 oo 5 (.bin .int .lss (.t 4) (.c (.int .i64 1))),
 mv 6 5,
 og 7 6 false (.move (.t 0)),
 og 8 6 false (.bin .int .gtr (.t 7) (.c (.int .i64 16777216))),
 oo 9 (.pick (.t 6) (.c (.bool true)) (.t 8))])
 (.cond (.t 9)
 (.seq
 (.reg [oo 2 (.move (.c .nilp)),
 oo 3 (.move (.c (.int .i64 1)))])
 .ret)
 .skip))
 (.seq
 (.reg [mv 10 0,
 oo 11 (.build [(.int .i64 0), .nils, .nils, (.int .i64 0), (.int .i64 0)] [(0, 1, (.t 10))]),
 oo 12 (.new 113 (.t 11)),
 mv 2 12,
 oo 3 (.move (.c (.int .i64 0)))])
 .ret)))
theorem ent18 : EntOK Tryz.prog 18 ⟨13, v18, [.slot 2, .slot 3]⟩ := fun args σ K ha h =>
 enter (own := List.range 13) Tryz.func18 (by kernel_rfl) (by kernel_rfl) (by kernel_rfl) ha h
def v19 : ACode :=
(.seq
 (.reg [oo 3 (.new 77 (.t 1)),
 oo 4 (.move (.c (.int .i64 0))),
 oo 5 (.move (.c (.int .i64 0)))])
 (.seq
 (.block 0
 (.seq
 (.reg [mv 10 0,
 oo 11 (.call 38 [(.t 10)]),
 oo 12 (.not (.t 11)),
 mv 9 12])
 (.cond (.t 9)
 (.seq
 (.reg [oo 4 (.move (.c (.int .i64 0))),
 oo 5 (.move (.c (.int .i64 3)))])
 .ret)
 (.seq
 (.reg [mv 14 0,
 oo 15 (.faddr 2 (.t 3)),
 oo 16 (.load none (.t 15)),
 oo 17 (.call 39 [(.t 14), (.t 16)]),
 oo 18 (.not (.t 17)),
 mv 13 18])
 (.cond (.t 13)
 (.seq
 (.reg [oo 4 (.move (.c (.int .i64 0))),
 oo 5 (.move (.c (.int .i64 161)))])
 .ret)
 (.seq
 (.reg [mv 20 0,
 oo 21 (.nilck (.t 20)),
 oo 22 (.faddr 3 (.t 21)),
 oo 23 (.load none (.t 22)),
 mv 24 0,
 oo 25 (.nilck (.t 24)),
 oo 26 (.faddr 0 (.t 25)),
 oo 27 (.load none (.t 26)),
 oo 28 (.bin .int .geq (.t 23) (.t 27)),
 mv 19 28])
 (.cond (.t 19)
 (.seq
 (.reg [oo 4 (.move (.c (.int .i64 0))),
 oo 5 (.move (.c (.int .i64 160)))])
 .ret)
 .skip)))))))
 (.seq
 (.reg [mv 29 0,
 oo 30 (.nilck (.t 29)),
 oo 31 (.faddr 3 (.t 30)),
 oo 32 (.load none (.t 31)),
 oo 33 (.bin .int .add (.t 32) (.c (.int .i64 1))),
 oo 34 (.nilck (.t 29)),
 oo 35 (.faddr 3 (.t 34)),
 ⟨none, .store 1 (.t 35) (.t 33), none⟩])
 (.seq
 (.reg [mv 36 0,
 oo 37 (.nilck (.t 36)),
 oo 38 (.faddr 4 (.t 37)),
 oo 39 (.load none (.t 38)),
 oo 40 (.bin .int .add (.t 39) (.c (.int .i64 1))),
 oo 41 (.nilck (.t 36)),
 oo 42 (.faddr 4 (.t 41)),
 ⟨none, .store 1 (.t 42) (.t 40), none⟩])
 (.seq
 (.reg [oo 43 (.load (some 3) (.t 3)),
 oo 44 (.call 40 [(.t 43)]),
 oo 45 (.build [(.int .i64 0), (.int .i64 0), .nils, (.bool false), (.bool false)] [(0, 3, (.t 44)), (3, 1, (.c (.bool true)))]),
 oo 6 (.new 117 (.c (.agg [(.int .i64 0), (.int .i64 0), .nils, (.bool false), (.bool false)]))),
 ⟨none, .store 5 (.t 6) (.t 45), none⟩])
 (.seq
 (.seq
 (.reg [mv 46 0,
 oo 47 (.nilck (.t 46)),
 oo 48 (.faddr 2 (.t 47)),
 oo 49 (.load none (.t 48)),
 oo 50 (.len .slice (.t 49)),
 mv 7 50])
 (.seq
 (.reg [mv 51 7,
 oo 52 (.bin .int .gtr (.t 51) (.c (.int .i64 0)))])
 (.cond (.t 52)
 (.seq
 (.reg [mv 53 0,
 oo 54 (.nilck (.t 53)),
 oo 55 (.faddr 2 (.t 54)),
 oo 56 (.load none (.t 55)),
 mv 57 7,
 oo 58 (.bin .int .sub (.t 57) (.c (.int .i64 1))),
 oo 59 (.iaddr 1 (.t 56) (.t 58)),
 oo 60 (.load none (.t 59)),
 mv 8 60])
 (.seq
 (.reg [mv 61 0,
 mv 62 0,
 oo 63 (.nilck (.t 62)),
 oo 64 (.faddr 2 (.t 63)),
 oo 65 (.load none (.t 64)),
 mv 66 7,
 oo 67 (.bin .int .sub (.t 66) (.c (.int .i64 1))),
 oo 68 (.cut .slice 1 (.t 65) none (some (.t 67))),
 oo 69 (.nilck (.t 61)),
 oo 70 (.faddr 2 (.t 69)),
 ⟨none, .store 1 (.t 70) (.t 68), none⟩])
 (.seq
 (.reg [mv 71 0,
 oo 72 (.nilck (.t 71)),
 oo 73 (.faddr 1 (.t 72)),
 oo 74 (.load none (.t 73)),
 mv 75 8,
 oo 76 (.load (some 5) (.t 6)),
 oo 77 (.iaddr 5 (.t 74) (.t 75)),
 ⟨none, .store 5 (.t 77) (.t 76), none⟩])
 (.seq
 (.reg [mv 78 8,
 mv 4 78,
 oo 5 (.move (.c (.int .i64 0)))])
 .ret))))
 .skip)))
 (.seq
 (.draw [] [([⟨(some 79), .move (.t 0), none⟩], []),
 ([⟨(some 80), .move (.t 0), none⟩], []),
 ([⟨(some 81), .nilck (.t 80), none⟩], []),
 ([⟨(some 82), .faddr 1 (.t 81), none⟩], []),
 ([⟨(some 83), .load none (.t 82), none⟩], []),
 ([⟨(some 84), .load (some 5) (.t 6), none⟩], []),
 ([⟨(some 85), .lit true 117 5 [(.t 84)], none⟩], [⟨(some 82), .faddr 1 (.t 81), none⟩, ⟨(some 83), .load none (.t 82), none⟩]),
 ([⟨(some 86), .append 117 5 48 (.t 83) (.t 85), none⟩], []),
 ([⟨(some 87), .nilck (.t 79), none⟩], []),
 ([⟨(some 88), .faddr 1 (.t 87), none⟩], []),
 ([⟨none, .store 1 (.t 88) (.t 86), none⟩], [])])
 (.seq
 (.reg [mv 89 0,
 oo 90 (.nilck (.t 89)),
 oo 91 (.faddr 1 (.t 90)),
 oo 92 (.load none (.t 91)),
 oo 93 (.len .slice (.t 92)),
 oo 94 (.bin .int .sub (.t 93) (.c (.int .i64 1))),
 mv 4 94,
 oo 5 (.move (.c (.int .i64 0)))])
 .ret))))))))
theorem ent19 : EntOK Tryz.prog 19 ⟨95, v19, [.slot 4, .slot 5]⟩ := fun args σ K ha h =>
 enter (own := List.range 95) Tryz.func19 (by kernel_rfl) (by kernel_rfl) (by kernel_rfl) ha h
def v20 : ACode :=
(.seq
 (.reg [mv 4 0,
 oo 5 (.nilck (.t 4)),
 oo 6 (.faddr 21 (.t 5)),
 oo 7 (.load none (.t 6)),
 oo 8 (.not (.t 7))])
 (.cond (.t 8)
 (.seq
 (.reg [mv 9 0,
 oo 10 (.nilck (.t 9)),
 oo 11 (.faddr 21 (.t 10)),
 ⟨none, .store 1 (.t 11) (.c (.bool true)), none⟩])
 (.reg [mv 12 0,
 mv 13 1,
 mv 14 0,
 oo 15 (.nilck (.t 14)),
 oo 16 (.faddr 19 (.t 15)),
 oo 17 (.load none (.t 16)),
 oo 18 (.build [(.int .i64 0), (.str ⟨#[]⟩), (.int .i64 0), .nils, (.int .i64 0)] [(0, 1, (.t 13)), (4, 1, (.t 17))]),
 oo 19 (.nilck (.t 12)),
 oo 20 (.faddr 22 (.t 19)),
 ⟨none, .store 5 (.t 20) (.t 18), none⟩]))
 .skip))
theorem ent20 : EntOK Tryz.prog 20 ⟨21, v20, []⟩ := fun args σ K ha h =>
 enter (own := List.range 21) Tryz.func20 (by kernel_rfl) (by kernel_rfl) (by kernel_rfl) ha h
def v21 : ACode :=
(.seq
 (.reg [mv 4 0,
 oo 5 (.call 41 [(.t 4), (.c (.int .i64 0))]),
 mv 2 5])
 (.seq
 (.reg [mv 6 0,
 mv 7 2,
 oo 8 (.call 42 [(.t 6), (.t 7)]),
 oo 3 (.new 77 (.c (.agg [(.int .i64 0), (.int .i64 0), .nils]))),
 ⟨none, .store 3 (.t 3) (.t 8), none⟩])
 (.seq
 (.reg [oo 9 (.faddr 0 (.t 3)),
 oo 10 (.load none (.t 9))])
 (.block 0
 (.seq
 (.reg [oo 14 (.bin .int .eql (.t 10) (.c (.int .i64 1))),
 mv 13 14])
 (.cond (.t 13)
 (.reg [mv 15 0,
 oo 16 (.faddr 2 (.t 3)),
 oo 17 (.load none (.t 16)),
 oo 18 (.iaddr 1 (.t 17) (.c (.int .i64 0))),
 oo 19 (.load none (.t 18)),
 oo 20 (.call 43 [(.t 15), (.t 19)])])
 (.seq
 (.reg [oo 22 (.bin .int .eql (.t 10) (.c (.int .i64 5))),
 mv 21 22])
 (.cond (.t 21)
 (.reg [mv 23 0,
 oo 24 (.nilck (.t 23)),
 oo 25 (.faddr 12 (.t 24)),
 oo 26 (.load none (.t 25)),
 mv 27 0,
 oo 28 (.nilck (.t 27)),
 oo 29 (.faddr 12 (.t 28)),
 oo 30 (.load none (.t 29)),
 oo 31 (.len .slice (.t 30)),
 oo 32 (.bin .int .sub (.t 31) (.c (.int .i64 1))),
 oo 33 (.faddr 2 (.t 3)),
 oo 34 (.load none (.t 33)),
 oo 35 (.iaddr 1 (.t 34) (.c (.int .i64 0))),
 oo 36 (.load none (.t 35)),
 oo 37 (.iaddr 1 (.t 26) (.t 32)),
 ⟨none, .store 1 (.t 37) (.t 36), none⟩])
 (.seq
 (.seq
 (.reg [oo 39 (.bin .int .eql (.t 10) (.c (.int .i64 2))),
 mv 38 39])
 (.cond (.t 38)
 .skip
 (.reg [oo 40 (.bin .int .eql (.t 10) (.c (.int .i64 3))),
 mv 38 40])))
 (.cond (.t 38)
 (.reg [mv 41 0,
 mv 42 2,
 oo 43 (.call 44 [(.t 41), (.t 42)])])
 (.seq
 (.reg [oo 45 (.bin .int .eql (.t 10) (.c (.int .i64 4))),
 mv 44 45])
 (.cond (.t 44)
 (.reg [mv 46 0,
 oo 47 (.faddr 1 (.t 3)),
 oo 48 (.load none (.t 47)),
 oo 49 (.call 45 [(.t 46), (.t 48)])])
 (.reg [mv 11 0,
 oo 12 (.call 20 [(.t 11), (.c (.int .i64 4))])])))))))))))))
theorem ent21 : EntOK Tryz.prog 21 ⟨50, v21, []⟩ := fun args σ K ha h =>
 enter (own := List.range 50) Tryz.func21 (by kernel_rfl) (by kernel_rfl) (by kernel_rfl) ha h
def v22 : ACode :=
(.seq
 (.reg [mv 5 0,
 oo 6 (.call 46 [(.t 5)]),
 oo 2 (.new 122 (.c (.agg [(.int .i64 0), (.int .i64 0), (.int .i64 0), .nils]))),
 ⟨none, .store 4 (.t 2) (.t 6), none⟩])
 (.seq
 (.reg [oo 7 (.faddr 0 (.t 2)),
 oo 8 (.load none (.t 7))])
 (.block 0
 (.seq
 (.reg [oo 13 (.bin .int .eql (.t 8) (.c (.int .i64 1))),
 mv 12 13])
 (.cond (.t 12)
 (.reg [mv 14 0,
 mv 15 0,
 oo 16 (.faddr 1 (.t 2)),
 oo 17 (.load none (.t 16)),
 oo 18 (.call 41 [(.t 15), (.t 17)]),
 oo 19 (.call 43 [(.t 14), (.t 18)])])
 (.seq
 (.reg [oo 21 (.bin .int .eql (.t 8) (.c (.int .i64 2))),
 mv 20 21])
 (.cond (.t 20)
 (.reg [mv 22 0,
 mv 23 0,
 oo 24 (.nilck (.t 23)),
 oo 25 (.faddr 11 (.t 24)),
 oo 26 (.load none (.t 25)),
 oo 27 (.faddr 1 (.t 2)),
 oo 28 (.load none (.t 27)),
 oo 29 (.iaddr 1 (.t 26) (.t 28)),
 oo 30 (.load none (.t 29)),
 oo 31 (.call 43 [(.t 22), (.t 30)])])
 (.seq
 (.reg [oo 33 (.bin .int .eql (.t 8) (.c (.int .i64 3))),
 mv 32 33])
 (.cond (.t 32)
 (.reg [mv 34 0,
 oo 35 (.faddr 2 (.t 2)),
 oo 36 (.load none (.t 35)),
 oo 37 (.build [(.int .i64 0), (.int .i64 0), .nils] [(0, 1, (.c (.int .i64 2))), (1, 1, (.t 36))]),
 oo 38 (.call 47 [(.t 34), (.t 37), (.c (.int .i64 0))])])
 (.seq
 (.reg [oo 40 (.bin .int .eql (.t 8) (.c (.int .i64 4))),
 mv 39 40])
 (.cond (.t 39)
 (.reg [mv 41 0,
 mv 42 0,
 oo 43 (.call 41 [(.t 42), (.c (.int .i64 0))]),
 mv 44 0,
 oo 45 (.call 41 [(.t 44), (.c (.int .i64 1))]),
 oo 46 (.lit true 3 1 [(.t 43), (.t 45)]),
 oo 47 (.build [(.int .i64 0), (.int .i64 0), .nils] [(0, 1, (.c (.int .i64 1))), (2, 1, (.t 46))]),
 oo 48 (.call 47 [(.t 41), (.t 47), (.c (.int .i64 2))])])
 (.seq
 (.reg [oo 50 (.bin .int .eql (.t 8) (.c (.int .i64 5))),
 mv 49 50])
 (.cond (.t 49)
 (.reg [mv 51 0,
 oo 52 (.faddr 1 (.t 2)),
 oo 53 (.load none (.t 52)),
 oo 54 (.call 48 [(.t 51), (.t 53)])])
 (.seq
 (.reg [oo 56 (.bin .int .eql (.t 8) (.c (.int .i64 6))),
 mv 55 56])
 (.cond (.t 55)
 (.reg [mv 57 0,
 oo 58 (.faddr 1 (.t 2)),
 oo 59 (.load none (.t 58)),
 oo 60 (.call 49 [(.t 57), (.t 59)])])
 (.seq
 (.reg [oo 62 (.bin .int .eql (.t 8) (.c (.int .i64 7))),
 mv 61 62])
 (.cond (.t 61)
 (.seq
 (.reg [mv 63 0,
 oo 64 (.call 41 [(.t 63), (.c (.int .i64 0))]),
 mv 3 64])
 (.seq
 (.reg [mv 65 0,
 oo 66 (.faddr 1 (.t 2)),
 oo 67 (.load none (.t 66)),
 oo 68 (.bin .int .add (.t 67) (.c (.int .i64 1))),
 oo 69 (.call 49 [(.t 65), (.t 68)])])
 (.reg [mv 70 0,
 mv 71 3,
 oo 72 (.call 43 [(.t 70), (.t 71)])])))
 (.seq
 (.reg [oo 74 (.bin .int .eql (.t 8) (.c (.int .i64 8))),
 mv 73 74])
 (.cond (.t 73)
 (.seq
 (.reg [oo 4 (.move (.c (.int .i64 0)))])
 (.block 1
 (.loop
 (.seq
 (.seq
 (.reg [mv 75 4,
 oo 76 (.faddr 1 (.t 2)),
 oo 77 (.load none (.t 76)),
 oo 78 (.bin .int .lss (.t 75) (.t 77)),
 mv 79 78,
 og 80 79 true (.move (.t 0)),
 og 81 79 true (.nilck (.t 80)),
 og 82 79 true (.faddr 21 (.t 81)),
 og 83 79 true (.load none (.t 82)),
 og 84 79 true (.not (.t 83)),
 oo 85 (.pick (.t 79) (.t 84) (.c (.bool false)))])
 (.cond (.t 85)
 .skip
 (.exit 1)))
 (.seq
 (.block 2
 (.reg [mv 88 0,
 oo 89 (.build [(.int .i64 0), (.int .i64 0), .nils] [(0, 1, (.c (.int .i64 6)))]),
 oo 90 (.call 47 [(.t 88), (.t 89), (.c (.int .i64 0))])]))
 (.reg [mv 86 4,
 oo 87 (.bin .int .add (.t 86) (.c (.int .i64 1))),
 mv 4 87]))))))
 (.seq
 (.reg [oo 92 (.bin .int .eql (.t 8) (.c (.int .i64 9))),
 mv 91 92])
 (.cond (.t 91)
 (.reg [mv 93 0,
 oo 94 (.call 50 [(.t 93)])])
 (.seq
 (.reg [oo 96 (.bin .int .eql (.t 8) (.c (.int .i64 10))),
 mv 95 96])
 (.cond (.t 95)
 (.reg [mv 97 0,
 oo 98 (.nilck (.t 97)),
 oo 99 (.faddr 17 (.t 98)),
 ⟨none, .store 1 (.t 99) (.c (.bool true)), none⟩])
 (.seq
 (.reg [oo 101 (.bin .int .eql (.t 8) (.c (.int .i64 11))),
 mv 100 101])
 (.cond (.t 100)
 (.reg [mv 102 0,
 oo 103 (.load (some 4) (.t 2)),
 oo 104 (.call 51 [(.t 102), (.t 103)])])
 (.reg [mv 9 0,
 oo 10 (.load (some 4) (.t 2)),
 oo 11 (.call 52 [(.t 9), (.t 10)])]))))))))))))))))))))))))))
theorem ent22 : EntOK Tryz.prog 22 ⟨105, v22, []⟩ := fun args σ K ha h =>
 enter (own := List.range 105) Tryz.func22 (by kernel_rfl) (by kernel_rfl) (by kernel_rfl) ha h
def v24 : ACode :=
(.seq
 (.reg [oo 2 (.new 50 (.c (.agg [.nils, .nils, .nils]))),
 oo 3 (.new 82 (.c (.agg [(.int .i64 0), (.int .i64 0), (.int .i64 0)])))])
 (.seq
 (.reg [mv 7 0,
 oo 8 (.call 53 [(.t 7)]),
 oo 4 (.new 126 (.c .nilp)),
 ⟨none, .store 1 (.t 4) (.t 8), none⟩])
 (.seq
 (.reg [oo 5 (.new 50 (.c (.agg [.nils, .nils, .nils])))])
 (.seq
 (.reg [oo 9 (.load none (.t 4)),
 oo 10 (.mkfn (.func 55) [] [(.t 4), (.t 5)]),
 oo 11 (.call 54 [(.t 9), (.t 10)])])
 (.seq
 (.reg [oo 12 (.load none (.t 4)),
 oo 13 (.call 57 [(.t 12), (.c (.str ⟨#[125]⟩))])])
 (.seq
 (.reg [oo 14 (.load none (.t 4)),
 oo 15 (.call 58 [(.t 14)])])
 (.seq
 (.reg [oo 16 (.faddr 1 (.t 5)),
 oo 17 (.load none (.t 16)),
 oo 18 (.build [.nils, (.bool false), (.int .i64 0), (.int .i64 0), (.int .i64 0)] [(0, 1, (.t 17))]),
 oo 19 (.new 136 (.t 18)),
 mv 6 19])
 (.seq
 (.seq
 (.reg [oo 20 (.load none (.t 4)),
 oo 21 (.nilck (.t 20)),
 oo 22 (.faddr 2 (.t 21)),
 oo 23 (.load none (.t 22)),
 oo 24 (.not (.t 23))])
 (.cond (.t 24)
 (.seq
 (.reg [mv 25 6,
 oo 26 (.faddr 2 (.t 5)),
 oo 27 (.load none (.t 26)),
 oo 28 (.call 59 [(.t 25), (.t 27)]),
 oo 29 (.faddr 2 (.t 5)),
 ⟨none, .store 1 (.t 29) (.t 28), none⟩])
 (.draw [] [([⟨(some 30), .load none (.t 4), none⟩], []),
 ([⟨(some 31), .load none (.t 4), none⟩], []),
 ([⟨(some 32), .move (.t 6), none⟩], []),
 ([⟨(some 33), .nilck (.t 32), none⟩], []),
 ([⟨(some 34), .faddr 1 (.t 33), none⟩], []),
 ([⟨(some 35), .load none (.t 34), none⟩], []),
 ([⟨(some 36), .move (.t 6), none⟩], []),
 ([⟨(some 37), .nilck (.t 36), none⟩], []),
 ([⟨(some 38), .faddr 2 (.t 37), none⟩], []),
 ([⟨(some 39), .load (some 3) (.t 38), none⟩], []),
 ([⟨(some 40), .nilck (.t 30), none⟩], []),
 ([⟨(some 41), .faddr 2 (.t 40), none⟩], []),
 ([⟨none, .store 1 (.t 41) (.t 35), none⟩], [⟨(some 31), .load none (.t 4), none⟩]),
 ([⟨(some 42), .nilck (.t 31), none⟩], []),
 ([⟨(some 43), .faddr 3 (.t 42), none⟩], []),
 ([⟨none, .store 3 (.t 43) (.t 39), none⟩], [])]))
 .skip))
 (.seq
 (.seq
 (.reg [oo 44 (.load none (.t 4)),
 oo 45 (.nilck (.t 44)),
 oo 46 (.faddr 2 (.t 45)),
 oo 47 (.load none (.t 46))])
 (.cond (.t 47)
 (.seq
 (.draw [] [([⟨(some 48), .build [.nils, .nils, .nils] [], none⟩], []),
 ([⟨(some 49), .load none (.t 4), none⟩], []),
 ([⟨(some 50), .nilck (.t 49), none⟩], []),
 ([⟨(some 51), .faddr 3 (.t 50), none⟩], []),
 ([⟨(some 52), .load (some 3) (.t 51), none⟩], []),
 ([⟨none, .store 3 (.t 2) (.t 48), none⟩], [⟨(some 49), .load none (.t 4), none⟩, ⟨(some 51), .faddr 3 (.t 50), none⟩, ⟨(some 52), .load (some 3) (.t 51), none⟩]),
 ([⟨none, .store 3 (.t 3) (.t 52), none⟩], [])])
 .ret)
 .skip))
 (.seq
 (.reg [oo 53 (.load (some 3) (.t 5)),
 oo 54 (.build [(.int .i64 0), (.int .i64 0), (.int .i64 0)] []),
 ⟨none, .store 3 (.t 2) (.t 53), none⟩,
 ⟨none, .store 3 (.t 3) (.t 54), none⟩])
 .ret))))))))))
theorem ent24 : EntOK Tryz.prog 24 ⟨55, v24, [.cell 2 (some 3), .cell 3 (some 3)]⟩ := fun args σ K ha h =>
 enter (own := List.range 55) Tryz.func24 (by kernel_rfl) (by kernel_rfl) (by kernel_rfl) ha h
def v25 : ACode :=
(.seq
 (.reg [oo 1 (.new 50 (.t 0)),
 oo 2 (.move (.c .nils)),
 oo 3 (.new 82 (.c (.agg [(.int .i64 0), (.int .i64 0), (.int .i64 0)])))])
 (.seq
 (.seq
 (.reg [oo 13 (.load (some 3) (.t 1)),
 oo 14 (.call 60 [(.t 13)]),
 mv 12 14,
 oo 15 (.extract (.t 12) 0),
 oo 16 (.extract (.t 12) 1),
 oo 4 (.new 143 (.c (.agg [.nils]))),
 oo 5 (.new 82 (.c (.agg [(.int .i64 0), (.int .i64 0), (.int .i64 0)]))),
 ⟨none, .store 1 (.t 4) (.t 15), none⟩,
 ⟨none, .store 3 (.t 5) (.t 16), none⟩])
 (.seq
 (.reg [oo 17 (.faddr 0 (.t 5)),
 oo 18 (.load none (.t 17)),
 oo 19 (.bin .int .neq (.t 18) (.c (.int .i64 0)))])
 (.cond (.t 19)
 (.seq
 (.reg [oo 20 (.load (some 3) (.t 5)),
 oo 2 (.move (.c .nils)),
 ⟨none, .store 3 (.t 3) (.t 20), none⟩])
 .ret)
 .skip)))
 (.seq
 (.reg [oo 22 (.faddr 0 (.t 1)),
 oo 23 (.load none (.t 22)),
 oo 24 (.call 26 [(.t 23)]),
 mv 21 24,
 oo 25 (.extract (.t 21) 0),
 oo 26 (.extract (.t 21) 1),
 oo 7 (.new 82 (.c (.agg [(.int .i64 0), (.int .i64 0), (.int .i64 0)]))),
 mv 6 25,
 ⟨none, .store 3 (.t 7) (.t 26), none⟩])
 (.seq
 (.reg [mv 27 6,
 oo 28 (.build [.nilp] [(0, 1, (.t 27))]),
 oo 29 (.new 148 (.t 28)),
 mv 8 29])
 (.seq
 (.reg [oo 9 (.move (.c .nils))])
 (.seq
 (.seq
 (.reg [oo 30 (.faddr 2 (.t 1)),
 oo 31 (.load none (.t 30)),
 oo 32 (.len .slice (.t 31)),
 oo 33 (.move (.c (.int .i64 0)))])
 (.block 0
 (.loop
 (.seq
 (.reg [oo 34 (.bin .int .lss (.t 33) (.t 32))])
 (.seq
 (.cond (.t 34)
 .skip
 (.exit 0))
 (.seq
 (.block 1
 (.seq
 (.reg [oo 35 (.iaddr 4 (.t 31) (.t 33)),
 oo 36 (.load (some 4) (.t 35)),
 oo 11 (.new 151 (.c (.agg [(.str ⟨#[]⟩), .nils, (.int .i64 0), (.int .i64 0)]))),
 ⟨none, .store 4 (.t 11) (.t 36), none⟩])
 (.draw [] [([⟨(some 37), .move (.t 9), none⟩], []),
 ([⟨(some 38), .faddr 0 (.t 11), none⟩], []),
 ([⟨(some 39), .load none (.t 38), none⟩], []),
 ([⟨(some 40), .move (.t 8), none⟩], []),
 ([⟨(some 41), .load (some 4) (.t 11), none⟩], []),
 ([⟨(some 42), .call 61 [(.t 40), (.t 41), (.c .nils), (.c (.int .i64 0))], none⟩], [⟨(some 38), .faddr 0 (.t 11), none⟩, ⟨(some 39), .load none (.t 38), none⟩]),
 ([⟨(some 43), .build [(.str ⟨#[]⟩), (.int .i64 0), (.str ⟨#[]⟩), (.int .i64 0), (.int .i64 0), .nils, .nils, .nils, .nils, .nils] [(0, 1, (.t 39)), (1, 9, (.t 42))], none⟩], []),
 ([⟨(some 44), .lit true 154 10 [(.t 43)], none⟩], []),
 ([⟨(some 45), .append 154 10 176 (.t 37) (.t 44), none⟩], []),
 ([⟨(some 9), .move (.t 45), none⟩], [])])))
 (.reg [oo 46 (.bin .int .add (.t 33) (.c (.int .i64 1))),
 mv 33 46])))))))
 (.seq
 (.reg [mv 47 9,
 oo 48 (.build [(.int .i64 0), (.int .i64 0), (.int .i64 0)] []),
 mv 2 47,
 ⟨none, .store 3 (.t 3) (.t 48), none⟩])
 .ret)))))))
theorem ent25 : EntOK Tryz.prog 25 ⟨49, v25, [.slot 2, .cell 3 (some 3)]⟩ := fun args σ K ha h =>
 enter (own := List.range 49) Tryz.func25 (by kernel_rfl) (by kernel_rfl) (by kernel_rfl) ha h
def v26 : ACode :=
(.seq
 (.reg [oo 2 (.move (.c .nilp)),
 oo 3 (.new 82 (.c (.agg [(.int .i64 0), (.int .i64 0), (.int .i64 0)])))])
 (.seq
 (.reg [oo 13 (.call 62 []),
 mv 4 13])
 (.seq
 (.seq
 (.reg [mv 14 0,
 oo 15 (.len .slice (.t 14)),
 oo 16 (.move (.c (.int .i64 0)))])
 (.block 0
 (.loop
 (.seq
 (.reg [oo 17 (.bin .int .lss (.t 16) (.t 15))])
 (.seq
 (.cond (.t 17)
 .skip
 (.exit 0))
 (.seq
 (.block 1
 (.seq
 (.reg [oo 18 (.iaddr 5 (.t 14) (.t 16)),
 oo 19 (.load (some 5) (.t 18)),
 oo 6 (.new 158 (.c (.agg [(.str ⟨#[]⟩), .nils, .nils, (.int .i64 0), (.int .i64 0)]))),
 ⟨none, .store 5 (.t 6) (.t 19), none⟩])
 (.seq
 (.reg [mv 20 4,
 oo 21 (.load (some 5) (.t 6)),
 oo 22 (.call 63 [(.t 20), (.t 21)]),
 mv 7 22])
 (.seq
 (.reg [mv 23 7,
 oo 24 (.bin .int .neq (.t 23) (.c (.int .i64 0)))])
 (.cond (.t 24)
 (.seq
 (.reg [mv 25 7,
 oo 26 (.faddr 3 (.t 6)),
 oo 27 (.load (some 2) (.t 26)),
 oo 28 (.build [(.int .i64 0), (.int .i64 0), (.int .i64 0)] [(0, 1, (.t 25)), (1, 2, (.t 27))]),
 oo 2 (.move (.c .nilp)),
 ⟨none, .store 3 (.t 3) (.t 28), none⟩])
 .ret)
 .skip)))))
 (.reg [oo 29 (.bin .int .add (.t 16) (.c (.int .i64 1))),
 mv 16 29])))))))
 (.seq
 (.seq
 (.reg [mv 30 0,
 oo 31 (.len .slice (.t 30)),
 oo 32 (.move (.c (.int .i64 0)))])
 (.block 2
 (.loop
 (.seq
 (.reg [oo 33 (.bin .int .lss (.t 32) (.t 31))])
 (.seq
 (.cond (.t 33)
 .skip
 (.exit 2))
 (.seq
 (.block 3
 (.seq
 (.reg [oo 34 (.iaddr 5 (.t 30) (.t 32)),
 oo 35 (.load (some 5) (.t 34)),
 oo 9 (.new 158 (.c (.agg [(.str ⟨#[]⟩), .nils, .nils, (.int .i64 0), (.int .i64 0)]))),
 ⟨none, .store 5 (.t 9) (.t 35), none⟩])
 (.seq
 (.reg [oo 36 (.faddr 2 (.t 9)),
 oo 37 (.load none (.t 36)),
 oo 38 (.len .slice (.t 37)),
 oo 39 (.move (.c (.int .i64 0)))])
 (.block 4
 (.loop
 (.seq
 (.reg [oo 40 (.bin .int .lss (.t 39) (.t 38))])
 (.seq
 (.cond (.t 40)
 .skip
 (.exit 4))
 (.seq
 (.block 5
 (.seq
 (.reg [mv 41 39,
 oo 42 (.iaddr 4 (.t 37) (.t 39)),
 oo 43 (.load (some 4) (.t 42)),
 oo 11 (.new 162 (.c (.agg [(.str ⟨#[]⟩), .nils, (.int .i64 0), (.int .i64 0)]))),
 mv 10 41,
 ⟨none, .store 4 (.t 11) (.t 43), none⟩])
 (.seq
 (.reg [mv 44 4,
 oo 45 (.load (some 5) (.t 9)),
 mv 46 10,
 oo 47 (.load (some 4) (.t 11)),
 oo 48 (.call 64 [(.t 44), (.t 45), (.t 46), (.t 47)]),
 mv 12 48])
 (.seq
 (.reg [mv 49 12,
 oo 50 (.bin .int .neq (.t 49) (.c (.int .i64 0)))])
 (.cond (.t 50)
 (.seq
 (.reg [mv 51 12,
 oo 52 (.faddr 2 (.t 11)),
 oo 53 (.load (some 2) (.t 52)),
 oo 54 (.build [(.int .i64 0), (.int .i64 0), (.int .i64 0)] [(0, 1, (.t 51)), (1, 2, (.t 53))]),
 oo 2 (.move (.c .nilp)),
 ⟨none, .store 3 (.t 3) (.t 54), none⟩])
 .ret)
 .skip)))))
 (.reg [oo 55 (.bin .int .add (.t 39) (.c (.int .i64 1))),
 mv 39 55])))))))))
 (.reg [oo 56 (.bin .int .add (.t 32) (.c (.int .i64 1))),
 mv 32 56])))))))
 (.seq
 (.reg [mv 57 4,
 oo 58 (.build [(.int .i64 0), (.int .i64 0), (.int .i64 0)] []),
 mv 2 57,
 ⟨none, .store 3 (.t 3) (.t 58), none⟩])
 .ret)))))
theorem ent26 : EntOK Tryz.prog 26 ⟨59, v26, [.slot 2, .cell 3 (some 3)]⟩ := fun args σ K ha h =>
 enter (own := List.range 59) Tryz.func26 (by kernel_rfl) (by kernel_rfl) (by kernel_rfl) ha h
def v27 : ACode :=
(.seq
 (.reg [oo 2 (.move (.c .nils)),
 oo 3 (.move (.c (.int .i64 0)))])
 (.seq
 (.seq
 (.reg [mv 10 0,
 oo 11 (.call 65 [(.t 10)]),
 oo 12 (.not (.t 11))])
 (.cond (.t 12)
 (.seq
 (.reg [oo 2 (.move (.c .nils)),
 oo 3 (.move (.c (.int .i64 1)))])
 .ret)
 .skip))
 (.seq
 (.reg [oo 4 (.move (.c .nils))])
 (.seq
 (.seq
 (.reg [mv 13 0,
 oo 14 (.len .slice (.t 13)),
 oo 15 (.move (.c (.int .i64 0)))])
 (.block 0
 (.loop
 (.seq
 (.reg [oo 16 (.bin .int .lss (.t 15) (.t 14))])
 (.seq
 (.cond (.t 16)
 .skip
 (.exit 0))
 (.seq
 (.block 1
 (.seq
 (.reg [oo 17 (.iaddr 10 (.t 13) (.t 15)),
 oo 18 (.load (some 10) (.t 17)),
 oo 6 (.new 154 (.c (.agg [(.str ⟨#[]⟩), (.int .i64 0), (.str ⟨#[]⟩), (.int .i64 0), (.int .i64 0), .nils, .nils, .nils, .nils, .nils]))),
 ⟨none, .store 10 (.t 6) (.t 18), none⟩])
 (.seq
 (.reg [oo 19 (.faddr 0 (.t 6)),
 oo 20 (.load none (.t 19)),
 oo 21 (.build [(.str ⟨#[]⟩), .nils] [(0, 1, (.t 20))]),
 oo 22 (.new 167 (.t 21)),
 mv 7 22])
 (.seq
 (.reg [oo 23 (.faddr 0 (.t 6)),
 oo 24 (.load none (.t 23)),
 oo 25 (.build [(.str ⟨#[]⟩), .nils, (.int .i64 0), (.str ⟨#[]⟩), (.int .i64 0), (.int .i64 0), .nils, .nils, .nils, .nils, .nils] [(0, 1, (.t 24))]),
 oo 8 (.new 102 (.c (.agg [(.str ⟨#[]⟩), .nils, (.int .i64 0), (.str ⟨#[]⟩), (.int .i64 0), (.int .i64 0), .nils, .nils, .nils, .nils, .nils]))),
 ⟨none, .store 11 (.t 8) (.t 25), none⟩])
 (.seq
 (.reg [oo 26 (.faddr 1 (.t 6)),
 oo 27 (.load (some 9) (.t 26)),
 oo 9 (.new 28 (.c (.agg [(.int .i64 0), (.str ⟨#[]⟩), (.int .i64 0), (.int .i64 0), .nils, .nils, .nils, .nils, .nils]))),
 ⟨none, .store 9 (.t 9) (.t 27), none⟩])
 (.seq
 (.seq
 (.reg [oo 28 (.faddr 0 (.t 9)),
 oo 29 (.load none (.t 28)),
 oo 30 (.bin .int .eql (.t 29) (.c (.int .i64 6)))])
 (.cond (.t 30)
 (.seq
 (.reg [oo 31 (.faddr 1 (.t 8)),
 oo 32 (.load none (.t 31)),
 oo 33 (.faddr 4 (.t 9)),
 oo 34 (.load none (.t 33)),
 oo 35 (.append 9 1 16 (.t 32) (.t 34)),
 oo 36 (.faddr 1 (.t 8)),
 ⟨none, .store 1 (.t 36) (.t 35), none⟩])
 (.reg [oo 37 (.faddr 5 (.t 9)),
 oo 38 (.load none (.t 37)),
 oo 39 (.iaddr 9 (.t 38) (.c (.int .i64 0))),
 oo 40 (.load (some 9) (.t 39)),
 ⟨none, .store 9 (.t 9) (.t 40), none⟩]))
 .skip))
 (.seq
 (.reg [mv 41 7,
 oo 42 (.load (some 9) (.t 9)),
 oo 43 (.call 66 [(.t 41), (.t 42)]),
 oo 44 (.faddr 2 (.t 8)),
 ⟨none, .store 9 (.t 44) (.t 43), none⟩])
 (.seq
 (.reg [mv 45 4,
 oo 46 (.load (some 11) (.t 8)),
 oo 47 (.lit true 102 11 [(.t 46)]),
 oo 48 (.append 102 11 200 (.t 45) (.t 47)),
 mv 4 48])
 (.reg [mv 49 4,
 mv 50 7,
 oo 51 (.nilck (.t 50)),
 oo 52 (.faddr 1 (.t 51)),
 oo 53 (.load none (.t 52)),
 oo 54 (.append 102 11 200 (.t 49) (.t 53)),
 mv 4 54])))))))))
 (.reg [oo 55 (.bin .int .add (.t 15) (.c (.int .i64 1))),
 mv 15 55])))))))
 (.seq
 (.reg [mv 56 4,
 mv 2 56,
 oo 3 (.move (.c (.int .i64 0)))])
 .ret)))))
theorem ent27 : EntOK Tryz.prog 27 ⟨57, v27, [.slot 2, .slot 3]⟩ := fun args σ K ha h =>
 enter (own := List.range 57) Tryz.func27 (by kernel_rfl) (by kernel_rfl) (by kernel_rfl) ha h
def v28 : ACode :=
(.seq
 (.reg [oo 4 (.move (.c .nilp)),
 oo 5 (.move (.c (.int .i64 0)))])
 (.seq
 (.reg [mv 12 0,
 mv 13 1,
 oo 14 (.call 67 [(.t 12), (.t 13)]),
 mv 11 14,
 oo 15 (.extract (.t 11) 0),
 oo 16 (.extract (.t 11) 1),
 mv 6 15,
 mv 7 16])
 (.seq
 (.seq
 (.reg [mv 17 7,
 oo 18 (.bin .int .neq (.t 17) (.c (.int .i64 0)))])
 (.cond (.t 18)
 (.seq
 (.reg [mv 19 7,
 oo 4 (.move (.c .nilp)),
 mv 5 19])
 .ret)
 .skip))
 (.seq
 (.reg [mv 20 6,
 oo 21 (.build [.nils, .nils, .nils, (.int .i64 0), (.int .i64 0)] [(2, 1, (.t 20))]),
 oo 22 (.new 60 (.t 21)),
 mv 8 22])
 (.seq
 (.reg [mv 23 8,
 mv 24 8,
 oo 25 (.nilck (.t 24)),
 oo 26 (.faddr 0 (.t 25)),
 oo 27 (.load none (.t 26)),
 mv 28 0,
 oo 29 (.append 102 11 200 (.t 27) (.t 28)),
 oo 30 (.nilck (.t 23)),
 oo 31 (.faddr 0 (.t 30)),
 ⟨none, .store 1 (.t 31) (.t 29), none⟩])
 (.seq
 (.reg [mv 32 8,
 mv 33 8,
 oo 34 (.nilck (.t 33)),
 oo 35 (.faddr 1 (.t 34)),
 oo 36 (.load none (.t 35)),
 mv 37 1,
 oo 38 (.append 172 5 72 (.t 36) (.t 37)),
 oo 39 (.nilck (.t 32)),
 oo 40 (.faddr 1 (.t 39)),
 ⟨none, .store 1 (.t 40) (.t 38), none⟩])
 (.seq
 (.seq
 (.reg [mv 41 1,
 oo 42 (.len .slice (.t 41)),
 oo 43 (.move (.c (.int .i64 0)))])
 (.block 0
 (.loop
 (.seq
 (.reg [oo 44 (.bin .int .lss (.t 43) (.t 42))])
 (.seq
 (.cond (.t 44)
 .skip
 (.exit 0))
 (.seq
 (.block 1
 (.seq
 (.reg [mv 45 43,
 oo 46 (.iaddr 5 (.t 41) (.t 43)),
 oo 47 (.load (some 5) (.t 46)),
 oo 10 (.new 172 (.c (.agg [(.str ⟨#[]⟩), (.str ⟨#[]⟩), (.int .i64 0), (.int .i64 0), .nils]))),
 mv 9 45,
 ⟨none, .store 5 (.t 10) (.t 47), none⟩])
 (.seq
 (.reg [oo 48 (.faddr 0 (.t 10)),
 oo 49 (.load none (.t 48))])
 (.block 2
 (.seq
 (.reg [oo 51 (.bin .str .eql (.t 49) (.c (.str ⟨#[70, 97, 108, 115, 101]⟩))),
 mv 50 51])
 (.cond (.t 50)
 (.reg [mv 52 8,
 mv 53 9,
 oo 54 (.nilck (.t 52)),
 oo 55 (.faddr 3 (.t 54)),
 ⟨none, .store 1 (.t 55) (.t 53), none⟩])
 (.seq
 (.reg [oo 57 (.bin .str .eql (.t 49) (.c (.str ⟨#[84, 114, 117, 101]⟩))),
 mv 56 57])
 (.cond (.t 56)
 (.reg [mv 58 8,
 mv 59 9,
 oo 60 (.nilck (.t 58)),
 oo 61 (.faddr 4 (.t 60)),
 ⟨none, .store 1 (.t 61) (.t 59), none⟩])
 .skip))))))))
 (.reg [oo 62 (.bin .int .add (.t 43) (.c (.int .i64 1))),
 mv 43 62])))))))
 (.seq
 (.reg [mv 63 8,
 mv 4 63,
 oo 5 (.move (.c (.int .i64 0)))])
 .ret))))))))
theorem ent28 : EntOK Tryz.prog 28 ⟨64, v28, [.slot 4, .slot 5]⟩ := fun args σ K ha h =>
 enter (own := List.range 64) Tryz.func28 (by kernel_rfl) (by kernel_rfl) (by kernel_rfl) ha h
def v29 : ACode :=
(.seq
 (.reg [oo 2 (.move (.c .nils))])
 (.seq
 (.reg [oo 3 (.move (.c .nils))])
 (.seq
 (.seq
 (.reg [mv 8 0,
 oo 9 (.nileq .ptr false (.t 8) (.c .nilp))])
 (.cond (.t 9)
 (.seq
 (.reg [mv 10 3,
 mv 2 10])
 .ret)
 .skip))
 (.seq
 (.seq
 (.reg [mv 11 0,
 oo 12 (.nilck (.t 11)),
 oo 13 (.faddr 2 (.t 12)),
 oo 14 (.load none (.t 13)),
 oo 15 (.len .slice (.t 14)),
 oo 16 (.move (.c (.int .i64 0)))])
 (.block 0
 (.loop
 (.seq
 (.reg [oo 17 (.bin .int .lss (.t 16) (.t 15))])
 (.seq
 (.cond (.t 17)
 .skip
 (.exit 0))
 (.seq
 (.block 1
 (.seq
 (.reg [oo 18 (.iaddr 1 (.t 14) (.t 16)),
 oo 19 (.load none (.t 18)),
 mv 5 19])
 (.seq
 (.reg [mv 21 0,
 mv 22 5,
 oo 23 (.call 68 [(.t 21), (.t 22)]),
 mv 20 23,
 oo 24 (.extract (.t 20) 0),
 oo 25 (.extract (.t 20) 1),
 oo 6 (.new 172 (.c (.agg [(.str ⟨#[]⟩), (.str ⟨#[]⟩), (.int .i64 0), (.int .i64 0), .nils]))),
 ⟨none, .store 5 (.t 6) (.t 24), none⟩,
 mv 7 25])
 (.reg [mv 26 3,
 oo 27 (.load (some 5) (.t 6)),
 oo 28 (.lit true 172 5 [(.t 27)]),
 oo 29 (.append 172 5 72 (.t 26) (.t 28)),
 mv 3 29]))))
 (.reg [oo 30 (.bin .int .add (.t 16) (.c (.int .i64 1))),
 mv 16 30])))))))
 (.seq
 (.reg [mv 31 3,
 mv 2 31])
 .ret)))))
theorem ent29 : EntOK Tryz.prog 29 ⟨32, v29, [.slot 2]⟩ := fun args σ K ha h =>
 enter (own := List.range 32) Tryz.func29 (by kernel_rfl) (by kernel_rfl) (by kernel_rfl) ha h
def v30 : ACode :=
(.seq
 (.reg [oo 2 (.new 37 (.c (.agg [(.int .i64 0), (.str ⟨#[]⟩), (.int .i64 0), .nils, (.int .i64 0)])))])
 (.seq
 (.reg [mv 10 0,
 oo 11 (.call 12 [(.t 10)]),
 mv 9 11,
 oo 12 (.extract (.t 9) 0),
 oo 13 (.extract (.t 9) 1),
 oo 14 (.extract (.t 9) 2),
 oo 15 (.extract (.t 9) 3),
 oo 3 (.new 50 (.c (.agg [.nils, .nils, .nils]))),
 ⟨none, .store 3 (.t 3) (.t 12), none⟩,
 mv 4 13,
 mv 5 14,
 mv 6 15])
 (.seq
 (.seq
 (.reg [mv 16 6,
 oo 17 (.nileq .ptr false (.t 16) (.c .nilp)),
 mv 18 17,
 og 19 18 false (.faddr 2 (.t 3)),
 og 20 18 false (.load none (.t 19)),
 og 21 18 false (.len .slice (.t 20)),
 og 22 18 false (.bin .int .eql (.t 21) (.c (.int .i64 0))),
 oo 23 (.pick (.t 18) (.c (.bool true)) (.t 22))])
 (.cond (.t 23)
 (.seq
 (.reg [oo 24 (.build [(.int .i64 0), (.str ⟨#[]⟩), (.int .i64 0), .nils, (.int .i64 0)] []),
 ⟨none, .store 5 (.t 2) (.t 24), none⟩])
 .ret)
 .skip))
 (.seq
 (.reg [mv 26 6,
 oo 27 (.faddr 2 (.t 3)),
 oo 28 (.load none (.t 27)),
 oo 29 (.iaddr 4 (.t 28) (.c (.int .i64 0))),
 oo 30 (.faddr 0 (.t 29)),
 oo 31 (.load none (.t 30)),
 oo 32 (.call 13 [(.t 31)]),
 oo 33 (.call 69 []),
 oo 34 (.call 4 [(.t 26), (.t 32), (.c (.int .i64 0)), (.t 33)]),
 mv 25 34,
 oo 35 (.extract (.t 25) 0),
 oo 36 (.extract (.t 25) 1),
 oo 7 (.new 37 (.c (.agg [(.int .i64 0), (.str ⟨#[]⟩), (.int .i64 0), .nils, (.int .i64 0)]))),
 ⟨none, .store 5 (.t 7) (.t 35), none⟩,
 mv 8 36])
 (.seq
 (.reg [oo 37 (.load (some 5) (.t 7)),
 ⟨none, .store 5 (.t 2) (.t 37), none⟩])
 .ret)))))
theorem ent30 : EntOK Tryz.prog 30 ⟨38, v30, [.cell 2 (some 5)]⟩ := fun args σ K ha h =>
 enter (own := List.range 38) Tryz.func30 (by kernel_rfl) (by kernel_rfl) (by kernel_rfl) ha h
def v31 : ACode :=
(.seq
 (.reg [oo 4 (.move (.c .nilp)),
 oo 5 (.move (.c (.bool false)))])
 (.seq
 (.seq
 (.reg [mv 10 0,
 oo 11 (.call 32 [(.t 10)]),
 oo 12 (.not (.t 11))])
 (.cond (.t 12)
 (.seq
 (.reg [oo 4 (.move (.c .nilp)),
 oo 5 (.move (.c (.bool false)))])
 .ret)
 .skip))
 (.seq
 (.reg [mv 14 0,
 mv 15 1,
 oo 16 (.call 70 [(.t 14), (.t 15)]),
 mv 13 16,
 oo 17 (.extract (.t 13) 0),
 oo 18 (.extract (.t 13) 1),
 mv 6 17,
 mv 7 18])
 (.seq
 (.seq
 (.reg [mv 19 7,
 oo 20 (.not (.t 19))])
 (.cond (.t 20)
 (.seq
 (.reg [oo 4 (.move (.c .nilp)),
 oo 5 (.move (.c (.bool false)))])
 .ret)
 .skip))
 (.seq
 (.seq
 (.reg [mv 21 0,
 oo 22 (.len .slice (.t 21)),
 oo 23 (.move (.c (.int .i64 0)))])
 (.block 0
 (.loop
 (.seq
 (.reg [oo 24 (.bin .int .lss (.t 23) (.t 22))])
 (.seq
 (.cond (.t 24)
 .skip
 (.exit 0))
 (.seq
 (.block 1
 (.seq
 (.reg [oo 25 (.iaddr 11 (.t 21) (.t 23)),
 oo 26 (.load (some 11) (.t 25)),
 oo 9 (.new 102 (.c (.agg [(.str ⟨#[]⟩), .nils, (.int .i64 0), (.str ⟨#[]⟩), (.int .i64 0), (.int .i64 0), .nils, .nils, .nils, .nils, .nils]))),
 ⟨none, .store 11 (.t 9) (.t 26), none⟩])
 (.seq
 (.reg [mv 27 6,
 oo 28 (.faddr 2 (.t 9)),
 oo 29 (.load (some 9) (.t 28)),
 oo 30 (.call 34 [(.t 27), (.t 29)]),
 oo 31 (.not (.t 30))])
 (.cond (.t 31)
 (.seq
 (.reg [oo 4 (.move (.c .nilp)),
 oo 5 (.move (.c (.bool false)))])
 .ret)
 .skip))))
 (.reg [oo 32 (.bin .int .add (.t 23) (.c (.int .i64 1))),
 mv 23 32])))))))
 (.seq
 (.reg [mv 33 6,
 mv 4 33,
 oo 5 (.move (.c (.bool true)))])
 .ret))))))
theorem ent31 : EntOK Tryz.prog 31 ⟨34, v31, [.slot 4, .slot 5]⟩ := fun args σ K ha h =>
 enter (own := List.range 34) Tryz.func31 (by kernel_rfl) (by kernel_rfl) (by kernel_rfl) ha h
def v32 : ACode :=
(.seq
 (.reg [oo 2 (.move (.c (.bool false)))])
 (.seq
 (.reg [oo 8 (.build [.nils] []),
 oo 9 (.new 182 (.t 8)),
 mv 3 9])
 (.seq
 (.seq
 (.reg [mv 10 0,
 oo 11 (.len .slice (.t 10)),
 oo 12 (.move (.c (.int .i64 0)))])
 (.block 0
 (.loop
 (.seq
 (.reg [oo 13 (.bin .int .lss (.t 12) (.t 11))])
 (.seq
 (.cond (.t 13)
 .skip
 (.exit 0))
 (.seq
 (.block 1
 (.seq
 (.reg [oo 14 (.iaddr 11 (.t 10) (.t 12)),
 oo 15 (.load (some 11) (.t 14)),
 oo 5 (.new 102 (.c (.agg [(.str ⟨#[]⟩), .nils, (.int .i64 0), (.str ⟨#[]⟩), (.int .i64 0), (.int .i64 0), .nils, .nils, .nils, .nils, .nils]))),
 ⟨none, .store 11 (.t 5) (.t 15), none⟩])
 (.seq
 (.seq
 (.reg [oo 16 (.faddr 0 (.t 5)),
 oo 17 (.load none (.t 16)),
 oo 18 (.bin .str .eql (.t 17) (.c (.str ⟨#[]⟩))),
 mv 19 18,
 og 20 19 false (.faddr 0 (.t 5)),
 og 21 19 false (.load none (.t 20)),
 og 22 19 false (.call 71 [(.t 21)]),
 og 23 19 false (.bin .int .gtr (.t 22) (.c (.int .i64 0))),
 oo 24 (.pick (.t 19) (.c (.bool true)) (.t 23)),
 mv 25 24,
 og 26 25 false (.move (.t 3)),
 og 27 25 false (.nilck (.t 26)),
 og 28 25 false (.faddr 0 (.t 27)),
 og 29 25 false (.load none (.t 28)),
 og 30 25 false (.faddr 0 (.t 5)),
 og 31 25 false (.load none (.t 30)),
 og 32 25 false (.call 72 [(.t 29), (.t 31)]),
 oo 33 (.pick (.t 25) (.c (.bool true)) (.t 32)),
 mv 34 33,
 og 35 34 false (.faddr 1 (.t 5)),
 og 36 34 false (.load none (.t 35)),
 og 37 34 false (.call 73 [(.t 36)]),
 og 38 34 false (.not (.t 37)),
 oo 39 (.pick (.t 34) (.c (.bool true)) (.t 38))])
 (.cond (.t 39)
 (.seq
 (.reg [oo 2 (.move (.c (.bool false)))])
 .ret)
 .skip))
 (.draw [] [([⟨(some 40), .move (.t 3), none⟩], []),
 ([⟨(some 41), .move (.t 3), none⟩], []),
 ([⟨(some 42), .nilck (.t 41), none⟩], []),
 ([⟨(some 43), .faddr 0 (.t 42), none⟩], []),
 ([⟨(some 44), .load none (.t 43), none⟩], []),
 ([⟨(some 45), .faddr 0 (.t 5), none⟩], []),
 ([⟨(some 46), .load none (.t 45), none⟩], []),
 ([⟨(some 47), .lit true 9 1 [(.t 46)], none⟩], [⟨(some 43), .faddr 0 (.t 42), none⟩, ⟨(some 44), .load none (.t 43), none⟩]),
 ([⟨(some 48), .append 9 1 16 (.t 44) (.t 47), none⟩], []),
 ([⟨(some 49), .nilck (.t 40), none⟩], []),
 ([⟨(some 50), .faddr 0 (.t 49), none⟩], []),
 ([⟨none, .store 1 (.t 50) (.t 48), none⟩], [])]))))
 (.reg [oo 51 (.bin .int .add (.t 12) (.c (.int .i64 1))),
 mv 12 51])))))))
 (.seq
 (.seq
 (.reg [mv 52 0,
 oo 53 (.len .slice (.t 52)),
 oo 54 (.move (.c (.int .i64 0)))])
 (.block 2
 (.loop
 (.seq
 (.reg [oo 55 (.bin .int .lss (.t 54) (.t 53))])
 (.seq
 (.cond (.t 55)
 .skip
 (.exit 2))
 (.seq
 (.block 3
 (.seq
 (.reg [oo 56 (.iaddr 11 (.t 52) (.t 54)),
 oo 57 (.load (some 11) (.t 56)),
 oo 7 (.new 102 (.c (.agg [(.str ⟨#[]⟩), .nils, (.int .i64 0), (.str ⟨#[]⟩), (.int .i64 0), (.int .i64 0), .nils, .nils, .nils, .nils, .nils]))),
 ⟨none, .store 11 (.t 7) (.t 57), none⟩])
 (.seq
 (.reg [oo 58 (.faddr 2 (.t 7)),
 oo 59 (.load (some 9) (.t 58)),
 oo 60 (.call 74 [(.t 59), (.c (.bool true))]),
 oo 61 (.not (.t 60)),
 mv 62 61,
 og 63 62 false (.move (.t 3)),
 og 64 62 false (.faddr 2 (.t 7)),
 og 65 62 false (.load (some 9) (.t 64)),
 og 66 62 false (.faddr 1 (.t 7)),
 og 67 62 false (.load none (.t 66)),
 og 68 62 false (.call 75 [(.t 63), (.t 65), (.t 67)]),
 og 69 62 false (.not (.t 68)),
 oo 70 (.pick (.t 62) (.c (.bool true)) (.t 69))])
 (.cond (.t 70)
 (.seq
 (.reg [oo 2 (.move (.c (.bool false)))])
 .ret)
 .skip))))
 (.reg [oo 71 (.bin .int .add (.t 54) (.c (.int .i64 1))),
 mv 54 71])))))))
 (.seq
 (.reg [oo 2 (.move (.c (.bool true)))])
 .ret)))))
theorem ent32 : EntOK Tryz.prog 32 ⟨72, v32, [.slot 2]⟩ := fun args σ K ha h =>
 enter (own := List.range 72) Tryz.func32 (by kernel_rfl) (by kernel_rfl) (by kernel_rfl) ha h
def v33 : ACode :=
(.seq
 (.reg [oo 2 (.new 28 (.t 0)),
 oo 4 (.new 102 (.c (.agg [(.str ⟨#[]⟩), .nils, (.int .i64 0), (.str ⟨#[]⟩), (.int .i64 0), (.int .i64 0), .nils, .nils, .nils, .nils, .nils])))])
 (.seq
 (.reg [oo 5 (.move (.c (.str ⟨#[35]⟩)))])
 (.seq
 (.seq
 (.reg [mv 9 1,
 oo 10 (.len .slice (.t 9)),
 oo 11 (.move (.c (.int .i64 0)))])
 (.block 0
 (.loop
 (.seq
 (.reg [oo 12 (.bin .int .lss (.t 11) (.t 10))])
 (.seq
 (.cond (.t 12)
 .skip
 (.exit 0))
 (.seq
 (.block 1
 (.seq
 (.reg [oo 13 (.iaddr 11 (.t 9) (.t 11)),
 oo 14 (.load (some 11) (.t 13)),
 oo 7 (.new 102 (.c (.agg [(.str ⟨#[]⟩), .nils, (.int .i64 0), (.str ⟨#[]⟩), (.int .i64 0), (.int .i64 0), .nils, .nils, .nils, .nils, .nils]))),
 ⟨none, .store 11 (.t 7) (.t 14), none⟩])
 (.reg [mv 15 5,
 oo 16 (.faddr 0 (.t 7)),
 oo 17 (.load none (.t 16)),
 oo 18 (.bin .str .add (.t 15) (.t 17)),
 mv 5 18])))
 (.reg [oo 19 (.bin .int .add (.t 11) (.c (.int .i64 1))),
 mv 11 19])))))))
 (.seq
 (.reg [oo 20 (.build [(.int .i64 0), (.str ⟨#[]⟩), (.int .i64 0), (.int .i64 0), .nils, .nils, .nils, .nils, .nils] [(0, 1, (.c (.int .i64 3)))]),
 oo 21 (.load (some 9) (.t 2)),
 oo 22 (.lit true 28 9 [(.t 20), (.t 21)]),
 oo 23 (.build [(.int .i64 0), (.str ⟨#[]⟩), (.int .i64 0), (.int .i64 0), .nils, .nils, .nils, .nils, .nils] [(0, 1, (.c (.int .i64 5))), (5, 1, (.t 22))]),
 oo 8 (.new 28 (.c (.agg [(.int .i64 0), (.str ⟨#[]⟩), (.int .i64 0), (.int .i64 0), .nils, .nils, .nils, .nils, .nils]))),
 ⟨none, .store 9 (.t 8) (.t 23), none⟩])
 (.seq
 (.reg [mv 24 5,
 oo 25 (.bin .str .add (.t 24) (.c (.str ⟨#[35]⟩))),
 oo 26 (.load (some 9) (.t 8)),
 oo 27 (.build [(.str ⟨#[]⟩), .nils, (.int .i64 0), (.str ⟨#[]⟩), (.int .i64 0), (.int .i64 0), .nils, .nils, .nils, .nils, .nils] [(0, 1, (.t 25)), (2, 9, (.t 26))]),
 ⟨none, .store 11 (.t 4) (.t 27), none⟩])
 .ret)))))
theorem ent33 : EntOK Tryz.prog 33 ⟨28, v33, [.cell 4 (some 11)]⟩ := fun args σ K ha h =>
 enter (own := List.range 28) Tryz.func33 (by kernel_rfl) (by kernel_rfl) (by kernel_rfl) ha h
def v34 : ACode :=
(.seq
 (.reg [oo 3 (.new 28 (.t 1)),
 oo 4 (.move (.c (.bool false)))])
 (.seq
 (.seq
 (.reg [oo 13 (.faddr 0 (.t 3)),
 oo 14 (.load none (.t 13)),
 oo 15 (.bin .int .eql (.t 14) (.c (.int .i64 4))),
 mv 16 15,
 og 17 16 true (.move (.t 0)),
 og 18 16 true (.faddr 1 (.t 3)),
 og 19 16 true (.load none (.t 18)),
 og 20 16 true (.faddr 3 (.t 3)),
 og 21 16 true (.load none (.t 20)),
 og 22 16 true (.call 76 [(.t 17), (.t 19), (.t 21)]),
 og 23 16 true (.not (.t 22)),
 oo 24 (.pick (.t 16) (.t 23) (.c (.bool false)))])
 (.cond (.t 24)
 (.seq
 (.reg [oo 4 (.move (.c (.bool false)))])
 .ret)
 .skip))
 (.seq
 (.seq
 (.reg [oo 25 (.faddr 5 (.t 3)),
 oo 26 (.load none (.t 25)),
 oo 27 (.len .slice (.t 26)),
 oo 28 (.move (.c (.int .i64 0)))])
 (.block 0
 (.loop
 (.seq
 (.reg [oo 29 (.bin .int .lss (.t 28) (.t 27))])
 (.seq
 (.cond (.t 29)
 .skip
 (.exit 0))
 (.seq
 (.block 1
 (.seq
 (.reg [oo 30 (.iaddr 9 (.t 26) (.t 28)),
 oo 31 (.load (some 9) (.t 30)),
 oo 6 (.new 28 (.c (.agg [(.int .i64 0), (.str ⟨#[]⟩), (.int .i64 0), (.int .i64 0), .nils, .nils, .nils, .nils, .nils]))),
 ⟨none, .store 9 (.t 6) (.t 31), none⟩])
 (.seq
 (.reg [mv 32 0,
 oo 33 (.load (some 9) (.t 6)),
 oo 34 (.call 34 [(.t 32), (.t 33)]),
 oo 35 (.not (.t 34))])
 (.cond (.t 35)
 (.seq
 (.reg [oo 4 (.move (.c (.bool false)))])
 .ret)
 .skip))))
 (.reg [oo 36 (.bin .int .add (.t 28) (.c (.int .i64 1))),
 mv 28 36])))))))
 (.seq
 (.seq
 (.reg [oo 37 (.faddr 6 (.t 3)),
 oo 38 (.load none (.t 37)),
 oo 39 (.len .slice (.t 38)),
 oo 40 (.move (.c (.int .i64 0)))])
 (.block 2
 (.loop
 (.seq
 (.reg [oo 41 (.bin .int .lss (.t 40) (.t 39))])
 (.seq
 (.cond (.t 41)
 .skip
 (.exit 2))
 (.seq
 (.block 3
 (.seq
 (.reg [oo 42 (.iaddr 13 (.t 38) (.t 40)),
 oo 43 (.load (some 13) (.t 42)),
 oo 8 (.new 190 (.c (.agg [(.int .i64 0), (.str ⟨#[]⟩), (.int .i64 0), .nils, (.int .i64 0), (.str ⟨#[]⟩), (.int .i64 0), (.int .i64 0), .nils, .nils, .nils, .nils, .nils]))),
 ⟨none, .store 13 (.t 8) (.t 43), none⟩])
 (.seq
 (.reg [oo 44 (.faddr 0 (.t 8)),
 oo 45 (.load none (.t 44)),
 oo 46 (.bin .int .eql (.t 45) (.c (.int .i64 1))),
 mv 47 46,
 og 48 47 true (.move (.t 0)),
 og 49 47 true (.faddr 1 (.t 8)),
 og 50 47 true (.load none (.t 49)),
 og 51 47 true (.faddr 3 (.t 8)),
 og 52 47 true (.load none (.t 51)),
 og 53 47 true (.len .slice (.t 52)),
 og 54 47 true (.call 76 [(.t 48), (.t 50), (.t 53)]),
 og 55 47 true (.not (.t 54)),
 oo 56 (.pick (.t 47) (.t 55) (.c (.bool false))),
 mv 57 56,
 og 58 57 false (.move (.t 0)),
 og 59 57 false (.faddr 4 (.t 8)),
 og 60 57 false (.load (some 9) (.t 59)),
 og 61 57 false (.call 34 [(.t 58), (.t 60)]),
 og 62 57 false (.not (.t 61)),
 oo 63 (.pick (.t 57) (.c (.bool true)) (.t 62))])
 (.cond (.t 63)
 (.seq
 (.reg [oo 4 (.move (.c (.bool false)))])
 .ret)
 .skip))))
 (.reg [oo 64 (.bin .int .add (.t 40) (.c (.int .i64 1))),
 mv 40 64])))))))
 (.seq
 (.seq
 (.reg [oo 65 (.faddr 7 (.t 3)),
 oo 66 (.load none (.t 65)),
 oo 67 (.len .slice (.t 66)),
 oo 68 (.move (.c (.int .i64 0)))])
 (.block 4
 (.loop
 (.seq
 (.reg [oo 69 (.bin .int .lss (.t 68) (.t 67))])
 (.seq
 (.cond (.t 69)
 .skip
 (.exit 4))
 (.seq
 (.block 5
 (.seq
 (.reg [oo 70 (.iaddr 10 (.t 66) (.t 68)),
 oo 71 (.load (some 10) (.t 70)),
 oo 10 (.new 191 (.c (.agg [(.str ⟨#[]⟩), (.int .i64 0), (.str ⟨#[]⟩), (.int .i64 0), (.int .i64 0), .nils, .nils, .nils, .nils, .nils]))),
 ⟨none, .store 10 (.t 10) (.t 71), none⟩])
 (.seq
 (.reg [mv 72 0,
 oo 73 (.faddr 1 (.t 10)),
 oo 74 (.load (some 9) (.t 73)),
 oo 75 (.call 34 [(.t 72), (.t 74)]),
 oo 76 (.not (.t 75))])
 (.cond (.t 76)
 (.seq
 (.reg [oo 4 (.move (.c (.bool false)))])
 .ret)
 .skip))))
 (.reg [oo 77 (.bin .int .add (.t 68) (.c (.int .i64 1))),
 mv 68 77])))))))
 (.seq
 (.seq
 (.reg [oo 78 (.faddr 8 (.t 3)),
 oo 79 (.load none (.t 78)),
 oo 80 (.len .slice (.t 79)),
 oo 81 (.move (.c (.int .i64 0)))])
 (.block 6
 (.loop
 (.seq
 (.reg [oo 82 (.bin .int .lss (.t 81) (.t 80))])
 (.seq
 (.cond (.t 82)
 .skip
 (.exit 6))
 (.seq
 (.block 7
 (.seq
 (.reg [oo 83 (.iaddr 10 (.t 79) (.t 81)),
 oo 84 (.load (some 10) (.t 83)),
 oo 12 (.new 193 (.c (.agg [(.int .i64 0), (.int .i64 0), (.str ⟨#[]⟩), (.int .i64 0), (.int .i64 0), .nils, .nils, .nils, .nils, .nils]))),
 ⟨none, .store 10 (.t 12) (.t 84), none⟩])
 (.seq
 (.reg [mv 85 0,
 oo 86 (.faddr 1 (.t 12)),
 oo 87 (.load (some 9) (.t 86)),
 oo 88 (.call 34 [(.t 85), (.t 87)]),
 oo 89 (.not (.t 88))])
 (.cond (.t 89)
 (.seq
 (.reg [oo 4 (.move (.c (.bool false)))])
 .ret)
 .skip))))
 (.reg [oo 90 (.bin .int .add (.t 81) (.c (.int .i64 1))),
 mv 81 90])))))))
 (.seq
 (.reg [oo 4 (.move (.c (.bool true)))])
 .ret)))))))
theorem ent34 : EntOK Tryz.prog 34 ⟨91, v34, [.slot 4]⟩ := fun args σ K ha h =>
 enter (own := List.range 91) Tryz.func34 (by kernel_rfl) (by kernel_rfl) (by kernel_rfl) ha h
def v35 : ACode :=
(.seq
 (.reg [oo 2 (.new 28 (.t 0)),
 oo 4 (.move (.c (.bool false)))])
 (.seq
 (.reg [oo 10 (.load (some 9) (.t 2)),
 mv 11 1,
 oo 12 (.call 33 [(.t 10), (.t 11)]),
 oo 13 (.field 0 none (.t 12)),
 mv 5 13])
 (.seq
 (.seq
 (.reg [oo 14 (.faddr 0 (.t 2)),
 oo 15 (.load none (.t 14)),
 oo 16 (.bin .int .eql (.t 15) (.c (.int .i64 2))),
 mv 17 16,
 og 18 17 true (.faddr 1 (.t 2)),
 og 19 17 true (.load none (.t 18)),
 og 20 17 true (.move (.t 5)),
 og 21 17 true (.bin .str .eql (.t 19) (.t 20)),
 oo 22 (.pick (.t 17) (.t 21) (.c (.bool false)))])
 (.cond (.t 22)
 (.seq
 (.reg [oo 4 (.move (.c (.bool false)))])
 .ret)
 .skip))
 (.seq
 (.seq
 (.reg [oo 23 (.faddr 5 (.t 2)),
 oo 24 (.load none (.t 23)),
 oo 25 (.len .slice (.t 24)),
 oo 26 (.move (.c (.int .i64 0)))])
 (.block 0
 (.loop
 (.seq
 (.reg [oo 27 (.bin .int .lss (.t 26) (.t 25))])
 (.seq
 (.cond (.t 27)
 .skip
 (.exit 0))
 (.seq
 (.block 1
 (.seq
 (.reg [oo 28 (.iaddr 9 (.t 24) (.t 26)),
 oo 29 (.load (some 9) (.t 28)),
 oo 7 (.new 28 (.c (.agg [(.int .i64 0), (.str ⟨#[]⟩), (.int .i64 0), (.int .i64 0), .nils, .nils, .nils, .nils, .nils]))),
 ⟨none, .store 9 (.t 7) (.t 29), none⟩])
 (.seq
 (.reg [oo 30 (.load (some 9) (.t 7)),
 mv 31 1,
 oo 32 (.call 35 [(.t 30), (.t 31)]),
 oo 33 (.not (.t 32))])
 (.cond (.t 33)
 (.seq
 (.reg [oo 4 (.move (.c (.bool false)))])
 .ret)
 .skip))))
 (.reg [oo 34 (.bin .int .add (.t 26) (.c (.int .i64 1))),
 mv 26 34])))))))
 (.seq
 (.seq
 (.reg [oo 35 (.faddr 7 (.t 2)),
 oo 36 (.load none (.t 35)),
 oo 37 (.len .slice (.t 36)),
 oo 38 (.move (.c (.int .i64 0)))])
 (.block 2
 (.loop
 (.seq
 (.reg [oo 39 (.bin .int .lss (.t 38) (.t 37))])
 (.seq
 (.cond (.t 39)
 .skip
 (.exit 2))
 (.seq
 (.block 3
 (.seq
 (.reg [oo 40 (.iaddr 10 (.t 36) (.t 38)),
 oo 41 (.load (some 10) (.t 40)),
 oo 9 (.new 191 (.c (.agg [(.str ⟨#[]⟩), (.int .i64 0), (.str ⟨#[]⟩), (.int .i64 0), (.int .i64 0), .nils, .nils, .nils, .nils, .nils]))),
 ⟨none, .store 10 (.t 9) (.t 41), none⟩])
 (.seq
 (.reg [oo 42 (.faddr 1 (.t 9)),
 oo 43 (.load (some 9) (.t 42)),
 mv 44 1,
 oo 45 (.call 35 [(.t 43), (.t 44)]),
 oo 46 (.not (.t 45))])
 (.cond (.t 46)
 (.seq
 (.reg [oo 4 (.move (.c (.bool false)))])
 .ret)
 .skip))))
 (.reg [oo 47 (.bin .int .add (.t 38) (.c (.int .i64 1))),
 mv 38 47])))))))
 (.seq
 (.reg [oo 4 (.move (.c (.bool true)))])
 .ret))))))
theorem ent35 : EntOK Tryz.prog 35 ⟨48, v35, [.slot 4]⟩ := fun args σ K ha h =>
 enter (own := List.range 48) Tryz.func35 (by kernel_rfl) (by kernel_rfl) (by kernel_rfl) ha h
def v36 : ACode :=
(.seq
 (.reg [oo 5 (.new 28 (.t 1))])
 (.seq
 (.reg [oo 9 (.faddr 0 (.t 5)),
 oo 10 (.load none (.t 9))])
 (.block 0
 (.seq
 (.reg [oo 12 (.bin .int .eql (.t 10) (.c (.int .i64 1))),
 mv 11 12])
 (.cond (.t 11)
 (.reg [mv 13 0,
 mv 14 3,
 oo 15 (.bin .int .sub (.t 14) (.c (.int .i64 1))),
 mv 16 2,
 oo 17 (.faddr 1 (.t 5)),
 oo 18 (.load none (.t 17)),
 oo 19 (.call 77 [(.t 16), (.t 18)]),
 oo 20 (.bin .int .sub (.t 15) (.t 19)),
 oo 21 (.call 37 [(.t 13), (.c (.int .i64 1)), (.t 20)])])
 (.seq
 (.reg [oo 23 (.bin .int .eql (.t 10) (.c (.int .i64 2))),
 mv 22 23])
 (.cond (.t 22)
 (.reg [mv 24 0,
 mv 25 0,
 oo 26 (.faddr 1 (.t 5)),
 oo 27 (.load none (.t 26)),
 oo 28 (.call 78 [(.t 25), (.t 27)]),
 oo 29 (.call 37 [(.t 24), (.c (.int .i64 2)), (.t 28)])])
 (.seq
 (.reg [oo 31 (.bin .int .eql (.t 10) (.c (.int .i64 4))),
 mv 30 31])
 (.cond (.t 30)
 (.reg [mv 32 0,
 mv 33 0,
 oo 34 (.nilck (.t 33)),
 oo 35 (.faddr 0 (.t 34)),
 oo 36 (.load none (.t 35)),
 oo 37 (.nilck (.t 36)),
 oo 38 (.faddr 0 (.t 37)),
 oo 39 (.load none (.t 38)),
 oo 40 (.len .map (.t 39)),
 mv 41 0,
 oo 42 (.nilck (.t 41)),
 oo 43 (.faddr 0 (.t 42)),
 oo 44 (.load none (.t 43)),
 oo 45 (.nilck (.t 44)),
 oo 46 (.faddr 1 (.t 45)),
 oo 47 (.load none (.t 46)),
 oo 48 (.faddr 1 (.t 5)),
 oo 49 (.load none (.t 48)),
 oo 50 (.lookup .str (.int .i64 0) false (.t 47) (.t 49)),
 oo 51 (.bin .int .add (.t 40) (.t 50)),
 oo 52 (.call 37 [(.t 32), (.c (.int .i64 2)), (.t 51)])])
 (.seq
 (.reg [oo 54 (.bin .int .eql (.t 10) (.c (.int .i64 3))),
 mv 53 54])
 (.cond (.t 53)
 (.reg [mv 55 0,
 oo 56 (.faddr 2 (.t 5)),
 oo 57 (.load none (.t 56)),
 oo 58 (.call 79 [(.t 55), (.c (.int .i64 3)), (.t 57)])])
 (.seq
 (.reg [oo 60 (.bin .int .eql (.t 10) (.c (.int .i64 5))),
 mv 59 60])
 (.cond (.t 59)
 (.seq
 (.reg [mv 61 0,
 oo 62 (.faddr 5 (.t 5)),
 oo 63 (.load none (.t 62)),
 oo 64 (.iaddr 9 (.t 63) (.c (.int .i64 1))),
 oo 65 (.load (some 9) (.t 64)),
 mv 66 2,
 mv 67 3,
 oo 68 (.call 36 [(.t 61), (.t 65), (.t 66), (.t 67)])])
 (.seq
 (.reg [mv 69 0,
 oo 70 (.faddr 5 (.t 5)),
 oo 71 (.load none (.t 70)),
 oo 72 (.iaddr 9 (.t 71) (.c (.int .i64 0))),
 oo 73 (.load (some 9) (.t 72)),
 mv 74 2,
 mv 75 3,
 oo 76 (.bin .int .add (.t 75) (.c (.int .i64 1))),
 oo 77 (.call 36 [(.t 69), (.t 73), (.t 74), (.t 76)])])
 (.reg [mv 78 0,
 oo 79 (.call 37 [(.t 78), (.c (.int .i64 4)), (.c (.int .i64 0))])])))
 (.seq
 (.reg [oo 81 (.bin .int .eql (.t 10) (.c (.int .i64 9))),
 mv 80 81])
 (.cond (.t 80)
 (.seq
 (.reg [mv 82 0,
 oo 83 (.faddr 5 (.t 5)),
 oo 84 (.load none (.t 83)),
 oo 85 (.iaddr 9 (.t 84) (.c (.int .i64 1))),
 oo 86 (.load (some 9) (.t 85)),
 mv 87 2,
 mv 88 3,
 oo 89 (.call 36 [(.t 82), (.t 86), (.t 87), (.t 88)])])
 (.seq
 (.reg [mv 90 0,
 oo 91 (.faddr 5 (.t 5)),
 oo 92 (.load none (.t 91)),
 oo 93 (.iaddr 9 (.t 92) (.c (.int .i64 0))),
 oo 94 (.load (some 9) (.t 93)),
 mv 95 2,
 mv 96 3,
 oo 97 (.bin .int .add (.t 96) (.c (.int .i64 1))),
 oo 98 (.call 36 [(.t 90), (.t 94), (.t 95), (.t 97)])])
 (.seq
 (.reg [mv 99 0,
 mv 100 0,
 oo 101 (.faddr 2 (.t 5)),
 oo 102 (.load none (.t 101)),
 oo 103 (.call 80 [(.t 100), (.t 102)]),
 oo 104 (.call 37 [(.t 99), (.c (.int .i64 2)), (.t 103)])])
 (.seq
 (.reg [mv 105 0,
 oo 106 (.call 37 [(.t 105), (.c (.int .i64 4)), (.c (.int .i64 0))])])
 (.reg [mv 107 0,
 oo 108 (.call 37 [(.t 107), (.c (.int .i64 4)), (.c (.int .i64 0))])])))))
 (.seq
 (.reg [oo 110 (.bin .int .eql (.t 10) (.c (.int .i64 7))),
 mv 109 110])
 (.cond (.t 109)
 (.seq
 (.reg [oo 111 (.faddr 7 (.t 5)),
 oo 112 (.load none (.t 111)),
 oo 113 (.len .slice (.t 112)),
 mv 8 113])
 (.seq
 (.reg [mv 114 0,
 oo 115 (.faddr 7 (.t 5)),
 oo 116 (.load none (.t 115)),
 mv 117 2,
 mv 118 3,
 oo 119 (.call 81 [(.t 114), (.t 116), (.t 117), (.t 118)]),
 mv 2 119])
 (.seq
 (.reg [mv 120 0,
 oo 121 (.faddr 5 (.t 5)),
 oo 122 (.load none (.t 121)),
 oo 123 (.iaddr 9 (.t 122) (.c (.int .i64 0))),
 oo 124 (.load (some 9) (.t 123)),
 mv 125 2,
 mv 126 3,
 mv 127 8,
 oo 128 (.bin .int .add (.t 126) (.t 127)),
 oo 129 (.call 36 [(.t 120), (.t 124), (.t 125), (.t 128)])])
 (.reg [mv 130 0,
 mv 131 8,
 oo 132 (.call 37 [(.t 130), (.c (.int .i64 7)), (.t 131)])]))))
 .skip)))))))))))))))))
theorem ent36 : EntOK Tryz.prog 36 ⟨133, v36, []⟩ := fun args σ K ha h =>
 enter (own := List.range 133) Tryz.func36 (by kernel_rfl) (by kernel_rfl) (by kernel_rfl) ha h
def v37 : ACode :=
(.seq
 (.reg [oo 6 (.move (.c (.int .i64 0)))])
 (.seq
 (.reg [mv 7 0,
 mv 8 0,
 oo 9 (.nilck (.t 8)),
 oo 10 (.faddr 1 (.t 9)),
 oo 11 (.load none (.t 10)),
 mv 12 1,
 mv 13 2,
 oo 14 (.build [(.int .i64 0), (.int .i64 0), (.int .i64 0), .nils] [(0, 1, (.t 12)), (1, 1, (.t 13))]),
 oo 15 (.lit true 122 4 [(.t 14)]),
 oo 16 (.append 122 4 48 (.t 11) (.t 15)),
 oo 17 (.nilck (.t 7)),
 oo 18 (.faddr 1 (.t 17)),
 ⟨none, .store 1 (.t 18) (.t 16), none⟩])
 (.seq
 (.reg [mv 19 0,
 oo 20 (.nilck (.t 19)),
 oo 21 (.faddr 1 (.t 20)),
 oo 22 (.load none (.t 21)),
 oo 23 (.len .slice (.t 22)),
 oo 24 (.bin .int .sub (.t 23) (.c (.int .i64 1))),
 mv 6 24])
 .ret)))
theorem ent37 : EntOK Tryz.prog 37 ⟨25, v37, [.slot 6]⟩ := fun args σ K ha h =>
 enter (own := List.range 25) Tryz.func37 (by kernel_rfl) (by kernel_rfl) (by kernel_rfl) ha h
def v38 : ACode :=
(.seq
 (.reg [oo 2 (.move (.c (.bool false)))])
 (.seq
 (.reg [mv 3 0,
 oo 4 (.nileq .ptr true (.t 3) (.c .nilp)),
 mv 5 4,
 og 6 5 true (.move (.t 0)),
 og 7 5 true (.nilck (.t 6)),
 og 8 5 true (.faddr 0 (.t 7)),
 og 9 5 true (.load none (.t 8)),
 og 10 5 true (.bin .int .gtr (.t 9) (.c (.int .i64 0))),
 oo 11 (.pick (.t 5) (.t 10) (.c (.bool false))),
 mv 2 11])
 .ret))
theorem ent38 : EntOK Tryz.prog 38 ⟨12, v38, [.slot 2]⟩ := fun args σ K ha h =>
 enter (own := List.range 12) Tryz.func38 (by kernel_rfl) (by kernel_rfl) (by kernel_rfl) ha h
def v39 : ACode :=
(.seq
 (.reg [oo 4 (.move (.c (.bool false)))])
 (.seq
 (.seq
 (.reg [mv 7 1,
 oo 8 (.len .slice (.t 7)),
 oo 9 (.move (.c (.int .i64 0)))])
 (.block 0
 (.loop
 (.seq
 (.reg [oo 10 (.bin .int .lss (.t 9) (.t 8))])
 (.seq
 (.cond (.t 10)
 .skip
 (.exit 0))
 (.seq
 (.block 1
 (.seq
 (.reg [oo 11 (.iaddr 1 (.t 7) (.t 9)),
 oo 12 (.load none (.t 11)),
 mv 6 12])
 (.seq
 (.reg [mv 13 0,
 mv 14 6,
 oo 15 (.call 82 [(.t 13), (.t 14)]),
 oo 16 (.not (.t 15))])
 (.cond (.t 16)
 (.seq
 (.reg [oo 4 (.move (.c (.bool false)))])
 .ret)
 .skip))))
 (.reg [oo 17 (.bin .int .add (.t 9) (.c (.int .i64 1))),
 mv 9 17])))))))
 (.seq
 (.reg [oo 4 (.move (.c (.bool true)))])
 .ret)))
theorem ent39 : EntOK Tryz.prog 39 ⟨18, v39, [.slot 4]⟩ := fun args σ K ha h =>
 enter (own := List.range 18) Tryz.func39 (by kernel_rfl) (by kernel_rfl) (by kernel_rfl) ha h
def v40 : ACode :=
(.seq
 (.reg [oo 1 (.new 77 (.t 0)),
 oo 2 (.new 77 (.c (.agg [(.int .i64 0), (.int .i64 0), .nils])))])
 (.seq
 (.reg [oo 3 (.move (.c .nils))])
 (.seq
 (.reg [mv 4 3,
 oo 5 (.faddr 2 (.t 1)),
 oo 6 (.load none (.t 5)),
 oo 7 (.append 3 1 8 (.t 4) (.t 6)),
 mv 3 7])
 (.seq
 (.reg [mv 8 3,
 oo 9 (.faddr 2 (.t 1)),
 ⟨none, .store 1 (.t 9) (.t 8), none⟩])
 (.seq
 (.reg [oo 10 (.load (some 3) (.t 1)),
 ⟨none, .store 3 (.t 2) (.t 10), none⟩])
 .ret)))))
theorem ent40 : EntOK Tryz.prog 40 ⟨11, v40, [.cell 2 (some 3)]⟩ := fun args σ K ha h =>
 enter (own := List.range 11) Tryz.func40 (by kernel_rfl) (by kernel_rfl) (by kernel_rfl) ha h
def v41 : ACode :=
(.seq
 (.reg [oo 4 (.move (.c (.int .i64 0)))])
 (.seq
 (.reg [mv 5 0,
 oo 6 (.nilck (.t 5)),
 oo 7 (.faddr 12 (.t 6)),
 oo 8 (.load none (.t 7)),
 mv 9 0,
 oo 10 (.nilck (.t 9)),
 oo 11 (.faddr 12 (.t 10)),
 oo 12 (.load none (.t 11)),
 oo 13 (.len .slice (.t 12)),
 oo 14 (.bin .int .sub (.t 13) (.c (.int .i64 1))),
 mv 15 1,
 oo 16 (.bin .int .sub (.t 14) (.t 15)),
 oo 17 (.iaddr 1 (.t 8) (.t 16)),
 oo 18 (.load none (.t 17)),
 mv 4 18])
 .ret))
theorem ent41 : EntOK Tryz.prog 41 ⟨19, v41, [.slot 4]⟩ := fun args σ K ha h =>
 enter (own := List.range 19) Tryz.func41 (by kernel_rfl) (by kernel_rfl) (by kernel_rfl) ha h
def v42 : ACode :=
(.seq
 (.reg [oo 4 (.new 77 (.c (.agg [(.int .i64 0), (.int .i64 0), .nils])))])
 (.seq
 (.reg [mv 8 0,
 oo 9 (.nilck (.t 8)),
 oo 10 (.faddr 5 (.t 9)),
 oo 11 (.load none (.t 10)),
 mv 12 1,
 oo 13 (.call 83 [(.t 11), (.t 12)]),
 mv 7 13,
 oo 14 (.extract (.t 7) 0),
 oo 15 (.extract (.t 7) 1),
 oo 5 (.new 77 (.c (.agg [(.int .i64 0), (.int .i64 0), .nils]))),
 ⟨none, .store 3 (.t 5) (.t 14), none⟩,
 mv 6 15])
 (.seq
 (.reg [oo 16 (.load (some 3) (.t 5)),
 ⟨none, .store 3 (.t 4) (.t 16), none⟩])
 .ret)))
theorem ent42 : EntOK Tryz.prog 42 ⟨17, v42, [.cell 4 (some 3)]⟩ := fun args σ K ha h =>
 enter (own := List.range 17) Tryz.func42 (by kernel_rfl) (by kernel_rfl) (by kernel_rfl) ha h
def v43 : ACode :=
(.seq
 (.reg [mv 4 0,
 oo 5 (.call 84 [(.t 4)])])
 (.cond (.t 5)
 (.reg [mv 6 0,
 mv 7 0,
 oo 8 (.nilck (.t 7)),
 oo 9 (.faddr 12 (.t 8)),
 oo 10 (.load none (.t 9)),
 mv 11 1,
 oo 12 (.lit true 3 1 [(.t 11)]),
 oo 13 (.append 3 1 8 (.t 10) (.t 12)),
 oo 14 (.nilck (.t 6)),
 oo 15 (.faddr 12 (.t 14)),
 ⟨none, .store 1 (.t 15) (.t 13), none⟩])
 .skip))
theorem ent43 : EntOK Tryz.prog 43 ⟨16, v43, []⟩ := fun args σ K ha h =>
 enter (own := List.range 16) Tryz.func43 (by kernel_rfl) (by kernel_rfl) (by kernel_rfl) ha h
def v44 : ACode :=
(.seq
 (.reg [mv 6 0,
 oo 7 (.nilck (.t 6)),
 oo 8 (.faddr 13 (.t 7)),
 oo 9 (.load none (.t 8)),
 oo 10 (.len .slice (.t 9)),
 oo 11 (.bin .int .sub (.t 10) (.c (.int .i64 1))),
 mv 4 11])
 (.seq
 (.reg [mv 12 0,
 oo 13 (.nilck (.t 12)),
 oo 14 (.faddr 13 (.t 13)),
 oo 15 (.load none (.t 14)),
 mv 16 4,
 oo 17 (.iaddr 3 (.t 15) (.t 16)),
 oo 18 (.load (some 3) (.t 17)),
 oo 5 (.new 204 (.c (.agg [(.int .i64 0), (.int .i64 0), (.int .i64 0)]))),
 ⟨none, .store 3 (.t 5) (.t 18), none⟩])
 (.seq
 (.reg [mv 19 0,
 mv 20 0,
 oo 21 (.nilck (.t 20)),
 oo 22 (.faddr 13 (.t 21)),
 oo 23 (.load none (.t 22)),
 mv 24 4,
 oo 25 (.cut .slice 3 (.t 23) none (some (.t 24))),
 oo 26 (.nilck (.t 19)),
 oo 27 (.faddr 13 (.t 26)),
 ⟨none, .store 1 (.t 27) (.t 25), none⟩])
 (.seq
 (.draw [] [([⟨(some 28), .move (.t 0), none⟩], []),
 ([⟨(some 29), .move (.t 0), none⟩], []),
 ([⟨(some 30), .nilck (.t 29), none⟩], []),
 ([⟨(some 31), .faddr 12 (.t 30), none⟩], []),
 ([⟨(some 32), .load none (.t 31), none⟩], []),
 ([⟨(some 33), .move (.t 0), none⟩], []),
 ([⟨(some 34), .nilck (.t 33), none⟩], []),
 ([⟨(some 35), .faddr 16 (.t 34), none⟩], []),
 ([⟨(some 36), .load none (.t 35), none⟩], []),
 ([⟨(some 37), .cut .slice 1 (.t 32) none (some (.t 36)), none⟩], []),
 ([⟨(some 38), .move (.t 1), none⟩], []),
 ([⟨(some 39), .lit true 3 1 [(.t 38)], none⟩], [⟨(some 31), .faddr 12 (.t 30), none⟩, ⟨(some 32), .load none (.t 31), none⟩, ⟨(some 35), .faddr 16 (.t 34), none⟩, ⟨(some 36), .load none (.t 35), none⟩, ⟨(some 37), .cut .slice 1 (.t 32) none (some (.t 36)), none⟩]),
 ([⟨(some 40), .append 3 1 8 (.t 37) (.t 39), none⟩], []),
 ([⟨(some 41), .nilck (.t 28), none⟩], []),
 ([⟨(some 42), .faddr 12 (.t 41), none⟩], []),
 ([⟨none, .store 1 (.t 42) (.t 40), none⟩], [])])
 (.seq
 (.draw [] [([⟨(some 43), .move (.t 0), none⟩], []),
 ([⟨(some 44), .move (.t 0), none⟩], []),
 ([⟨(some 45), .move (.t 0), none⟩], []),
 ([⟨(some 46), .faddr 0 (.t 5), none⟩], []),
 ([⟨(some 47), .load none (.t 46), none⟩], []),
 ([⟨(some 48), .faddr 1 (.t 5), none⟩], []),
 ([⟨(some 49), .load none (.t 48), none⟩], []),
 ([⟨(some 50), .faddr 2 (.t 5), none⟩], []),
 ([⟨(some 51), .load none (.t 50), none⟩], []),
 ([⟨(some 52), .nilck (.t 43), none⟩], []),
 ([⟨(some 53), .faddr 14 (.t 52), none⟩], []),
 ([⟨none, .store 1 (.t 53) (.t 47), none⟩], [⟨(some 48), .faddr 1 (.t 5), none⟩, ⟨(some 49), .load none (.t 48), none⟩, ⟨(some 50), .faddr 2 (.t 5), none⟩, ⟨(some 51), .load none (.t 50), none⟩]),
 ([⟨(some 54), .nilck (.t 44), none⟩], []),
 ([⟨(some 55), .faddr 15 (.t 54), none⟩], []),
 ([⟨none, .store 1 (.t 55) (.t 49), none⟩], [⟨(some 50), .faddr 2 (.t 5), none⟩, ⟨(some 51), .load none (.t 50), none⟩]),
 ([⟨(some 56), .nilck (.t 45), none⟩], []),
 ([⟨(some 57), .faddr 16 (.t 56), none⟩], []),
 ([⟨none, .store 1 (.t 57) (.t 51), none⟩], [])])
 (.reg [mv 58 0,
 oo 59 (.nilck (.t 58)),
 oo 60 (.faddr 17 (.t 59)),
 ⟨none, .store 1 (.t 60) (.c (.bool false)), none⟩]))))))
theorem ent44 : EntOK Tryz.prog 44 ⟨61, v44, []⟩ := fun args σ K ha h =>
 enter (own := List.range 61) Tryz.func44 (by kernel_rfl) (by kernel_rfl) (by kernel_rfl) ha h
def v45 : ACode :=
(.seq
 (.reg [mv 8 0,
 oo 9 (.nilck (.t 8)),
 oo 10 (.faddr 0 (.t 9)),
 oo 11 (.load none (.t 10)),
 oo 12 (.nilck (.t 11)),
 oo 13 (.faddr 2 (.t 12)),
 oo 14 (.load none (.t 13)),
 mv 15 1,
 oo 16 (.iaddr 4 (.t 14) (.t 15)),
 oo 17 (.faddr 1 (.t 16)),
 oo 18 (.load none (.t 17)),
 mv 4 18])
 (.seq
 (.reg [mv 19 0,
 oo 20 (.nilck (.t 19)),
 oo 21 (.faddr 12 (.t 20)),
 oo 22 (.load none (.t 21)),
 oo 23 (.len .slice (.t 22)),
 oo 24 (.bin .int .sub (.t 23) (.c (.int .i64 1))),
 mv 5 24])
 (.seq
 (.seq
 (.reg [mv 25 5,
 mv 26 0,
 oo 27 (.nilck (.t 26)),
 oo 28 (.faddr 16 (.t 27)),
 oo 29 (.load none (.t 28)),
 oo 30 (.bin .int .sub (.t 25) (.t 29)),
 mv 31 4,
 oo 32 (.bin .int .lss (.t 30) (.t 31))])
 (.cond (.t 32)
 (.seq
 (.reg [mv 33 0,
 mv 34 0,
 oo 35 (.nilck (.t 34)),
 oo 36 (.faddr 12 (.t 35)),
 oo 37 (.load none (.t 36)),
 mv 38 0,
 oo 39 (.nilck (.t 38)),
 oo 40 (.faddr 16 (.t 39)),
 oo 41 (.load none (.t 40)),
 oo 42 (.iaddr 1 (.t 37) (.t 41)),
 oo 43 (.load none (.t 42)),
 oo 44 (.call 44 [(.t 33), (.t 43)])])
 .ret)
 .skip))
 (.seq
 (.reg [mv 45 0,
 oo 46 (.nilck (.t 45)),
 oo 47 (.faddr 12 (.t 46)),
 oo 48 (.load none (.t 47)),
 mv 49 5,
 mv 50 4,
 oo 51 (.bin .int .sub (.t 49) (.t 50)),
 oo 52 (.iaddr 1 (.t 48) (.t 51)),
 oo 53 (.load none (.t 52)),
 mv 6 53])
 (.seq
 (.seq
 (.reg [oo 7 (.move (.c (.int .i64 0)))])
 (.block 0
 (.loop
 (.seq
 (.seq
 (.reg [mv 54 7,
 mv 55 4,
 oo 56 (.bin .int .lss (.t 54) (.t 55))])
 (.cond (.t 56)
 .skip
 (.exit 0)))
 (.seq
 (.block 1
 (.draw [] [([⟨(some 59), .move (.t 0), none⟩], []),
 ([⟨(some 60), .nilck (.t 59), none⟩], []),
 ([⟨(some 61), .faddr 12 (.t 60), none⟩], []),
 ([⟨(some 62), .load none (.t 61), none⟩], []),
 ([⟨(some 63), .move (.t 5), none⟩], []),
 ([⟨(some 64), .move (.t 7), none⟩], []),
 ([⟨(some 65), .bin .int .sub (.t 63) (.t 64), none⟩], []),
 ([⟨(some 66), .move (.t 0), none⟩], []),
 ([⟨(some 67), .move (.t 0), none⟩], []),
 ([⟨(some 68), .nilck (.t 67), none⟩], []),
 ([⟨(some 69), .faddr 12 (.t 68), none⟩], []),
 ([⟨(some 70), .load none (.t 69), none⟩], []),
 ([⟨(some 71), .move (.t 5), none⟩], []),
 ([⟨(some 72), .move (.t 7), none⟩], []),
 ([⟨(some 73), .bin .int .sub (.t 71) (.t 72), none⟩], []),
 ([⟨(some 74), .bin .int .sub (.t 73) (.c (.int .i64 1)), none⟩], []),
 ([⟨(some 75), .iaddr 1 (.t 70) (.t 74), none⟩], []),
 ([⟨(some 76), .load none (.t 75), none⟩], []),
 ([⟨(some 77), .call 42 [(.t 66), (.t 76)], none⟩], [⟨(some 61), .faddr 12 (.t 60), none⟩, ⟨(some 62), .load none (.t 61), none⟩]),
 ([⟨(some 78), .field 2 none (.t 77), none⟩], []),
 ([⟨(some 79), .iaddr 1 (.t 78) (.c (.int .i64 1)), none⟩], []),
 ([⟨(some 80), .load none (.t 79), none⟩], []),
 ([⟨(some 81), .iaddr 1 (.t 62) (.t 65), none⟩], []),
 ([⟨none, .store 1 (.t 81) (.t 80), none⟩], [])]))
 (.reg [mv 57 7,
 oo 58 (.bin .int .add (.t 57) (.c (.int .i64 1))),
 mv 7 58]))))))
 (.seq
 (.reg [mv 82 0,
 oo 83 (.nilck (.t 82)),
 oo 84 (.faddr 5 (.t 83)),
 oo 85 (.load none (.t 84)),
 mv 86 6,
 oo 87 (.build [(.int .i64 0), (.int .i64 0), .nils] [(0, 1, (.c (.int .i64 6)))]),
 oo 88 (.call 85 [(.t 85), (.t 86), (.t 87)])])
 (.seq
 (.reg [mv 89 0,
 mv 90 0,
 mv 91 1,
 oo 92 (.nilck (.t 89)),
 oo 93 (.faddr 14 (.t 92)),
 ⟨none, .store 1 (.t 93) (.t 91), none⟩,
 oo 94 (.nilck (.t 90)),
 oo 95 (.faddr 15 (.t 94)),
 ⟨none, .store 1 (.t 95) (.c (.int .i64 0)), none⟩])
 (.reg [mv 96 0,
 oo 97 (.nilck (.t 96)),
 oo 98 (.faddr 17 (.t 97)),
 ⟨none, .store 1 (.t 98) (.c (.bool false)), none⟩]))))))))
theorem ent45 : EntOK Tryz.prog 45 ⟨99, v45, []⟩ := fun args σ K ha h =>
 enter (own := List.range 99) Tryz.func45 (by kernel_rfl) (by kernel_rfl) (by kernel_rfl) ha h
def v46 : ACode :=
(.seq
 (.reg [oo 2 (.new 122 (.c (.agg [(.int .i64 0), (.int .i64 0), (.int .i64 0), .nils])))])
 (.seq
 (.reg [mv 5 0,
 oo 6 (.nilck (.t 5)),
 oo 7 (.faddr 1 (.t 6)),
 oo 8 (.faddr 3 (.t 7)),
 oo 9 (.load none (.t 8)),
 mv 3 9])
 (.seq
 (.seq
 (.reg [mv 10 0,
 oo 11 (.nilck (.t 10)),
 oo 12 (.faddr 14 (.t 11)),
 oo 13 (.load none (.t 12)),
 oo 14 (.bin .int .geq (.t 13) (.c (.int .i64 0)))])
 (.cond (.t 14)
 (.reg [mv 15 0,
 oo 16 (.nilck (.t 15)),
 oo 17 (.faddr 0 (.t 16)),
 oo 18 (.load none (.t 17)),
 oo 19 (.nilck (.t 18)),
 oo 20 (.faddr 2 (.t 19)),
 oo 21 (.load none (.t 20)),
 mv 22 0,
 oo 23 (.nilck (.t 22)),
 oo 24 (.faddr 14 (.t 23)),
 oo 25 (.load none (.t 24)),
 oo 26 (.iaddr 4 (.t 21) (.t 25)),
 oo 27 (.faddr 3 (.t 26)),
 oo 28 (.load none (.t 27)),
 mv 3 28])
 .skip))
 (.seq
 (.reg [mv 29 3,
 mv 30 0,
 oo 31 (.nilck (.t 30)),
 oo 32 (.faddr 15 (.t 31)),
 oo 33 (.load none (.t 32)),
 oo 34 (.iaddr 4 (.t 29) (.t 33)),
 oo 35 (.load (some 4) (.t 34)),
 oo 4 (.new 122 (.c (.agg [(.int .i64 0), (.int .i64 0), (.int .i64 0), .nils]))),
 ⟨none, .store 4 (.t 4) (.t 35), none⟩])
 (.seq
 (.reg [mv 36 0,
 oo 37 (.nilck (.t 36)),
 oo 38 (.faddr 15 (.t 37)),
 oo 39 (.load none (.t 38)),
 oo 40 (.bin .int .add (.t 39) (.c (.int .i64 1))),
 oo 41 (.nilck (.t 36)),
 oo 42 (.faddr 15 (.t 41)),
 ⟨none, .store 1 (.t 42) (.t 40), none⟩])
 (.seq
 (.reg [oo 43 (.load (some 4) (.t 4)),
 ⟨none, .store 4 (.t 2) (.t 43), none⟩])
 .ret))))))
theorem ent46 : EntOK Tryz.prog 46 ⟨44, v46, [.cell 2 (some 4)]⟩ := fun args σ K ha h =>
 enter (own := List.range 44) Tryz.func46 (by kernel_rfl) (by kernel_rfl) (by kernel_rfl) ha h
def v47 : ACode :=
(.seq
 (.reg [oo 4 (.new 77 (.t 1))])
 (.seq
 (.reg [mv 9 0,
 oo 10 (.load (some 3) (.t 4)),
 oo 11 (.call 86 [(.t 9), (.t 10)]),
 mv 8 11,
 oo 12 (.extract (.t 8) 0),
 oo 13 (.extract (.t 8) 1),
 mv 6 12,
 mv 7 13])
 (.seq
 (.seq
 (.reg [mv 14 7,
 oo 15 (.not (.t 14))])
 (.cond (.t 15)
 .ret
 .skip))
 (.seq
 (.reg [mv 16 0,
 mv 17 2,
 oo 18 (.call 49 [(.t 16), (.t 17)])])
 (.reg [mv 19 0,
 mv 20 6,
 oo 21 (.call 43 [(.t 19), (.t 20)])])))))
theorem ent47 : EntOK Tryz.prog 47 ⟨22, v47, []⟩ := fun args σ K ha h =>
 enter (own := List.range 22) Tryz.func47 (by kernel_rfl) (by kernel_rfl) (by kernel_rfl) ha h
def v48 : ACode :=
(.seq
 (.reg [mv 6 0,
 mv 7 0,
 oo 8 (.call 41 [(.t 7), (.c (.int .i64 0))]),
 oo 9 (.call 87 [(.t 6), (.t 8)]),
 mv 4 9])
 (.seq
 (.reg [mv 10 0,
 oo 11 (.call 49 [(.t 10), (.c (.int .i64 1))])])
 (.seq
 (.reg [mv 12 0,
 mv 13 1,
 oo 14 (.call 41 [(.t 12), (.t 13)]),
 mv 5 14])
 (.seq
 (.reg [mv 15 5,
 mv 16 4,
 oo 17 (.bin .int .neq (.t 15) (.t 16))])
 (.cond (.t 17)
 (.reg [mv 18 0,
 oo 19 (.nilck (.t 18)),
 oo 20 (.faddr 5 (.t 19)),
 oo 21 (.load none (.t 20)),
 mv 22 5,
 mv 23 4,
 oo 24 (.lit true 3 1 [(.t 23)]),
 oo 25 (.build [(.int .i64 0), (.int .i64 0), .nils] [(0, 1, (.c (.int .i64 5))), (2, 1, (.t 24))]),
 oo 26 (.call 85 [(.t 21), (.t 22), (.t 25)])])
 .skip)))))
theorem ent48 : EntOK Tryz.prog 48 ⟨27, v48, []⟩ := fun args σ K ha h =>
 enter (own := List.range 27) Tryz.func48 (by kernel_rfl) (by kernel_rfl) (by kernel_rfl) ha h
def v49 : ACode :=
(.reg [mv 4 0,
 mv 5 0,
 oo 6 (.nilck (.t 5)),
 oo 7 (.faddr 12 (.t 6)),
 oo 8 (.load none (.t 7)),
 mv 9 0,
 oo 10 (.nilck (.t 9)),
 oo 11 (.faddr 12 (.t 10)),
 oo 12 (.load none (.t 11)),
 oo 13 (.len .slice (.t 12)),
 mv 14 1,
 oo 15 (.bin .int .sub (.t 13) (.t 14)),
 oo 16 (.cut .slice 1 (.t 8) none (some (.t 15))),
 oo 17 (.nilck (.t 4)),
 oo 18 (.faddr 12 (.t 17)),
 ⟨none, .store 1 (.t 18) (.t 16), none⟩])
theorem ent49 : EntOK Tryz.prog 49 ⟨19, v49, []⟩ := fun args σ K ha h =>
 enter (own := List.range 19) Tryz.func49 (by kernel_rfl) (by kernel_rfl) (by kernel_rfl) ha h
def v50 : ACode :=
(.seq
 (.seq
 (.reg [mv 2 0,
 oo 3 (.call 84 [(.t 2)]),
 oo 4 (.not (.t 3))])
 (.cond (.t 4)
 .ret
 .skip))
 (.seq
 (.draw [] [([⟨(some 5), .move (.t 0), none⟩], []),
 ([⟨(some 6), .move (.t 0), none⟩], []),
 ([⟨(some 7), .nilck (.t 6), none⟩], []),
 ([⟨(some 8), .faddr 13 (.t 7), none⟩], []),
 ([⟨(some 9), .load none (.t 8), none⟩], []),
 ([⟨(some 10), .move (.t 0), none⟩], []),
 ([⟨(some 11), .nilck (.t 10), none⟩], []),
 ([⟨(some 12), .faddr 14 (.t 11), none⟩], []),
 ([⟨(some 13), .load none (.t 12), none⟩], []),
 ([⟨(some 14), .move (.t 0), none⟩], []),
 ([⟨(some 15), .nilck (.t 14), none⟩], []),
 ([⟨(some 16), .faddr 15 (.t 15), none⟩], []),
 ([⟨(some 17), .load none (.t 16), none⟩], []),
 ([⟨(some 18), .move (.t 0), none⟩], []),
 ([⟨(some 19), .nilck (.t 18), none⟩], []),
 ([⟨(some 20), .faddr 16 (.t 19), none⟩], []),
 ([⟨(some 21), .load none (.t 20), none⟩], []),
 ([⟨(some 22), .build [(.int .i64 0), (.int .i64 0), (.int .i64 0)] [(0, 1, (.t 13)), (1, 1, (.t 17)), (2, 1, (.t 21))], none⟩], []),
 ([⟨(some 23), .lit true 204 3 [(.t 22)], none⟩], [⟨(some 8), .faddr 13 (.t 7), none⟩, ⟨(some 9), .load none (.t 8), none⟩]),
 ([⟨(some 24), .append 204 3 24 (.t 9) (.t 23), none⟩], []),
 ([⟨(some 25), .nilck (.t 5), none⟩], []),
 ([⟨(some 26), .faddr 13 (.t 25), none⟩], []),
 ([⟨none, .store 1 (.t 26) (.t 24), none⟩], [])])
 (.seq
 (.reg [mv 27 0,
 mv 28 0,
 oo 29 (.nilck (.t 28)),
 oo 30 (.faddr 12 (.t 29)),
 oo 31 (.load none (.t 30)),
 oo 32 (.len .slice (.t 31)),
 oo 33 (.bin .int .sub (.t 32) (.c (.int .i64 1))),
 oo 34 (.nilck (.t 27)),
 oo 35 (.faddr 16 (.t 34)),
 ⟨none, .store 1 (.t 35) (.t 33), none⟩])
 (.reg [mv 36 0,
 oo 37 (.nilck (.t 36)),
 oo 38 (.faddr 17 (.t 37)),
 ⟨none, .store 1 (.t 38) (.c (.bool true)), none⟩]))))
theorem ent50 : EntOK Tryz.prog 50 ⟨39, v50, []⟩ := fun args σ K ha h =>
 enter (own := List.range 39) Tryz.func50 (by kernel_rfl) (by kernel_rfl) (by kernel_rfl) ha h
def v52 : ACode :=
(.seq
 (.reg [oo 3 (.new 122 (.t 1))])
 (.seq
 (.reg [oo 4 (.faddr 0 (.t 3)),
 oo 5 (.load none (.t 4))])
 (.block 0
 (.seq
 (.reg [oo 9 (.bin .int .eql (.t 5) (.c (.int .i64 12))),
 mv 8 9])
 (.cond (.t 8)
 (.reg [mv 10 0,
 oo 11 (.faddr 1 (.t 3)),
 oo 12 (.load none (.t 11)),
 oo 13 (.call 88 [(.t 10), (.t 12)])])
 (.seq
 (.reg [oo 15 (.bin .int .eql (.t 5) (.c (.int .i64 13))),
 mv 14 15])
 (.cond (.t 14)
 (.reg [mv 16 0,
 oo 17 (.load (some 4) (.t 3)),
 oo 18 (.call 89 [(.t 16), (.t 17)])])
 (.seq
 (.reg [oo 20 (.bin .int .eql (.t 5) (.c (.int .i64 14))),
 mv 19 20])
 (.cond (.t 19)
 (.reg [mv 21 0,
 oo 22 (.load (some 4) (.t 3)),
 mv 23 0,
 oo 24 (.nilck (.t 23)),
 oo 25 (.faddr 10 (.t 24)),
 oo 26 (.load none (.t 25)),
 oo 27 (.call 90 [(.t 22), (.t 26)]),
 oo 28 (.nilck (.t 21)),
 oo 29 (.faddr 15 (.t 28)),
 ⟨none, .store 1 (.t 29) (.t 27), none⟩])
 (.seq
 (.reg [oo 31 (.bin .int .eql (.t 5) (.c (.int .i64 15))),
 mv 30 31])
 (.cond (.t 30)
 (.reg [mv 32 0,
 oo 33 (.faddr 1 (.t 3)),
 oo 34 (.load none (.t 33)),
 oo 35 (.nilck (.t 32)),
 oo 36 (.faddr 15 (.t 35)),
 ⟨none, .store 1 (.t 36) (.t 34), none⟩])
 (.seq
 (.reg [oo 38 (.bin .int .eql (.t 5) (.c (.int .i64 16))),
 mv 37 38])
 (.cond (.t 37)
 (.reg [mv 39 0,
 oo 40 (.faddr 2 (.t 3)),
 oo 41 (.load none (.t 40)),
 oo 42 (.call 91 [(.t 39), (.t 41)])])
 (.seq
 (.reg [oo 44 (.bin .int .eql (.t 5) (.c (.int .i64 18))),
 mv 43 44])
 (.cond (.t 43)
 (.reg [mv 45 0,
 oo 46 (.call 92 [(.t 45)])])
 (.seq
 (.reg [oo 48 (.bin .int .eql (.t 5) (.c (.int .i64 19))),
 mv 47 48])
 (.cond (.t 47)
 (.seq
 (.seq
 (.reg [mv 49 0,
 oo 50 (.nilck (.t 49)),
 oo 51 (.faddr 12 (.t 50)),
 oo 52 (.load none (.t 51)),
 oo 53 (.len .slice (.t 52)),
 oo 54 (.bin .int .gtr (.t 53) (.c (.int .i64 0)))])
 (.cond (.t 54)
 (.seq
 (.reg [mv 55 0,
 oo 56 (.faddr 1 (.t 3)),
 oo 57 (.load none (.t 56)),
 oo 58 (.nilck (.t 55)),
 oo 59 (.faddr 15 (.t 58)),
 ⟨none, .store 1 (.t 59) (.t 57), none⟩])
 .ret)
 .skip))
 (.seq
 (.reg [mv 60 0,
 oo 61 (.call 20 [(.t 60), (.c (.int .i64 1))])])
 (.reg [mv 63 0,
 mv 64 0,
 oo 65 (.nilck (.t 64)),
 oo 66 (.faddr 20 (.t 65)),
 oo 67 (.load none (.t 66)),
 oo 68 (.call 93 [(.t 67)]),
 mv 62 68,
 oo 69 (.extract (.t 62) 0),
 oo 70 (.extract (.t 62) 1),
 oo 71 (.nilck (.t 63)),
 oo 72 (.faddr 22 (.t 71)),
 oo 73 (.faddr 1 (.t 72)),
 ⟨none, .store 3 (.t 73) (.t 69), none⟩])))
 (.reg [mv 6 0,
 oo 7 (.call 20 [(.t 6), (.c (.int .i64 2))])]))))))))))))))))))
theorem ent52 : EntOK Tryz.prog 52 ⟨74, v52, []⟩ := fun args σ K ha h =>
 enter (own := List.range 74) Tryz.func52 (by kernel_rfl) (by kernel_rfl) (by kernel_rfl) ha h
def v53 : ACode :=
(.seq
 (.reg [oo 2 (.move (.c .nilp))])
 (.seq
 (.reg [mv 7 0,
 oo 8 (.call 94 [(.t 7)]),
 mv 6 8,
 oo 9 (.extract (.t 6) 0),
 oo 10 (.extract (.t 6) 1),
 oo 4 (.new 82 (.c (.agg [(.int .i64 0), (.int .i64 0), (.int .i64 0)]))),
 mv 3 9,
 ⟨none, .store 3 (.t 4) (.t 10), none⟩])
 (.seq
 (.reg [oo 11 (.faddr 0 (.t 4)),
 oo 12 (.load none (.t 11)),
 oo 13 (.bin .int .neq (.t 12) (.c (.int .i64 0))),
 oo 14 (.load (some 3) (.t 4)),
 oo 15 (.build [.nils, (.int .i64 0), (.bool false), (.int .i64 0), (.int .i64 0), (.int .i64 0)] [(2, 1, (.t 13)), (3, 3, (.t 14))]),
 oo 16 (.new 139 (.t 15)),
 mv 5 16])
 (.seq
 (.seq
 (.reg [mv 17 5,
 oo 18 (.nilck (.t 17)),
 oo 19 (.faddr 2 (.t 18)),
 oo 20 (.load none (.t 19)),
 oo 21 (.not (.t 20))])
 (.cond (.t 21)
 (.reg [mv 22 5,
 mv 23 3,
 oo 24 (.call 95 [(.t 23)]),
 oo 25 (.nilck (.t 22)),
 oo 26 (.faddr 0 (.t 25)),
 ⟨none, .store 1 (.t 26) (.t 24), none⟩])
 .skip))
 (.seq
 (.reg [mv 27 5,
 mv 2 27])
 .ret)))))
theorem ent53 : EntOK Tryz.prog 53 ⟨28, v53, [.slot 2]⟩ := fun args σ K ha h =>
 enter (own := List.range 28) Tryz.func53 (by kernel_rfl) (by kernel_rfl) (by kernel_rfl) ha h
def v54 : ACode :=
(.seq
 (.reg [oo 4 (.move (.c (.int .i64 0)))])
 (.scope
 (.seq
 (.reg [mv 6 0,
 oo 7 (.call 57 [(.t 6), (.c (.str ⟨#[123]⟩))])])
 (.seq
 (.reg [oo 5 (.move (.c (.int .i64 0)))])
 (.seq
 .skip
 (.seq
 (.block 0
 (.loop
 (.seq
 (.seq
 (.reg [mv 8 0,
 oo 9 (.nilck (.t 8)),
 oo 10 (.faddr 2 (.t 9)),
 oo 11 (.load none (.t 10)),
 oo 12 (.not (.t 11))])
 (.cond (.t 12)
 .skip
 (.exit 0)))
 (.block 1
 (.seq
 (.block 2
 (.seq
 (.reg [mv 14 0,
 oo 15 (.call 96 [(.t 14), (.c (.str ⟨#[125]⟩))]),
 mv 13 15])
 (.cond (.t 13)
 (.exit 0)
 (.seq
 (.reg [mv 17 0,
 oo 18 (.call 96 [(.t 17), (.c (.str ⟨#[59]⟩))]),
 mv 16 18])
 (.cond (.t 16)
 (.seq
 (.reg [mv 19 0,
 oo 20 (.call 97 [(.t 19)])])
 (.exit 1))
 .skip)))))
 (.seq
 (.reg [mv 21 1,
 oo 22 (.callv (.t 21) [])])
 (.seq
 (.reg [mv 23 5,
 oo 24 (.bin .int .add (.t 23) (.c (.int .i64 1))),
 mv 5 24])
 (.seq
 (.reg [mv 25 0,
 oo 26 (.call 96 [(.t 25), (.c (.str ⟨#[125]⟩))]),
 oo 27 (.not (.t 26)),
 mv 28 27,
 og 29 28 true (.move (.t 0)),
 og 30 28 true (.call 96 [(.t 29), (.c (.str ⟨#[59]⟩))]),
 og 31 28 true (.not (.t 30)),
 oo 32 (.pick (.t 28) (.t 31) (.c (.bool false)))])
 (.cond (.t 32)
 (.reg [mv 33 0,
 oo 34 (.call 98 [(.t 33), (.c (.int .i64 60))])])
 .skip)))))))))
 (.seq
 (.reg [mv 35 5,
 mv 4 35])
 .ret)))))))
theorem ent54 : EntOK Tryz.prog 54 ⟨36, v54, [.slot 4]⟩ := fun args σ K ha h =>
 enter (own := List.range 36) Tryz.func54 (by kernel_rfl) (by kernel_rfl) (by kernel_rfl) ha h
def v55 : ACode :=
(.reg [oo 2 (.load none (.t 0)),
 oo 3 (.call 56 [(.t 2), (.t 1)])])
theorem ent55 : EntOK Tryz.prog 55 ⟨4, v55, []⟩ := fun args σ K ha h =>
 enter (own := List.range 4) Tryz.func55 (by kernel_rfl) (by kernel_rfl) (by kernel_rfl) ha h
def v56 : ACode :=
(.block 0
 (.seq
 (.reg [mv 16 0,
 oo 17 (.call 96 [(.t 16), (.c (.str ⟨#[100, 97, 116, 97]⟩))]),
 mv 15 17])
 (.cond (.t 15)
 (.seq
 (.reg [mv 18 0,
 oo 19 (.call 99 [(.t 18)]),
 oo 4 (.new 158 (.c (.agg [(.str ⟨#[]⟩), .nils, .nils, (.int .i64 0), (.int .i64 0)]))),
 ⟨none, .store 5 (.t 4) (.t 19), none⟩])
 (.draw [] [([⟨(some 20), .move (.t 1), none⟩], []),
 ([⟨(some 21), .move (.t 1), none⟩], []),
 ([⟨(some 22), .nilck (.t 21), none⟩], []),
 ([⟨(some 23), .faddr 0 (.t 22), none⟩], []),
 ([⟨(some 24), .load none (.t 23), none⟩], []),
 ([⟨(some 25), .load (some 5) (.t 4), none⟩], []),
 ([⟨(some 26), .lit true 158 5 [(.t 25)], none⟩], [⟨(some 23), .faddr 0 (.t 22), none⟩, ⟨(some 24), .load none (.t 23), none⟩]),
 ([⟨(some 27), .append 158 5 80 (.t 24) (.t 26), none⟩], []),
 ([⟨(some 28), .nilck (.t 20), none⟩], []),
 ([⟨(some 29), .faddr 0 (.t 28), none⟩], []),
 ([⟨none, .store 1 (.t 29) (.t 27), none⟩], [])]))
 (.seq
 (.seq
 (.reg [mv 31 0,
 oo 32 (.call 96 [(.t 31), (.c (.str ⟨#[105, 110, 102, 105, 120, 108]⟩))]),
 mv 30 32])
 (.cond (.t 30)
 .skip
 (.seq
 (.reg [mv 33 0,
 oo 34 (.call 96 [(.t 33), (.c (.str ⟨#[105, 110, 102, 105, 120, 114]⟩))]),
 mv 30 34])
 (.cond (.t 30)
 .skip
 (.reg [mv 35 0,
 oo 36 (.call 96 [(.t 35), (.c (.str ⟨#[105, 110, 102, 105, 120]⟩))]),
 mv 30 36])))))
 (.cond (.t 30)
 (.seq
 (.reg [mv 37 0,
 oo 38 (.call 100 [(.t 37)]),
 oo 5 (.new 219 (.c (.agg [(.str ⟨#[]⟩), (.int .i64 0), (.int .i64 0), (.int .i64 0), (.int .i64 0)]))),
 ⟨none, .store 5 (.t 5) (.t 38), none⟩])
 (.draw [] [([⟨(some 39), .move (.t 1), none⟩], []),
 ([⟨(some 40), .move (.t 1), none⟩], []),
 ([⟨(some 41), .nilck (.t 40), none⟩], []),
 ([⟨(some 42), .faddr 1 (.t 41), none⟩], []),
 ([⟨(some 43), .load none (.t 42), none⟩], []),
 ([⟨(some 44), .load (some 5) (.t 5), none⟩], []),
 ([⟨(some 45), .lit true 219 5 [(.t 44)], none⟩], [⟨(some 42), .faddr 1 (.t 41), none⟩, ⟨(some 43), .load none (.t 42), none⟩]),
 ([⟨(some 46), .append 219 5 48 (.t 43) (.t 45), none⟩], []),
 ([⟨(some 47), .nilck (.t 39), none⟩], []),
 ([⟨(some 48), .faddr 1 (.t 47), none⟩], []),
 ([⟨none, .store 1 (.t 48) (.t 46), none⟩], [])]))
 (.reg [mv 6 1,
 mv 7 0,
 mv 8 1,
 oo 9 (.nilck (.t 8)),
 oo 10 (.faddr 2 (.t 9)),
 oo 11 (.load none (.t 10)),
 oo 12 (.call 101 [(.t 7), (.t 11)]),
 oo 13 (.nilck (.t 6)),
 oo 14 (.faddr 2 (.t 13)),
 ⟨none, .store 1 (.t 14) (.t 12), none⟩]))))))
theorem ent56 : EntOK Tryz.prog 56 ⟨49, v56, []⟩ := fun args σ K ha h =>
 enter (own := List.range 49) Tryz.func56 (by kernel_rfl) (by kernel_rfl) (by kernel_rfl) ha h
def v57 : ACode :=
(.seq
 (.reg [oo 4 (.new 132 (.c (.agg [(.int .i64 0), (.str ⟨#[]⟩), (.int .i64 0), (.int .i64 0), (.int .i64 0), (.bool false)])))])
 (.seq
 (.seq
 (.reg [mv 5 0,
 mv 6 1,
 oo 7 (.call 96 [(.t 5), (.t 6)]),
 oo 8 (.not (.t 7))])
 (.cond (.t 8)
 (.reg [mv 9 0,
 oo 10 (.call 98 [(.t 9), (.c (.int .i64 60))])])
 .skip))
 (.seq
 (.reg [mv 11 0,
 oo 12 (.call 97 [(.t 11)]),
 ⟨none, .store 6 (.t 4) (.t 12), none⟩])
 .ret)))
theorem ent57 : EntOK Tryz.prog 57 ⟨13, v57, [.cell 4 (some 6)]⟩ := fun args σ K ha h =>
 enter (own := List.range 13) Tryz.func57 (by kernel_rfl) (by kernel_rfl) (by kernel_rfl) ha h
def v58 : ACode :=
(.seq
 (.reg [mv 2 0,
 oo 3 (.nilck (.t 2)),
 oo 4 (.faddr 2 (.t 3)),
 oo 5 (.load none (.t 4)),
 oo 6 (.not (.t 5)),
 mv 7 6,
 og 8 7 true (.move (.t 0)),
 og 9 7 true (.nilck (.t 8)),
 og 10 7 true (.faddr 1 (.t 9)),
 og 11 7 true (.load none (.t 10)),
 og 12 7 true (.move (.t 0)),
 og 13 7 true (.nilck (.t 12)),
 og 14 7 true (.faddr 0 (.t 13)),
 og 15 7 true (.load none (.t 14)),
 og 16 7 true (.len .slice (.t 15)),
 og 17 7 true (.bin .int .lss (.t 11) (.t 16)),
 oo 18 (.pick (.t 7) (.t 17) (.c (.bool false)))])
 (.cond (.t 18)
 (.reg [mv 19 0,
 oo 20 (.call 98 [(.t 19), (.c (.int .i64 60))])])
 .skip))
theorem ent58 : EntOK Tryz.prog 58 ⟨21, v58, []⟩ := fun args σ K ha h =>
 enter (own := List.range 21) Tryz.func58 (by kernel_rfl) (by kernel_rfl) (by kernel_rfl) ha h
def v59 : ACode :=
(.seq
 (.reg [oo 4 (.move (.c .nils))])
 (.seq
 (.reg [oo 5 (.move (.c .nils))])
 (.seq
 (.seq
 (.reg [mv 11 1,
 oo 12 (.len .slice (.t 11)),
 oo 13 (.move (.c (.int .i64 0)))])
 (.block 0
 (.loop
 (.seq
 (.reg [oo 14 (.bin .int .lss (.t 13) (.t 12))])
 (.seq
 (.cond (.t 14)
 .skip
 (.exit 0))
 (.seq
 (.block 1
 (.seq
 (.reg [oo 15 (.iaddr 4 (.t 11) (.t 13)),
 oo 16 (.load (some 4) (.t 15)),
 oo 7 (.new 151 (.c (.agg [(.str ⟨#[]⟩), .nils, (.int .i64 0), (.int .i64 0)]))),
 ⟨none, .store 4 (.t 7) (.t 16), none⟩])
 (.seq
 (.reg [oo 8 (.move (.c .nils))])
 (.seq
 (.seq
 (.reg [oo 17 (.faddr 1 (.t 7)),
 oo 18 (.load none (.t 17)),
 oo 19 (.len .slice (.t 18)),
 oo 20 (.move (.c (.int .i64 0)))])
 (.block 2
 (.loop
 (.seq
 (.reg [oo 21 (.bin .int .lss (.t 20) (.t 19))])
 (.seq
 (.cond (.t 21)
 .skip
 (.exit 2))
 (.seq
 (.block 3
 (.seq
 (.reg [oo 22 (.iaddr 2 (.t 18) (.t 20)),
 oo 23 (.load (some 2) (.t 22)),
 oo 10 (.new 224 (.c (.agg [.nils, .nils]))),
 ⟨none, .store 2 (.t 10) (.t 23), none⟩])
 (.seq
 (.reg [mv 24 0,
 oo 25 (.faddr 1 (.t 10)),
 oo 26 (.load none (.t 25)),
 oo 27 (.call 102 [(.t 24), (.t 26)]),
 oo 28 (.faddr 1 (.t 10)),
 ⟨none, .store 1 (.t 28) (.t 27), none⟩])
 (.reg [mv 29 8,
 oo 30 (.load (some 2) (.t 10)),
 oo 31 (.lit true 224 2 [(.t 30)]),
 oo 32 (.append 224 2 48 (.t 29) (.t 31)),
 mv 8 32]))))
 (.reg [oo 33 (.bin .int .add (.t 20) (.c (.int .i64 1))),
 mv 20 33])))))))
 (.seq
 (.reg [mv 34 8,
 oo 35 (.faddr 1 (.t 7)),
 ⟨none, .store 1 (.t 35) (.t 34), none⟩])
 (.reg [mv 36 5,
 oo 37 (.load (some 4) (.t 7)),
 oo 38 (.lit true 151 4 [(.t 37)]),
 oo 39 (.append 151 4 56 (.t 36) (.t 38)),
 mv 5 39]))))))
 (.reg [oo 40 (.bin .int .add (.t 13) (.c (.int .i64 1))),
 mv 13 40])))))))
 (.seq
 (.reg [mv 41 5,
 mv 4 41])
 .ret))))
theorem ent59 : EntOK Tryz.prog 59 ⟨42, v59, [.slot 4]⟩ := fun args σ K ha h =>
 enter (own := List.range 42) Tryz.func59 (by kernel_rfl) (by kernel_rfl) (by kernel_rfl) ha h
def v60 : ACode :=
(.seq
 (.reg [oo 1 (.new 50 (.t 0)),
 oo 2 (.new 143 (.c (.agg [.nils]))),
 oo 3 (.new 82 (.c (.agg [(.int .i64 0), (.int .i64 0), (.int .i64 0)])))])
 (.seq
 (.seq
 (.reg [oo 10 (.load (some 3) (.t 1)),
 oo 11 (.call 103 [(.t 10)]),
 oo 4 (.new 82 (.c (.agg [(.int .i64 0), (.int .i64 0), (.int .i64 0)]))),
 ⟨none, .store 3 (.t 4) (.t 11), none⟩])
 (.seq
 (.reg [oo 12 (.faddr 0 (.t 4)),
 oo 13 (.load none (.t 12)),
 oo 14 (.bin .int .neq (.t 13) (.c (.int .i64 0)))])
 (.cond (.t 14)
 (.seq
 (.draw [] [([⟨(some 15), .build [.nils] [], none⟩], []),
 ([⟨(some 16), .load (some 3) (.t 4), none⟩], []),
 ([⟨none, .store 1 (.t 2) (.t 15), none⟩], [⟨(some 16), .load (some 3) (.t 4), none⟩]),
 ([⟨none, .store 3 (.t 3) (.t 16), none⟩], [])])
 .ret)
 .skip)))
 (.seq
 (.reg [oo 18 (.faddr 0 (.t 1)),
 oo 19 (.load none (.t 18)),
 oo 20 (.call 26 [(.t 19)]),
 mv 17 20,
 oo 21 (.extract (.t 17) 0),
 oo 22 (.extract (.t 17) 1),
 oo 6 (.new 82 (.c (.agg [(.int .i64 0), (.int .i64 0), (.int .i64 0)]))),
 mv 5 21,
 ⟨none, .store 3 (.t 6) (.t 22), none⟩])
 (.seq
 (.reg [oo 23 (.call 104 []),
 mv 24 5,
 oo 25 (.build [.nilp, .nilp, .nils, (.bool false), (.int .i64 0), (.int .i64 0), (.int .i64 0)] [(0, 1, (.t 23)), (1, 1, (.t 24))]),
 oo 26 (.new 232 (.t 25)),
 mv 7 26])
 (.seq
 (.reg [mv 27 7,
 oo 28 (.faddr 2 (.t 1)),
 oo 29 (.load none (.t 28)),
 oo 30 (.call 105 [(.t 27), (.t 29), (.c (.fn (.func 106) [] []))]),
 mv 8 30])
 (.seq
 (.reg [mv 31 7,
 mv 32 8,
 oo 33 (.call 107 [(.t 31), (.t 32)]),
 mv 9 33])
 (.seq
 (.seq
 (.reg [mv 34 7,
 oo 35 (.nilck (.t 34)),
 oo 36 (.faddr 3 (.t 35)),
 oo 37 (.load none (.t 36))])
 (.cond (.t 37)
 (.seq
 (.draw [] [([⟨(some 38), .build [.nils] [], none⟩], []),
 ([⟨(some 39), .move (.t 7), none⟩], []),
 ([⟨(some 40), .nilck (.t 39), none⟩], []),
 ([⟨(some 41), .faddr 4 (.t 40), none⟩], []),
 ([⟨(some 42), .load (some 3) (.t 41), none⟩], []),
 ([⟨none, .store 1 (.t 2) (.t 38), none⟩], [⟨(some 41), .faddr 4 (.t 40), none⟩, ⟨(some 42), .load (some 3) (.t 41), none⟩]),
 ([⟨none, .store 3 (.t 3) (.t 42), none⟩], [])])
 .ret)
 .skip))
 (.seq
 (.reg [mv 43 9,
 oo 44 (.build [.nils] [(0, 1, (.t 43))]),
 oo 45 (.build [(.int .i64 0), (.int .i64 0), (.int .i64 0)] []),
 ⟨none, .store 1 (.t 2) (.t 44), none⟩,
 ⟨none, .store 3 (.t 3) (.t 45), none⟩])
 .ret))))))))
theorem ent60 : EntOK Tryz.prog 60 ⟨46, v60, [.cell 2 (some 1), .cell 3 (some 3)]⟩ := fun args σ K ha h =>
 enter (own := List.range 46) Tryz.func60 (by kernel_rfl) (by kernel_rfl) (by kernel_rfl) ha h
def v61 : ACode :=
(.seq
 (.reg [oo 5 (.new 151 (.t 1)),
 oo 8 (.new 28 (.c (.agg [(.int .i64 0), (.str ⟨#[]⟩), (.int .i64 0), (.int .i64 0), .nils, .nils, .nils, .nils, .nils])))])
 (.seq
 (.reg [oo 14 (.faddr 1 (.t 5)),
 oo 15 (.load none (.t 14)),
 oo 16 (.iaddr 2 (.t 15) (.c (.int .i64 0))),
 oo 17 (.faddr 0 (.t 16)),
 oo 18 (.load none (.t 17)),
 oo 19 (.len .slice (.t 18)),
 mv 9 19])
 (.seq
 (.seq
 (.reg [mv 20 9,
 oo 21 (.bin .int .eql (.t 20) (.c (.int .i64 0)))])
 (.cond (.t 21)
 (.seq
 (.reg [mv 22 0,
 oo 23 (.faddr 1 (.t 5)),
 oo 24 (.load none (.t 23)),
 oo 25 (.iaddr 2 (.t 24) (.c (.int .i64 0))),
 oo 26 (.faddr 1 (.t 25)),
 oo 27 (.load none (.t 26)),
 mv 28 2,
 mv 29 3,
 oo 30 (.call 108 [(.t 22), (.t 27), (.t 28), (.t 29), (.c (.fn (.func 109) [] []))]),
 ⟨none, .store 9 (.t 8) (.t 30), none⟩])
 .ret)
 .skip))
 (.seq
 (.reg [mv 31 3,
 mv 32 9,
 oo 33 (.call 110 [(.t 31), (.t 32)]),
 mv 10 33])
 (.seq
 (.reg [oo 11 (.move (.c .nils))])
 (.seq
 (.seq
 (.reg [oo 34 (.faddr 1 (.t 5)),
 oo 35 (.load none (.t 34)),
 oo 36 (.len .slice (.t 35)),
 oo 37 (.move (.c (.int .i64 0)))])
 (.block 0
 (.loop
 (.seq
 (.reg [oo 38 (.bin .int .lss (.t 37) (.t 36))])
 (.seq
 (.cond (.t 38)
 .skip
 (.exit 0))
 (.seq
 (.block 1
 (.seq
 (.reg [oo 39 (.iaddr 2 (.t 35) (.t 37)),
 oo 40 (.load (some 2) (.t 39)),
 oo 13 (.new 224 (.c (.agg [.nils, .nils]))),
 ⟨none, .store 2 (.t 13) (.t 40), none⟩])
 (.reg [mv 41 11,
 oo 42 (.faddr 0 (.t 13)),
 oo 43 (.load none (.t 42)),
 oo 44 (.faddr 1 (.t 13)),
 oo 45 (.load none (.t 44)),
 mv 46 2,
 oo 47 (.build [.nils, .nils, .nils] [(0, 1, (.t 43)), (1, 1, (.t 45)), (2, 1, (.t 46))]),
 oo 48 (.lit true 242 3 [(.t 47)]),
 oo 49 (.append 242 3 72 (.t 41) (.t 48)),
 mv 11 49])))
 (.reg [oo 50 (.bin .int .add (.t 37) (.c (.int .i64 1))),
 mv 37 50])))))))
 (.seq
 (.reg [mv 51 10,
 mv 52 0,
 mv 53 10,
 mv 54 11,
 oo 55 (.call 109 []),
 mv 56 3,
 mv 57 9,
 oo 58 (.bin .int .add (.t 56) (.t 57)),
 oo 59 (.call 111 [(.t 52), (.t 53), (.t 54), (.t 55), (.t 58)]),
 oo 60 (.lit true 28 9 [(.t 59)]),
 oo 61 (.build [(.int .i64 0), (.str ⟨#[]⟩), (.int .i64 0), (.int .i64 0), .nils, .nils, .nils, .nils, .nils] [(0, 1, (.c (.int .i64 6))), (4, 1, (.t 51)), (5, 1, (.t 60))]),
 ⟨none, .store 9 (.t 8) (.t 61), none⟩])
 .ret)))))))
theorem ent61 : EntOK Tryz.prog 61 ⟨62, v61, [.cell 8 (some 9)]⟩ := fun args σ K ha h =>
 enter (own := List.range 62) Tryz.func61 (by kernel_rfl) (by kernel_rfl) (by kernel_rfl) ha h
def v62 : ACode :=
(.seq
 (.reg [oo 0 (.move (.c .nilp))])
 (.seq
 (.reg [oo 2 (.mkmap),
 ⟨none, .mapset .str (.t 2) (.c (.str ⟨#[73, 110, 116]⟩)) (.c (.int .i64 0)), none⟩,
 ⟨none, .mapset .str (.t 2) (.c (.str ⟨#[66, 111, 111, 108]⟩)) (.c (.int .i64 0)), none⟩,
 mv 3 2,
 oo 4 (.mkmap),
 oo 5 (.build [.nilm, .nilm, .nils] [(0, 1, (.t 3)), (1, 1, (.t 4))]),
 oo 6 (.new 176 (.t 5)),
 mv 1 6])
 (.seq
 (.reg [mv 7 1,
 oo 8 (.build [(.str ⟨#[]⟩), (.str ⟨#[]⟩), (.int .i64 0), (.int .i64 0), .nils] [(0, 1, (.c (.str ⟨#[70, 97, 108, 115, 101]⟩))), (1, 1, (.c (.str ⟨#[66, 111, 111, 108]⟩)))]),
 oo 9 (.call 112 [(.t 7), (.t 8)])])
 (.seq
 (.reg [mv 10 1,
 oo 11 (.build [(.str ⟨#[]⟩), (.str ⟨#[]⟩), (.int .i64 0), (.int .i64 0), .nils] [(0, 1, (.c (.str ⟨#[84, 114, 117, 101]⟩))), (1, 1, (.c (.str ⟨#[66, 111, 111, 108]⟩))), (2, 1, (.c (.int .i64 1)))]),
 oo 12 (.call 112 [(.t 10), (.t 11)])])
 (.seq
 (.reg [mv 13 1,
 mv 0 13])
 .ret)))))
theorem ent62 : EntOK Tryz.prog 62 ⟨14, v62, [.slot 0]⟩ := fun args σ K ha h =>
 enter (own := List.range 14) Tryz.func62 (by kernel_rfl) (by kernel_rfl) (by kernel_rfl) ha h
def v65 : ACode :=
(.seq
 (.reg [oo 2 (.move (.c (.bool false)))])
 (.seq
 (.reg [oo 8 (.build [.nils] []),
 oo 9 (.new 182 (.t 8)),
 mv 3 9])
 (.seq
 (.seq
 (.reg [mv 10 0,
 oo 11 (.len .slice (.t 10)),
 oo 12 (.move (.c (.int .i64 0)))])
 (.block 0
 (.loop
 (.seq
 (.reg [oo 13 (.bin .int .lss (.t 12) (.t 11))])
 (.seq
 (.cond (.t 13)
 .skip
 (.exit 0))
 (.seq
 (.block 1
 (.seq
 (.reg [oo 14 (.iaddr 10 (.t 10) (.t 12)),
 oo 15 (.load (some 10) (.t 14)),
 oo 5 (.new 154 (.c (.agg [(.str ⟨#[]⟩), (.int .i64 0), (.str ⟨#[]⟩), (.int .i64 0), (.int .i64 0), .nils, .nils, .nils, .nils, .nils]))),
 ⟨none, .store 10 (.t 5) (.t 15), none⟩])
 (.seq
 (.seq
 (.reg [oo 16 (.faddr 0 (.t 5)),
 oo 17 (.load none (.t 16)),
 oo 18 (.bin .str .eql (.t 17) (.c (.str ⟨#[]⟩))),
 mv 19 18,
 og 20 19 false (.faddr 0 (.t 5)),
 og 21 19 false (.load none (.t 20)),
 og 22 19 false (.call 71 [(.t 21)]),
 og 23 19 false (.bin .int .gtr (.t 22) (.c (.int .i64 0))),
 oo 24 (.pick (.t 19) (.c (.bool true)) (.t 23)),
 mv 25 24,
 og 26 25 false (.faddr 0 (.t 5)),
 og 27 25 false (.load none (.t 26)),
 og 28 25 false (.call 115 [(.t 27)]),
 oo 29 (.pick (.t 25) (.c (.bool true)) (.t 28)),
 mv 30 29,
 og 31 30 false (.move (.t 3)),
 og 32 30 false (.nilck (.t 31)),
 og 33 30 false (.faddr 0 (.t 32)),
 og 34 30 false (.load none (.t 33)),
 og 35 30 false (.faddr 0 (.t 5)),
 og 36 30 false (.load none (.t 35)),
 og 37 30 false (.call 72 [(.t 34), (.t 36)]),
 oo 38 (.pick (.t 30) (.c (.bool true)) (.t 37))])
 (.cond (.t 38)
 (.seq
 (.reg [oo 2 (.move (.c (.bool false)))])
 .ret)
 .skip))
 (.draw [] [([⟨(some 39), .move (.t 3), none⟩], []),
 ([⟨(some 40), .move (.t 3), none⟩], []),
 ([⟨(some 41), .nilck (.t 40), none⟩], []),
 ([⟨(some 42), .faddr 0 (.t 41), none⟩], []),
 ([⟨(some 43), .load none (.t 42), none⟩], []),
 ([⟨(some 44), .faddr 0 (.t 5), none⟩], []),
 ([⟨(some 45), .load none (.t 44), none⟩], []),
 ([⟨(some 46), .lit true 9 1 [(.t 45)], none⟩], [⟨(some 42), .faddr 0 (.t 41), none⟩, ⟨(some 43), .load none (.t 42), none⟩]),
 ([⟨(some 47), .append 9 1 16 (.t 43) (.t 46), none⟩], []),
 ([⟨(some 48), .nilck (.t 39), none⟩], []),
 ([⟨(some 49), .faddr 0 (.t 48), none⟩], []),
 ([⟨none, .store 1 (.t 49) (.t 47), none⟩], [])]))))
 (.reg [oo 50 (.bin .int .add (.t 12) (.c (.int .i64 1))),
 mv 12 50])))))))
 (.seq
 (.seq
 (.reg [mv 51 0,
 oo 52 (.len .slice (.t 51)),
 oo 53 (.move (.c (.int .i64 0)))])
 (.block 2
 (.loop
 (.seq
 (.reg [oo 54 (.bin .int .lss (.t 53) (.t 52))])
 (.seq
 (.cond (.t 54)
 .skip
 (.exit 2))
 (.seq
 (.block 3
 (.seq
 (.reg [oo 55 (.iaddr 10 (.t 51) (.t 53)),
 oo 56 (.load (some 10) (.t 55)),
 oo 7 (.new 154 (.c (.agg [(.str ⟨#[]⟩), (.int .i64 0), (.str ⟨#[]⟩), (.int .i64 0), (.int .i64 0), .nils, .nils, .nils, .nils, .nils]))),
 ⟨none, .store 10 (.t 7) (.t 56), none⟩])
 (.seq
 (.reg [mv 57 3,
 oo 58 (.faddr 1 (.t 7)),
 oo 59 (.load (some 9) (.t 58)),
 oo 60 (.call 75 [(.t 57), (.t 59), (.c .nils)]),
 oo 61 (.not (.t 60))])
 (.cond (.t 61)
 (.seq
 (.reg [oo 2 (.move (.c (.bool false)))])
 .ret)
 .skip))))
 (.reg [oo 62 (.bin .int .add (.t 53) (.c (.int .i64 1))),
 mv 53 62])))))))
 (.seq
 (.reg [oo 2 (.move (.c (.bool true)))])
 .ret)))))
theorem ent65 : EntOK Tryz.prog 65 ⟨63, v65, [.slot 2]⟩ := fun args σ K ha h =>
 enter (own := List.range 63) Tryz.func65 (by kernel_rfl) (by kernel_rfl) (by kernel_rfl) ha h
def v66 : ACode :=
(.seq
 (.reg [oo 3 (.new 28 (.t 1)),
 oo 4 (.new 28 (.c (.agg [(.int .i64 0), (.str ⟨#[]⟩), (.int .i64 0), (.int .i64 0), .nils, .nils, .nils, .nils, .nils])))])
 (.seq
 (.seq
 (.reg [oo 5 (.faddr 0 (.t 3)),
 oo 6 (.load none (.t 5)),
 oo 7 (.bin .int .eql (.t 6) (.c (.int .i64 6)))])
 (.cond (.t 7)
 (.seq
 (.reg [mv 8 0,
 oo 9 (.load (some 9) (.t 3)),
 oo 10 (.faddr 4 (.t 3)),
 oo 11 (.load none (.t 10)),
 oo 12 (.faddr 5 (.t 3)),
 oo 13 (.load none (.t 12)),
 oo 14 (.iaddr 9 (.t 13) (.c (.int .i64 0))),
 oo 15 (.load (some 9) (.t 14)),
 oo 16 (.call 116 [(.t 8), (.t 9), (.t 11), (.t 15)]),
 ⟨none, .store 9 (.t 4) (.t 16), none⟩])
 .ret)
 .skip))
 (.seq
 (.reg [mv 17 0,
 oo 18 (.load (some 9) (.t 3)),
 mv 19 0,
 oo 20 (.mkfn (.func 66) [(.t 19)] []),
 mv 21 0,
 oo 22 (.mkfn (.func 118) [(.t 21)] []),
 oo 23 (.call 117 [(.t 17), (.t 18), (.t 20), (.t 22)]),
 ⟨none, .store 9 (.t 4) (.t 23), none⟩])
 .ret)))
theorem ent66 : EntOK Tryz.prog 66 ⟨24, v66, [.cell 4 (some 9)]⟩ := fun args σ K ha h =>
 enter (own := List.range 24) Tryz.func66 (by kernel_rfl) (by kernel_rfl) (by kernel_rfl) ha h
def v67 : ACode :=
(.seq
 (.reg [oo 4 (.move (.c .nils)),
 oo 5 (.move (.c (.int .i64 0)))])
 (.seq
 (.reg [mv 15 0,
 mv 16 1,
 oo 17 (.call 31 [(.t 15), (.t 16)]),
 mv 14 17,
 oo 18 (.extract (.t 14) 0),
 oo 19 (.extract (.t 14) 1),
 mv 6 18,
 mv 7 19])
 (.seq
 (.seq
 (.reg [mv 20 7,
 oo 21 (.not (.t 20))])
 (.cond (.t 21)
 (.seq
 (.reg [oo 4 (.move (.c .nils)),
 oo 5 (.move (.c (.int .i64 1)))])
 .ret)
 .skip))
 (.seq
 (.reg [oo 8 (.move (.c .nils))])
 (.seq
 (.seq
 (.reg [mv 22 0,
 oo 23 (.len .slice (.t 22)),
 oo 24 (.move (.c (.int .i64 0)))])
 (.block 0
 (.loop
 (.seq
 (.reg [oo 25 (.bin .int .lss (.t 24) (.t 23))])
 (.seq
 (.cond (.t 25)
 .skip
 (.exit 0))
 (.seq
 (.block 1
 (.seq
 (.reg [oo 26 (.iaddr 11 (.t 22) (.t 24)),
 oo 27 (.load (some 11) (.t 26)),
 oo 10 (.new 102 (.c (.agg [(.str ⟨#[]⟩), .nils, (.int .i64 0), (.str ⟨#[]⟩), (.int .i64 0), (.int .i64 0), .nils, .nils, .nils, .nils, .nils]))),
 ⟨none, .store 11 (.t 10) (.t 27), none⟩])
 (.reg [mv 28 8,
 mv 29 6,
 oo 30 (.load (some 11) (.t 10)),
 oo 31 (.call 119 [(.t 29), (.t 30)]),
 oo 32 (.lit true 63 4 [(.t 31)]),
 oo 33 (.append 63 4 56 (.t 28) (.t 32)),
 mv 8 33])))
 (.reg [oo 34 (.bin .int .add (.t 24) (.c (.int .i64 1))),
 mv 24 34])))))))
 (.seq
 (.seq
 (.reg [mv 35 1,
 oo 36 (.len .slice (.t 35)),
 oo 37 (.move (.c (.int .i64 0)))])
 (.block 2
 (.loop
 (.seq
 (.reg [oo 38 (.bin .int .lss (.t 37) (.t 36))])
 (.seq
 (.cond (.t 38)
 .skip
 (.exit 2))
 (.seq
 (.block 3
 (.seq
 (.reg [mv 39 37,
 oo 40 (.iaddr 5 (.t 35) (.t 37)),
 oo 41 (.load (some 5) (.t 40)),
 oo 12 (.new 172 (.c (.agg [(.str ⟨#[]⟩), (.str ⟨#[]⟩), (.int .i64 0), (.int .i64 0), .nils]))),
 mv 11 39,
 ⟨none, .store 5 (.t 12) (.t 41), none⟩])
 (.reg [mv 42 8,
 mv 43 6,
 mv 44 11,
 oo 45 (.faddr 0 (.t 12)),
 oo 46 (.load none (.t 45)),
 oo 47 (.call 120 [(.t 43), (.t 44), (.t 46)]),
 oo 48 (.lit true 63 4 [(.t 47)]),
 oo 49 (.append 63 4 56 (.t 42) (.t 48)),
 mv 8 49])))
 (.reg [oo 50 (.bin .int .add (.t 37) (.c (.int .i64 1))),
 mv 37 50])))))))
 (.seq
 (.seq
 (.reg [oo 13 (.move (.c (.int .i64 1)))])
 (.block 4
 (.loop
 (.seq
 (.seq
 (.reg [mv 51 13,
 oo 52 (.bin .int .leq (.t 51) (.c (.int .i64 11)))])
 (.cond (.t 52)
 .skip
 (.exit 4)))
 (.seq
 (.block 5
 (.reg [mv 55 8,
 mv 56 6,
 mv 57 13,
 oo 58 (.call 121 [(.t 56), (.t 57)]),
 oo 59 (.lit true 63 4 [(.t 58)]),
 oo 60 (.append 63 4 56 (.t 55) (.t 59)),
 mv 8 60]))
 (.reg [mv 53 13,
 oo 54 (.bin .int .add (.t 53) (.c (.int .i64 1))),
 mv 13 54]))))))
 (.seq
 (.reg [mv 61 8,
 mv 4 61,
 oo 5 (.move (.c (.int .i64 0)))])
 .ret))))))))
theorem ent67 : EntOK Tryz.prog 67 ⟨62, v67, [.slot 4, .slot 5]⟩ := fun args σ K ha h =>
 enter (own := List.range 62) Tryz.func67 (by kernel_rfl) (by kernel_rfl) (by kernel_rfl) ha h
def v68 : ACode :=
(.seq
 (.reg [oo 4 (.new 172 (.c (.agg [(.str ⟨#[]⟩), (.str ⟨#[]⟩), (.int .i64 0), (.int .i64 0), .nils]))),
 oo 5 (.move (.c (.bool false)))])
 (.seq
 (.seq
 (.reg [mv 11 0,
 oo 12 (.nileq .ptr false (.t 11) (.c .nilp))])
 (.cond (.t 12)
 (.seq
 (.reg [oo 13 (.build [(.str ⟨#[]⟩), (.str ⟨#[]⟩), (.int .i64 0), (.int .i64 0), .nils] []),
 ⟨none, .store 5 (.t 4) (.t 13), none⟩,
 oo 5 (.move (.c (.bool false)))])
 .ret)
 .skip))
 (.seq
 (.reg [mv 15 0,
 oo 16 (.nilck (.t 15)),
 oo 17 (.faddr 1 (.t 16)),
 oo 18 (.load none (.t 17)),
 mv 19 1,
 oo 20 (.lookup .str (.agg [(.str ⟨#[]⟩), (.str ⟨#[]⟩), (.int .i64 0), (.int .i64 0), .nils]) true (.t 18) (.t 19)),
 mv 14 20,
 oo 21 (.extract (.t 14) 0),
 oo 22 (.extract (.t 14) 1),
 oo 6 (.new 172 (.c (.agg [(.str ⟨#[]⟩), (.str ⟨#[]⟩), (.int .i64 0), (.int .i64 0), .nils]))),
 ⟨none, .store 5 (.t 6) (.t 21), none⟩,
 mv 7 22])
 (.seq
 (.seq
 (.reg [mv 23 7,
 oo 24 (.not (.t 23))])
 (.cond (.t 24)
 (.seq
 (.reg [oo 25 (.build [(.str ⟨#[]⟩), (.str ⟨#[]⟩), (.int .i64 0), (.int .i64 0), .nils] []),
 ⟨none, .store 5 (.t 4) (.t 25), none⟩,
 oo 5 (.move (.c (.bool false)))])
 .ret)
 .skip))
 (.seq
 (.reg [oo 8 (.move (.c .nils))])
 (.seq
 (.seq
 (.reg [oo 26 (.faddr 4 (.t 6)),
 oo 27 (.load none (.t 26)),
 oo 28 (.len .slice (.t 27)),
 oo 29 (.move (.c (.int .i64 0)))])
 (.block 0
 (.loop
 (.seq
 (.reg [oo 30 (.bin .int .lss (.t 29) (.t 28))])
 (.seq
 (.cond (.t 30)
 .skip
 (.exit 0))
 (.seq
 (.block 1
 (.seq
 (.reg [oo 31 (.iaddr 4 (.t 27) (.t 29)),
 oo 32 (.load (some 4) (.t 31)),
 oo 10 (.new 247 (.c (.agg [(.int .i64 0), (.int .i64 0), (.str ⟨#[]⟩), .nils]))),
 ⟨none, .store 4 (.t 10) (.t 32), none⟩])
 (.reg [mv 33 8,
 oo 34 (.load (some 4) (.t 10)),
 oo 35 (.call 122 [(.t 34)]),
 oo 36 (.lit true 247 4 [(.t 35)]),
 oo 37 (.append 247 4 56 (.t 33) (.t 36)),
 mv 8 37])))
 (.reg [oo 38 (.bin .int .add (.t 29) (.c (.int .i64 1))),
 mv 29 38])))))))
 (.seq
 (.reg [mv 39 8,
 oo 40 (.faddr 4 (.t 6)),
 ⟨none, .store 1 (.t 40) (.t 39), none⟩])
 (.seq
 (.reg [oo 41 (.load (some 5) (.t 6)),
 ⟨none, .store 5 (.t 4) (.t 41), none⟩,
 oo 5 (.move (.c (.bool true)))])
 .ret))))))))
theorem ent68 : EntOK Tryz.prog 68 ⟨42, v68, [.cell 4 (some 5), .slot 5]⟩ := fun args σ K ha h =>
 enter (own := List.range 42) Tryz.func68 (by kernel_rfl) (by kernel_rfl) (by kernel_rfl) ha h
def v69 : ACode :=
(.seq
 (.reg [oo 0 (.new 30 (.c (.agg [(.int .i64 0), (.int .i64 0), (.int .i64 0), (.int .i64 0)])))])
 (.seq
 (.reg [oo 1 (.build [(.int .i64 0), (.int .i64 0), (.int .i64 0), (.int .i64 0)] [(0, 1, (.c (.int .i64 131072))), (1, 1, (.c (.int .i64 131072))), (2, 1, (.c (.int .i64 32768)))]),
 ⟨none, .store 4 (.t 0) (.t 1), none⟩])
 .ret))
theorem ent69 : EntOK Tryz.prog 69 ⟨2, v69, [.cell 0 (some 4)]⟩ := fun args σ K ha h =>
 enter (own := List.range 2) Tryz.func69 (by kernel_rfl) (by kernel_rfl) (by kernel_rfl) ha h
def v70 : ACode :=
(.seq
 (.reg [oo 4 (.move (.c .nilp)),
 oo 5 (.move (.c (.bool false)))])
 (.seq
 (.reg [oo 13 (.mkmap),
 oo 14 (.mkmap),
 oo 15 (.build [.nilm, .nilm, .nils] [(0, 1, (.t 13)), (1, 1, (.t 14))]),
 oo 16 (.new 197 (.t 15)),
 mv 6 16])
 (.seq
 (.seq
 (.reg [mv 17 0,
 oo 18 (.len .slice (.t 17)),
 oo 19 (.move (.c (.int .i64 0)))])
 (.block 0
 (.loop
 (.seq
 (.reg [oo 20 (.bin .int .lss (.t 19) (.t 18))])
 (.seq
 (.cond (.t 20)
 .skip
 (.exit 0))
 (.seq
 (.block 1
 (.seq
 (.reg [mv 21 19,
 oo 22 (.iaddr 11 (.t 17) (.t 19)),
 oo 23 (.load (some 11) (.t 22)),
 oo 8 (.new 102 (.c (.agg [(.str ⟨#[]⟩), .nils, (.int .i64 0), (.str ⟨#[]⟩), (.int .i64 0), (.int .i64 0), .nils, .nils, .nils, .nils, .nils]))),
 mv 7 21,
 ⟨none, .store 11 (.t 8) (.t 23), none⟩])
 (.reg [mv 24 6,
 oo 25 (.nilck (.t 24)),
 oo 26 (.faddr 0 (.t 25)),
 oo 27 (.load none (.t 26)),
 oo 28 (.faddr 0 (.t 8)),
 oo 29 (.load none (.t 28)),
 mv 30 7,
 ⟨none, .mapset .str (.t 27) (.t 29) (.t 30), none⟩])))
 (.reg [oo 31 (.bin .int .add (.t 19) (.c (.int .i64 1))),
 mv 19 31])))))))
 (.seq
 (.seq
 (.reg [mv 32 1,
 oo 33 (.len .slice (.t 32)),
 oo 34 (.move (.c (.int .i64 0)))])
 (.block 2
 (.loop
 (.seq
 (.reg [oo 35 (.bin .int .lss (.t 34) (.t 33))])
 (.seq
 (.cond (.t 35)
 .skip
 (.exit 2))
 (.seq
 (.block 3
 (.seq
 (.reg [mv 36 34,
 oo 37 (.iaddr 5 (.t 32) (.t 34)),
 oo 38 (.load (some 5) (.t 37)),
 oo 10 (.new 172 (.c (.agg [(.str ⟨#[]⟩), (.str ⟨#[]⟩), (.int .i64 0), (.int .i64 0), .nils]))),
 mv 9 36,
 ⟨none, .store 5 (.t 10) (.t 38), none⟩])
 (.seq
 (.seq
 (.reg [mv 40 6,
 oo 41 (.nilck (.t 40)),
 oo 42 (.faddr 1 (.t 41)),
 oo 43 (.load none (.t 42)),
 oo 44 (.faddr 0 (.t 10)),
 oo 45 (.load none (.t 44)),
 oo 46 (.lookup .str (.int .i64 0) true (.t 43) (.t 45)),
 mv 39 46,
 oo 47 (.extract (.t 39) 0),
 oo 48 (.extract (.t 39) 1),
 mv 11 47,
 mv 12 48])
 (.seq
 (.reg [mv 49 12,
 mv 50 49,
 og 51 50 false (.faddr 0 (.t 10)),
 og 52 50 false (.load none (.t 51)),
 og 53 50 false (.bin .str .eql (.t 52) (.c (.str ⟨#[]⟩))),
 oo 54 (.pick (.t 50) (.c (.bool true)) (.t 53))])
 (.cond (.t 54)
 (.seq
 (.reg [oo 4 (.move (.c .nilp)),
 oo 5 (.move (.c (.bool false)))])
 .ret)
 .skip)))
 (.seq
 (.reg [mv 55 6,
 oo 56 (.nilck (.t 55)),
 oo 57 (.faddr 1 (.t 56)),
 oo 58 (.load none (.t 57)),
 oo 59 (.faddr 0 (.t 10)),
 oo 60 (.load none (.t 59)),
 mv 61 9,
 ⟨none, .mapset .str (.t 58) (.t 60) (.t 61), none⟩])
 (.draw [] [([⟨(some 62), .move (.t 6), none⟩], []),
 ([⟨(some 63), .move (.t 6), none⟩], []),
 ([⟨(some 64), .nilck (.t 63), none⟩], []),
 ([⟨(some 65), .faddr 2 (.t 64), none⟩], []),
 ([⟨(some 66), .load none (.t 65), none⟩], []),
 ([⟨(some 67), .faddr 4 (.t 10), none⟩], []),
 ([⟨(some 68), .load none (.t 67), none⟩], []),
 ([⟨(some 69), .len .slice (.t 68), none⟩], []),
 ([⟨(some 70), .lit true 3 1 [(.t 69)], none⟩], [⟨(some 65), .faddr 2 (.t 64), none⟩, ⟨(some 66), .load none (.t 65), none⟩]),
 ([⟨(some 71), .append 3 1 8 (.t 66) (.t 70), none⟩], []),
 ([⟨(some 72), .nilck (.t 62), none⟩], []),
 ([⟨(some 73), .faddr 2 (.t 72), none⟩], []),
 ([⟨none, .store 1 (.t 73) (.t 71), none⟩], [])])))))
 (.reg [oo 74 (.bin .int .add (.t 34) (.c (.int .i64 1))),
 mv 34 74])))))))
 (.seq
 (.reg [mv 75 6,
 mv 76 6,
 oo 77 (.call 76 [(.t 76), (.c (.str ⟨#[70, 97, 108, 115, 101]⟩)), (.c (.int .i64 0))]),
 mv 78 77,
 og 79 78 true (.move (.t 6)),
 og 80 78 true (.call 76 [(.t 79), (.c (.str ⟨#[84, 114, 117, 101]⟩)), (.c (.int .i64 0))]),
 oo 81 (.pick (.t 78) (.t 80) (.c (.bool false))),
 mv 4 75,
 mv 5 81])
 .ret)))))
theorem ent70 : EntOK Tryz.prog 70 ⟨82, v70, [.slot 4, .slot 5]⟩ := fun args σ K ha h =>
 enter (own := List.range 82) Tryz.func70 (by kernel_rfl) (by kernel_rfl) (by kernel_rfl) ha h
def v71 : ACode :=
(.seq
 (.reg [oo 2 (.move (.c (.int .i64 0)))])
 (.seq
 (.seq
 (.reg [mv 4 0,
 oo 5 (.bin .str .eql (.t 4) (.c (.str ⟨#[]⟩)))])
 (.cond (.t 5)
 (.seq
 (.reg [oo 2 (.move (.c (.int .i64 0)))])
 .ret)
 .skip))
 (.seq
 (.seq
 (.reg [oo 3 (.move (.c (.int .i64 1)))])
 (.block 0
 (.loop
 (.seq
 (.seq
 (.reg [mv 6 3,
 oo 7 (.bin .int .leq (.t 6) (.c (.int .i64 11)))])
 (.cond (.t 7)
 .skip
 (.exit 0)))
 (.seq
 (.block 1
 (.seq
 (.reg [mv 10 3,
 oo 11 (.call 123 [(.t 10)]),
 mv 12 0,
 oo 13 (.bin .str .eql (.t 11) (.t 12))])
 (.cond (.t 13)
 (.seq
 (.reg [mv 14 3,
 mv 2 14])
 .ret)
 .skip)))
 (.reg [mv 8 3,
 oo 9 (.bin .int .add (.t 8) (.c (.int .i64 1))),
 mv 3 9]))))))
 (.seq
 (.reg [oo 2 (.move (.c (.int .i64 0)))])
 .ret))))
theorem ent71 : EntOK Tryz.prog 71 ⟨15, v71, [.slot 2]⟩ := fun args σ K ha h =>
 enter (own := List.range 15) Tryz.func71 (by kernel_rfl) (by kernel_rfl) (by kernel_rfl) ha h
def v72 : ACode :=
(.seq
 (.reg [oo 4 (.move (.c (.bool false)))])
 (.seq
 (.reg [mv 5 0,
 mv 6 1,
 oo 7 (.call 124 [(.t 5), (.t 6)]),
 oo 8 (.bin .int .geq (.t 7) (.c (.int .i64 0))),
 mv 4 8])
 .ret))
theorem ent72 : EntOK Tryz.prog 72 ⟨9, v72, [.slot 4]⟩ := fun args σ K ha h =>
 enter (own := List.range 9) Tryz.func72 (by kernel_rfl) (by kernel_rfl) (by kernel_rfl) ha h
def v73 : ACode :=
(.seq
 (.reg [oo 2 (.move (.c (.bool false)))])
 (.seq
 (.seq
 (.reg [mv 5 0,
 oo 6 (.len .slice (.t 5)),
 oo 7 (.move (.c (.int .i64 0)))])
 (.block 0
 (.loop
 (.seq
 (.reg [oo 8 (.bin .int .lss (.t 7) (.t 6))])
 (.seq
 (.cond (.t 8)
 .skip
 (.exit 0))
 (.seq
 (.block 1
 (.seq
 (.reg [mv 9 7,
 oo 10 (.iaddr 1 (.t 5) (.t 7)),
 oo 11 (.load none (.t 10)),
 mv 3 9,
 mv 4 11])
 (.seq
 (.reg [mv 12 4,
 oo 13 (.call 125 [(.t 12)]),
 oo 14 (.not (.t 13)),
 mv 15 14,
 og 16 15 false (.move (.t 0)),
 og 17 15 false (.move (.t 3)),
 og 18 15 false (.cut .slice 1 (.t 16) none (some (.t 17))),
 og 19 15 false (.move (.t 4)),
 og 20 15 false (.call 72 [(.t 18), (.t 19)]),
 oo 21 (.pick (.t 15) (.c (.bool true)) (.t 20))])
 (.cond (.t 21)
 (.seq
 (.reg [oo 2 (.move (.c (.bool false)))])
 .ret)
 .skip))))
 (.reg [oo 22 (.bin .int .add (.t 7) (.c (.int .i64 1))),
 mv 7 22])))))))
 (.seq
 (.reg [oo 2 (.move (.c (.bool true)))])
 .ret)))
theorem ent73 : EntOK Tryz.prog 73 ⟨23, v73, [.slot 2]⟩ := fun args σ K ha h =>
 enter (own := List.range 23) Tryz.func73 (by kernel_rfl) (by kernel_rfl) (by kernel_rfl) ha h
def v74 : ACode :=
(.seq
 (.reg [oo 2 (.new 28 (.t 0)),
 oo 4 (.move (.c (.bool false)))])
 (.seq
 (.reg [oo 14 (.faddr 0 (.t 2)),
 oo 15 (.load none (.t 14)),
 oo 16 (.bin .int .eql (.t 15) (.c (.int .i64 8))),
 mv 17 16,
 og 18 17 false (.faddr 0 (.t 2)),
 og 19 17 false (.load none (.t 18)),
 og 20 17 false (.bin .int .eql (.t 19) (.c (.int .i64 11))),
 oo 21 (.pick (.t 17) (.c (.bool true)) (.t 20)),
 mv 22 21,
 og 23 22 false (.faddr 0 (.t 2)),
 og 24 22 false (.load none (.t 23)),
 og 25 22 false (.bin .int .eql (.t 24) (.c (.int .i64 10))),
 oo 26 (.pick (.t 22) (.c (.bool true)) (.t 25)),
 mv 5 26])
 (.seq
 (.seq
 (.reg [oo 27 (.faddr 0 (.t 2)),
 oo 28 (.load none (.t 27)),
 oo 29 (.bin .int .eql (.t 28) (.c (.int .i64 6))),
 mv 30 29,
 og 31 30 false (.move (.t 1)),
 og 32 30 false (.not (.t 31)),
 og 33 30 false (.move (.t 32)),
 og 34 33 true (.move (.t 5)),
 og 35 30 false (.pick (.t 33) (.t 34) (.c (.bool false))),
 oo 36 (.pick (.t 30) (.c (.bool true)) (.t 35))])
 (.cond (.t 36)
 (.seq
 (.reg [oo 4 (.move (.c (.bool false)))])
 .ret)
 .skip))
 (.seq
 (.seq
 (.reg [oo 37 (.faddr 5 (.t 2)),
 oo 38 (.load none (.t 37)),
 oo 39 (.len .slice (.t 38)),
 oo 40 (.move (.c (.int .i64 0)))])
 (.block 0
 (.loop
 (.seq
 (.reg [oo 41 (.bin .int .lss (.t 40) (.t 39))])
 (.seq
 (.cond (.t 41)
 .skip
 (.exit 0))
 (.seq
 (.block 1
 (.seq
 (.reg [oo 42 (.iaddr 9 (.t 38) (.t 40)),
 oo 43 (.load (some 9) (.t 42)),
 oo 7 (.new 28 (.c (.agg [(.int .i64 0), (.str ⟨#[]⟩), (.int .i64 0), (.int .i64 0), .nils, .nils, .nils, .nils, .nils]))),
 ⟨none, .store 9 (.t 7) (.t 43), none⟩])
 (.seq
 (.reg [oo 44 (.load (some 9) (.t 7)),
 mv 45 1,
 mv 46 45,
 og 47 46 true (.faddr 0 (.t 2)),
 og 48 46 true (.load none (.t 47)),
 og 49 46 true (.bin .int .neq (.t 48) (.c (.int .i64 5))),
 oo 50 (.pick (.t 46) (.t 49) (.c (.bool false))),
 oo 51 (.call 74 [(.t 44), (.t 50)]),
 oo 52 (.not (.t 51))])
 (.cond (.t 52)
 (.seq
 (.reg [oo 4 (.move (.c (.bool false)))])
 .ret)
 .skip))))
 (.reg [oo 53 (.bin .int .add (.t 40) (.c (.int .i64 1))),
 mv 40 53])))))))
 (.seq
 (.seq
 (.reg [oo 54 (.faddr 6 (.t 2)),
 oo 55 (.load none (.t 54)),
 oo 56 (.len .slice (.t 55)),
 oo 57 (.move (.c (.int .i64 0)))])
 (.block 2
 (.loop
 (.seq
 (.reg [oo 58 (.bin .int .lss (.t 57) (.t 56))])
 (.seq
 (.cond (.t 58)
 .skip
 (.exit 2))
 (.seq
 (.block 3
 (.seq
 (.reg [oo 59 (.iaddr 13 (.t 55) (.t 57)),
 oo 60 (.load (some 13) (.t 59)),
 oo 9 (.new 190 (.c (.agg [(.int .i64 0), (.str ⟨#[]⟩), (.int .i64 0), .nils, (.int .i64 0), (.str ⟨#[]⟩), (.int .i64 0), (.int .i64 0), .nils, .nils, .nils, .nils, .nils]))),
 ⟨none, .store 13 (.t 9) (.t 60), none⟩])
 (.seq
 (.reg [oo 61 (.faddr 4 (.t 9)),
 oo 62 (.load (some 9) (.t 61)),
 mv 63 1,
 oo 64 (.call 74 [(.t 62), (.t 63)]),
 oo 65 (.not (.t 64))])
 (.cond (.t 65)
 (.seq
 (.reg [oo 4 (.move (.c (.bool false)))])
 .ret)
 .skip))))
 (.reg [oo 66 (.bin .int .add (.t 57) (.c (.int .i64 1))),
 mv 57 66])))))))
 (.seq
 (.seq
 (.reg [oo 67 (.faddr 7 (.t 2)),
 oo 68 (.load none (.t 67)),
 oo 69 (.len .slice (.t 68)),
 oo 70 (.move (.c (.int .i64 0)))])
 (.block 4
 (.loop
 (.seq
 (.reg [oo 71 (.bin .int .lss (.t 70) (.t 69))])
 (.seq
 (.cond (.t 71)
 .skip
 (.exit 4))
 (.seq
 (.block 5
 (.seq
 (.reg [oo 72 (.iaddr 10 (.t 68) (.t 70)),
 oo 73 (.load (some 10) (.t 72)),
 oo 11 (.new 191 (.c (.agg [(.str ⟨#[]⟩), (.int .i64 0), (.str ⟨#[]⟩), (.int .i64 0), (.int .i64 0), .nils, .nils, .nils, .nils, .nils]))),
 ⟨none, .store 10 (.t 11) (.t 73), none⟩])
 (.seq
 (.reg [oo 74 (.faddr 1 (.t 11)),
 oo 75 (.load (some 9) (.t 74)),
 oo 76 (.call 74 [(.t 75), (.c (.bool false))]),
 oo 77 (.not (.t 76))])
 (.cond (.t 77)
 (.seq
 (.reg [oo 4 (.move (.c (.bool false)))])
 .ret)
 .skip))))
 (.reg [oo 78 (.bin .int .add (.t 70) (.c (.int .i64 1))),
 mv 70 78])))))))
 (.seq
 (.seq
 (.reg [oo 79 (.faddr 8 (.t 2)),
 oo 80 (.load none (.t 79)),
 oo 81 (.len .slice (.t 80)),
 oo 82 (.move (.c (.int .i64 0)))])
 (.block 6
 (.loop
 (.seq
 (.reg [oo 83 (.bin .int .lss (.t 82) (.t 81))])
 (.seq
 (.cond (.t 83)
 .skip
 (.exit 6))
 (.seq
 (.block 7
 (.seq
 (.reg [oo 84 (.iaddr 10 (.t 80) (.t 82)),
 oo 85 (.load (some 10) (.t 84)),
 oo 13 (.new 193 (.c (.agg [(.int .i64 0), (.int .i64 0), (.str ⟨#[]⟩), (.int .i64 0), (.int .i64 0), .nils, .nils, .nils, .nils, .nils]))),
 ⟨none, .store 10 (.t 13) (.t 85), none⟩])
 (.seq
 (.reg [oo 86 (.faddr 1 (.t 13)),
 oo 87 (.load (some 9) (.t 86)),
 mv 88 1,
 oo 89 (.call 74 [(.t 87), (.t 88)]),
 oo 90 (.not (.t 89))])
 (.cond (.t 90)
 (.seq
 (.reg [oo 4 (.move (.c (.bool false)))])
 .ret)
 .skip))))
 (.reg [oo 91 (.bin .int .add (.t 82) (.c (.int .i64 1))),
 mv 82 91])))))))
 (.seq
 (.reg [oo 4 (.move (.c (.bool true)))])
 .ret))))))))
theorem ent74 : EntOK Tryz.prog 74 ⟨92, v74, [.slot 4]⟩ := fun args σ K ha h =>
 enter (own := List.range 92) Tryz.func74 (by kernel_rfl) (by kernel_rfl) (by kernel_rfl) ha h
end Go.Proofs.YtojfdejpoideaaaGreat

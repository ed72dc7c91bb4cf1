/- A part of the proof of the claim: the abstract layer, the contracts of the functions, the law (no condition of its own). -/
import Derived.Test.YtojfdejpoideaaaGreatProg
import Derived.Test.YtojfdejpoideaaaGreatK3
import Derived.KernelRfl
open Nat renaming reduceEqDiff → Za, reduceAdd → Zb, reduceLeDiff → Zc
open Int renaming reduceEq → Zd, reduceLT → Ze, reduceLE → Zf, reduceNeg → Zg, reduceAdd → Zh, reduceSub → Zi, reduceToNat → Zj
/- The resolved code of some functions. -/
set_option linter.unusedVariables false
namespace Go.Proofs.YtojfdejpoideaaaGreat
open Go.AL
/-- changeling/changelinglaw18.GmNil -/
def c3 : ACode :=
(.seq
 (.reg [oo 3 (.new 28 (.t 0)),
 oo 5 (.new 30 (.t 2)),
 oo 6 (.move (.c (.bool false)))])
 (.seq
 (.reg [oo 7 (.move (.c .nilp))])
 (.seq
 (.reg [oo 8 (.move (.c .nilp))])
 (.seq
 (.reg [mv 20 7,
 oo 21 (.load (some 9) (.t 3)),
 mv 22 1,
 oo 23 (.load (some 4) (.t 5)),
 oo 24 (.call 4 [(.t 20), (.t 21), (.t 22), (.t 23)]),
 mv 19 24,
 oo 25 (.extract (.t 19) 0),
 oo 26 (.extract (.t 19) 1),
 oo 9 (.new 37 (.c (.agg [(.int .i64 0), (.str ⟨#[]⟩), (.int .i64 0), .nils, (.int .i64 0)]))),
 ⟨none, .store 5 (.t 9) (.t 25), none⟩,
 mv 10 26])
 (.seq
 (.reg [mv 28 7,
 oo 29 (.load (some 9) (.t 3)),
 mv 30 1,
 oo 31 (.load (some 4) (.t 5)),
 oo 32 (.call 5 [(.t 28), (.t 29), (.t 30), (.t 31)]),
 mv 27 32,
 oo 33 (.extract (.t 27) 0),
 oo 34 (.extract (.t 27) 1),
 mv 11 33,
 mv 12 34])
 (.seq
 (.seq
 (.reg [mv 35 10,
 oo 36 (.bin .int .neq (.t 35) (.c (.int .i64 3))),
 mv 37 36,
 og 38 37 false (.move (.t 12)),
 og 39 37 false (.bin .int .neq (.t 38) (.c (.int .i64 3))),
 oo 40 (.pick (.t 37) (.c (.bool true)) (.t 39)),
 mv 41 40,
 og 42 41 false (.move (.t 11)),
 og 43 41 false (.nileq .ptr true (.t 42) (.c .nilp)),
 oo 44 (.pick (.t 41) (.c (.bool true)) (.t 43)),
 mv 45 44,
 og 46 45 false (.faddr 0 (.t 9)),
 og 47 45 false (.load none (.t 46)),
 og 48 45 false (.bin .int .neq (.t 47) (.c (.int .i64 0))),
 oo 49 (.pick (.t 45) (.c (.bool true)) (.t 48)),
 mv 50 49,
 og 51 50 false (.move (.t 8)),
 og 52 50 false (.call 6 [(.t 51)]),
 oo 53 (.pick (.t 50) (.c (.bool true)) (.t 52)),
 mv 54 53,
 og 55 54 false (.move (.t 8)),
 og 56 54 false (.call 7 [(.t 55)]),
 og 57 54 false (.field 0 none (.t 56)),
 og 58 54 false (.bin .int .neq (.t 57) (.c (.int .i64 0))),
 oo 59 (.pick (.t 54) (.c (.bool true)) (.t 58)),
 mv 60 59,
 og 61 60 false (.move (.t 8)),
 og 62 60 false (.call 8 [(.t 61)]),
 og 63 60 false (.move (.t 8)),
 og 64 60 false (.call 9 [(.t 63)]),
 og 65 60 false (.bin .int .add (.t 62) (.t 64)),
 og 66 60 false (.move (.t 8)),
 og 67 60 false (.call 10 [(.t 66)]),
 og 68 60 false (.bin .int .add (.t 65) (.t 67)),
 og 69 60 false (.move (.t 8)),
 og 70 60 false (.call 11 [(.t 69)]),
 og 71 60 false (.bin .int .add (.t 68) (.t 70)),
 og 72 60 false (.bin .int .neq (.t 71) (.c (.int .i64 0))),
 oo 73 (.pick (.t 60) (.c (.bool true)) (.t 72))])
 (.cond (.t 73)
 (.seq
 (.reg [oo 6 (.move (.c (.bool false)))])
 .ret)
 .skip))
 (.seq
 (.reg [oo 75 (.call 12 [(.c (.str ⟨#[102, 32, 61, 32, 49]⟩))]),
 mv 74 75,
 oo 76 (.extract (.t 74) 0),
 oo 77 (.extract (.t 74) 1),
 oo 78 (.extract (.t 74) 2),
 oo 79 (.extract (.t 74) 3),
 oo 13 (.new 50 (.c (.agg [.nils, .nils, .nils]))),
 ⟨none, .store 3 (.t 13) (.t 76), none⟩,
 mv 14 77,
 mv 15 78,
 mv 16 79])
 (.seq
 (.seq
 (.reg [mv 80 16,
 oo 81 (.nileq .ptr false (.t 80) (.c .nilp))])
 (.cond (.t 81)
 (.seq
 (.reg [oo 6 (.move (.c (.bool false)))])
 .ret)
 .skip))
 (.seq
 (.draw [] [([⟨(some 83), .move (.t 16), none⟩], []),
 ([⟨(some 85), .move (.t 1), none⟩], []),
 ([⟨(some 86), .load (some 4) (.t 5), none⟩], []),
 ([⟨(some 84), .call 13 [(.c (.str ⟨#[102]⟩))], none⟩], [⟨(some 86), .load (some 4) (.t 5), none⟩]),
 ([⟨(some 87), .call 5 [(.t 83), (.t 84), (.t 85), (.t 86)], none⟩], []),
 ([⟨(some 82), .move (.t 87), none⟩], []),
 ([⟨(some 88), .extract (.t 82) 0, none⟩], []),
 ([⟨(some 89), .extract (.t 82) 1, none⟩], []),
 ([⟨(some 17), .move (.t 88), none⟩], []),
 ([⟨(some 18), .move (.t 89), none⟩], [])])
 (.seq
 (.reg [mv 90 18,
 oo 91 (.bin .int .eql (.t 90) (.c (.int .i64 0))),
 oo 92 (.load (some 4) (.t 5)),
 oo 93 (.call 14 [(.t 92)]),
 oo 94 (.bin .bool .eql (.t 91) (.t 93)),
 mv 95 94,
 og 96 95 true (.move (.t 17)),
 og 97 95 true (.nileq .ptr true (.t 96) (.c .nilp)),
 og 98 95 true (.load (some 4) (.t 5)),
 og 99 95 true (.call 14 [(.t 98)]),
 og 100 95 true (.bin .bool .eql (.t 97) (.t 99)),
 oo 101 (.pick (.t 95) (.t 100) (.c (.bool false))),
 mv 102 101,
 og 103 102 true (.move (.t 18)),
 og 104 102 true (.bin .int .eql (.t 103) (.c (.int .i64 0))),
 og 105 102 true (.move (.t 104)),
 og 106 105 false (.move (.t 18)),
 og 107 105 false (.bin .int .eql (.t 106) (.c (.int .i64 1))),
 og 108 102 true (.pick (.t 105) (.c (.bool true)) (.t 107)),
 oo 109 (.pick (.t 102) (.t 108) (.c (.bool false))),
 mv 110 109,
 og 111 110 true (.call 15 []),
 oo 112 (.pick (.t 110) (.t 111) (.c (.bool false))),
 mv 6 112])
 .ret))))))))))
theorem in3 {args : List AV} {σ : Store} {K : AV → Store → Prop} (hargs : args.length ≤ 113 := by simp) (h : AWP Tryz.prog Tryz.f3.ntmps c3 (fun e t s => match e with | .exit _ => False | _ => Res [.slot 6] K t s) (env (argList 0 args)) σ) : ACalls Tryz.prog 3 args σ K :=
 enter (own := []) Tryz.func3 (by kernel_rfl) (by kernel_rfl) (by kernel_rfl) hargs h
/-- (*changeling/gm.Program).Run -/
def c4 : ACode :=
(.seq
 (.reg [oo 5 (.new 28 (.t 1)),
 oo 7 (.new 30 (.t 3)),
 oo 8 (.new 37 (.c (.agg [(.int .i64 0), (.str ⟨#[]⟩), (.int .i64 0), .nils, (.int .i64 0)]))),
 oo 9 (.move (.c (.int .i64 0)))])
 (.seq
 (.reg [mv 13 0,
 oo 14 (.load (some 9) (.t 5)),
 mv 15 2,
 oo 16 (.load (some 4) (.t 7)),
 oo 17 (.call 5 [(.t 13), (.t 14), (.t 15), (.t 16)]),
 mv 12 17,
 oo 18 (.extract (.t 12) 0),
 oo 19 (.extract (.t 12) 1),
 mv 10 18,
 mv 11 19])
 (.seq
 (.seq
 (.reg [mv 20 11,
 oo 21 (.bin .int .neq (.t 20) (.c (.int .i64 0)))])
 (.cond (.t 21)
 (.seq
 (.reg [oo 22 (.build [(.int .i64 0), (.str ⟨#[]⟩), (.int .i64 0), .nils, (.int .i64 0)] []),
 mv 23 11,
 ⟨none, .store 5 (.t 8) (.t 22), none⟩,
 mv 9 23])
 .ret)
 .skip))
 (.seq
 (.block 0
 (.loop
 (.seq
 (.seq
 (.reg [mv 24 10,
 oo 25 (.call 6 [(.t 24)])])
 (.cond (.t 25)
 .skip
 (.exit 0)))
 (.block 1
 .skip))))
 (.seq
 (.reg [mv 26 10,
 oo 27 (.call 7 [(.t 26)]),
 ⟨none, .store 5 (.t 8) (.t 27), none⟩,
 oo 9 (.move (.c (.int .i64 0)))])
 .ret)))))
theorem in4 {args : List AV} {σ : Store} {K : AV → Store → Prop} (hargs : args.length ≤ 28 := by simp) (h : AWP Tryz.prog Tryz.f4.ntmps c4 (fun e t s => match e with | .exit _ => False | _ => Res [.cell 8 (some 5), .slot 9] K t s) (env (argList 0 args)) σ) : ACalls Tryz.prog 4 args σ K :=
 enter (own := []) Tryz.func4 (by kernel_rfl) (by kernel_rfl) (by kernel_rfl) hargs h
/-- (*changeling/gm.Program).Start -/
def c5 : ACode :=
(.seq
 (.reg [oo 5 (.new 28 (.t 1)),
 oo 7 (.new 30 (.t 3)),
 oo 8 (.move (.c .nilp)),
 oo 9 (.move (.c (.int .i64 0)))])
 (.seq
 (.seq
 (.reg [mv 18 0,
 oo 19 (.nileq .ptr false (.t 18) (.c .nilp)),
 mv 20 19,
 og 21 20 false (.move (.t 0)),
 og 22 20 false (.nilck (.t 21)),
 og 23 20 false (.faddr 2 (.t 22)),
 og 24 20 false (.load none (.t 23)),
 og 25 20 false (.nileq .slice false (.t 24) (.c .nils)),
 oo 26 (.pick (.t 20) (.c (.bool true)) (.t 25))])
 (.cond (.t 26)
 (.seq
 (.reg [oo 8 (.move (.c .nilp)),
 oo 9 (.move (.c (.int .i64 3)))])
 .ret)
 .skip))
 (.seq
 (.seq
 (.reg [oo 27 (.load (some 4) (.t 7)),
 oo 28 (.call 16 [(.t 27)]),
 oo 29 (.not (.t 28))])
 (.cond (.t 29)
 (.seq
 (.reg [oo 8 (.move (.c .nilp)),
 oo 9 (.move (.c (.int .i64 1)))])
 .ret)
 .skip))
 (.seq
 (.draw [10] [([⟨(some 31), .load (some 9) (.t 5), none⟩], []),
 ([⟨(some 32), .move (.t 0), none⟩], []),
 ([⟨(some 33), .nilck (.t 32), none⟩], []),
 ([⟨(some 34), .faddr 0 (.t 33), none⟩], []),
 ([⟨(some 35), .load none (.t 34), none⟩], []),
 ([⟨(some 36), .move (.t 0), none⟩], []),
 ([⟨(some 37), .nilck (.t 36), none⟩], []),
 ([⟨(some 38), .faddr 1 (.t 37), none⟩], []),
 ([⟨(some 39), .load none (.t 38), none⟩], []),
 ([⟨(some 40), .call 17 [(.t 31), (.t 35), (.t 39)], none⟩], []),
 ([⟨(some 30), .move (.t 40), none⟩], []),
 ([⟨(some 41), .extract (.t 30) 0, none⟩], []),
 ([⟨(some 42), .extract (.t 30) 1, none⟩], []),
 ([⟨(some 10), .new 63 (.c (.agg [(.str ⟨#[]⟩), (.int .i64 0), (.bool false), .nils])), none⟩, ⟨none, .store 4 (.t 10) (.t 41), none⟩], []),
 ([⟨(some 11), .move (.t 42), none⟩], [])])
 (.seq
 (.seq
 (.reg [mv 43 11,
 oo 44 (.bin .int .neq (.t 43) (.c (.int .i64 0)))])
 (.cond (.t 44)
 (.seq
 (.reg [mv 45 11,
 oo 8 (.move (.c .nilp)),
 mv 9 45])
 .ret)
 .skip))
 (.seq
 (.reg [oo 47 (.faddr 1 (.t 7)),
 oo 48 (.load none (.t 47)),
 oo 49 (.call 18 [(.t 48)]),
 mv 46 49,
 oo 50 (.extract (.t 46) 0),
 oo 51 (.extract (.t 46) 1),
 mv 12 50,
 mv 13 51])
 (.seq
 (.reg [mv 52 0,
 oo 53 (.load (some 4) (.t 10)),
 mv 54 12,
 oo 55 (.load (some 4) (.t 7)),
 mv 56 2,
 oo 57 (.build [.nilp, (.str ⟨#[]⟩), (.int .i64 0), (.bool false), .nils, .nilp, (.int .i64 0), (.int .i64 0), (.int .i64 0), (.int .i64 0), (.int .i64 0), .nils, .nils, .nils, (.int .i64 0), (.int .i64 0), (.int .i64 0), (.bool false), (.int .i64 0), (.int .i64 0), .nils, (.bool false), (.int .i64 0), (.str ⟨#[]⟩), (.int .i64 0), .nils, (.int .i64 0)] [(0, 1, (.t 52)), (1, 4, (.t 53)), (5, 1, (.t 54)), (6, 4, (.t 55)), (10, 1, (.t 56)), (14, 1, (.c (.int .i64 (-1))))]),
 oo 58 (.new 73 (.t 57)),
 mv 14 58])
 (.seq
 (.seq
 (.reg [mv 59 0,
 oo 60 (.nilck (.t 59)),
 oo 61 (.faddr 2 (.t 60)),
 oo 62 (.load none (.t 61)),
 oo 63 (.len .slice (.t 62)),
 oo 64 (.move (.c (.int .i64 0)))])
 (.block 0
 (.loop
 (.seq
 (.reg [oo 65 (.bin .int .lss (.t 64) (.t 63))])
 (.seq
 (.cond (.t 65)
 .skip
 (.exit 0))
 (.seq
 (.block 1
 (.seq
 (.reg [mv 66 64,
 mv 15 66])
 (.seq
 (.reg [mv 68 12,
 mv 69 15,
 oo 70 (.build [(.int .i64 0), (.int .i64 0), .nils] [(0, 1, (.c (.int .i64 4))), (1, 1, (.t 69))]),
 oo 71 (.call 19 [(.t 68), (.t 70)]),
 mv 67 71,
 oo 72 (.extract (.t 67) 0),
 oo 73 (.extract (.t 67) 1),
 mv 16 72,
 mv 17 73])
 (.seq
 (.seq
 (.reg [mv 74 17,
 oo 75 (.bin .int .neq (.t 74) (.c (.int .i64 0)))])
 (.cond (.t 75)
 (.seq
 (.reg [mv 76 14,
 oo 77 (.call 20 [(.t 76), (.c (.int .i64 6))])])
 (.exit 0))
 .skip))
 (.reg [mv 78 14,
 mv 79 14,
 oo 80 (.nilck (.t 79)),
 oo 81 (.faddr 11 (.t 80)),
 oo 82 (.load none (.t 81)),
 mv 83 16,
 oo 84 (.lit false 3 1 [(.t 83)]),
 oo 85 (.append 3 1 8 (.t 82) (.t 84)),
 oo 86 (.nilck (.t 78)),
 oo 87 (.faddr 11 (.t 86)),
 ⟨none, .store 1 (.t 87) (.t 85), none⟩])))))
 (.reg [oo 88 (.bin .int .add (.t 64) (.c (.int .i64 1))),
 mv 64 88])))))))
 (.seq
 (.reg [mv 89 14,
 mv 8 89,
 oo 9 (.move (.c (.int .i64 0)))])
 .ret)))))))))
theorem in5 {args : List AV} {σ : Store} {K : AV → Store → Prop} (hargs : args.length ≤ 90 := by simp) (h : AWP Tryz.prog Tryz.f5.ntmps c5 (fun e t s => match e with | .exit _ => False | _ => Res [.slot 8, .slot 9] K t s) (env (argList 0 args)) σ) : ACalls Tryz.prog 5 args σ K :=
 enter (own := []) Tryz.func5 (by kernel_rfl) (by kernel_rfl) (by kernel_rfl) hargs h
/-- (*changeling/gm.Machine).Step -/
def c6 : ACode :=
(.seq
 (.reg [oo 2 (.move (.c (.bool false)))])
 (.seq
 (.seq
 (.reg [mv 3 0,
 oo 4 (.nileq .ptr false (.t 3) (.c .nilp)),
 mv 5 4,
 og 6 5 false (.move (.t 0)),
 og 7 5 false (.nilck (.t 6)),
 og 8 5 false (.faddr 21 (.t 7)),
 og 9 5 false (.load none (.t 8)),
 oo 10 (.pick (.t 5) (.c (.bool true)) (.t 9))])
 (.cond (.t 10)
 (.seq
 (.reg [oo 2 (.move (.c (.bool false)))])
 .ret)
 .skip))
 (.seq
 (.seq
 (.reg [mv 11 0,
 oo 12 (.nilck (.t 11)),
 oo 13 (.faddr 19 (.t 12)),
 oo 14 (.load none (.t 13)),
 mv 15 0,
 oo 16 (.nilck (.t 15)),
 oo 17 (.faddr 6 (.t 16)),
 oo 18 (.faddr 0 (.t 17)),
 oo 19 (.load none (.t 18)),
 oo 20 (.bin .int .geq (.t 14) (.t 19))])
 (.cond (.t 20)
 (.seq
 (.reg [mv 21 0,
 oo 22 (.call 20 [(.t 21), (.c (.int .i64 5))])])
 (.seq
 (.reg [oo 2 (.move (.c (.bool false)))])
 .ret))
 .skip))
 (.seq
 (.reg [mv 23 0,
 oo 24 (.nilck (.t 23)),
 oo 25 (.faddr 19 (.t 24)),
 oo 26 (.load none (.t 25)),
 oo 27 (.bin .int .add (.t 26) (.c (.int .i64 1))),
 oo 28 (.nilck (.t 23)),
 oo 29 (.faddr 19 (.t 28)),
 ⟨none, .store 1 (.t 29) (.t 27), none⟩])
 (.seq
 (.seq
 (.reg [mv 30 0,
 oo 31 (.nilck (.t 30)),
 oo 32 (.faddr 17 (.t 31)),
 oo 33 (.load none (.t 32))])
 (.cond (.t 33)
 (.reg [mv 34 0,
 oo 35 (.call 21 [(.t 34)])])
 (.reg [mv 36 0,
 oo 37 (.call 22 [(.t 36)])])))
 (.seq
 (.reg [mv 38 0,
 oo 39 (.nilck (.t 38)),
 oo 40 (.faddr 21 (.t 39)),
 oo 41 (.load none (.t 40)),
 oo 42 (.not (.t 41)),
 mv 2 42])
 .ret))))))
theorem in6 {args : List AV} {σ : Store} {K : AV → Store → Prop} (hargs : args.length ≤ 43 := by simp) (h : AWP Tryz.prog Tryz.f6.ntmps c6 (fun e t s => match e with | .exit _ => False | _ => Res [.slot 2] K t s) (env (argList 0 args)) σ) : ACalls Tryz.prog 6 args σ K :=
 enter (own := []) Tryz.func6 (by kernel_rfl) (by kernel_rfl) (by kernel_rfl) hargs h
/-- (*changeling/gm.Machine).Out -/
def c7 : ACode :=
(.seq
 (.reg [oo 2 (.new 37 (.c (.agg [(.int .i64 0), (.str ⟨#[]⟩), (.int .i64 0), .nils, (.int .i64 0)])))])
 (.seq
 (.seq
 (.reg [mv 3 0,
 oo 4 (.nileq .ptr false (.t 3) (.c .nilp))])
 (.cond (.t 4)
 (.seq
 (.reg [oo 5 (.build [(.int .i64 0), (.str ⟨#[]⟩), (.int .i64 0), .nils, (.int .i64 0)] []),
 ⟨none, .store 5 (.t 2) (.t 5), none⟩])
 .ret)
 .skip))
 (.seq
 (.reg [mv 6 0,
 oo 7 (.nilck (.t 6)),
 oo 8 (.faddr 22 (.t 7)),
 oo 9 (.load (some 5) (.t 8)),
 ⟨none, .store 5 (.t 2) (.t 9), none⟩])
 .ret)))
theorem in7 {args : List AV} {σ : Store} {K : AV → Store → Prop} (hargs : args.length ≤ 10 := by simp) (h : AWP Tryz.prog Tryz.f7.ntmps c7 (fun e t s => match e with | .exit _ => False | _ => Res [.cell 2 (some 5)] K t s) (env (argList 0 args)) σ) : ACalls Tryz.prog 7 args σ K :=
 enter (own := []) Tryz.func7 (by kernel_rfl) (by kernel_rfl) (by kernel_rfl) hargs h
/-- (*changeling/gm.Machine).Steps -/
def c8 : ACode :=
(.seq
 (.reg [oo 2 (.move (.c (.int .i64 0)))])
 (.seq
 (.seq
 (.reg [mv 3 0,
 oo 4 (.nileq .ptr false (.t 3) (.c .nilp))])
 (.cond (.t 4)
 (.seq
 (.reg [oo 2 (.move (.c (.int .i64 0)))])
 .ret)
 .skip))
 (.seq
 (.reg [mv 5 0,
 oo 6 (.nilck (.t 5)),
 oo 7 (.faddr 19 (.t 6)),
 oo 8 (.load none (.t 7)),
 mv 2 8])
 .ret)))
theorem in8 {args : List AV} {σ : Store} {K : AV → Store → Prop} (hargs : args.length ≤ 9 := by simp) (h : AWP Tryz.prog Tryz.f8.ntmps c8 (fun e t s => match e with | .exit _ => False | _ => Res [.slot 2] K t s) (env (argList 0 args)) σ) : ACalls Tryz.prog 8 args σ K :=
 enter (own := []) Tryz.func8 (by kernel_rfl) (by kernel_rfl) (by kernel_rfl) hargs h
/-- (*changeling/gm.Machine).Depth -/
def c9 : ACode :=
(.seq
 (.reg [oo 2 (.move (.c (.int .i64 0)))])
 (.seq
 (.seq
 (.reg [mv 3 0,
 oo 4 (.nileq .ptr false (.t 3) (.c .nilp))])
 (.cond (.t 4)
 (.seq
 (.reg [oo 2 (.move (.c (.int .i64 0)))])
 .ret)
 .skip))
 (.seq
 (.reg [mv 5 0,
 oo 6 (.nilck (.t 5)),
 oo 7 (.faddr 12 (.t 6)),
 oo 8 (.load none (.t 7)),
 oo 9 (.len .slice (.t 8)),
 mv 2 9])
 .ret)))
theorem in9 {args : List AV} {σ : Store} {K : AV → Store → Prop} (hargs : args.length ≤ 10 := by simp) (h : AWP Tryz.prog Tryz.f9.ntmps c9 (fun e t s => match e with | .exit _ => False | _ => Res [.slot 2] K t s) (env (argList 0 args)) σ) : ACalls Tryz.prog 9 args σ K :=
 enter (own := []) Tryz.func9 (by kernel_rfl) (by kernel_rfl) (by kernel_rfl) hargs h
/-- (*changeling/gm.Machine).Live -/
def c10 : ACode :=
(.seq
 (.reg [oo 2 (.move (.c (.int .i64 0)))])
 (.seq
 (.seq
 (.reg [mv 3 0,
 oo 4 (.nileq .ptr false (.t 3) (.c .nilp))])
 (.cond (.t 4)
 (.seq
 (.reg [oo 2 (.move (.c (.int .i64 0)))])
 .ret)
 .skip))
 (.seq
 (.reg [mv 5 0,
 oo 6 (.nilck (.t 5)),
 oo 7 (.faddr 5 (.t 6)),
 oo 8 (.load none (.t 7)),
 oo 9 (.call 23 [(.t 8)]),
 mv 2 9])
 .ret)))
theorem in10 {args : List AV} {σ : Store} {K : AV → Store → Prop} (hargs : args.length ≤ 10 := by simp) (h : AWP Tryz.prog Tryz.f10.ntmps c10 (fun e t s => match e with | .exit _ => False | _ => Res [.slot 2] K t s) (env (argList 0 args)) σ) : ACalls Tryz.prog 10 args σ K :=
 enter (own := []) Tryz.func10 (by kernel_rfl) (by kernel_rfl) (by kernel_rfl) hargs h
/-- (*changeling/gm.Machine).Frames -/
def c11 : ACode :=
(.seq
 (.reg [oo 2 (.move (.c (.int .i64 0)))])
 (.seq
 (.seq
 (.reg [mv 3 0,
 oo 4 (.nileq .ptr false (.t 3) (.c .nilp))])
 (.cond (.t 4)
 (.seq
 (.reg [oo 2 (.move (.c (.int .i64 0)))])
 .ret)
 .skip))
 (.seq
 (.reg [mv 5 0,
 oo 6 (.nilck (.t 5)),
 oo 7 (.faddr 13 (.t 6)),
 oo 8 (.load none (.t 7)),
 oo 9 (.len .slice (.t 8)),
 mv 2 9])
 .ret)))
theorem in11 {args : List AV} {σ : Store} {K : AV → Store → Prop} (hargs : args.length ≤ 10 := by simp) (h : AWP Tryz.prog Tryz.f11.ntmps c11 (fun e t s => match e with | .exit _ => False | _ => Res [.slot 2] K t s) (env (argList 0 args)) σ) : ACalls Tryz.prog 11 args σ K :=
 enter (own := []) Tryz.func11 (by kernel_rfl) (by kernel_rfl) (by kernel_rfl) hargs h
/-- changeling/changelinglaw18.glob -/
def c13 : ACode :=
(.seq
 (.reg [oo 2 (.new 28 (.c (.agg [(.int .i64 0), (.str ⟨#[]⟩), (.int .i64 0), (.int .i64 0), .nils, .nils, .nils, .nils, .nils])))])
 (.seq
 (.reg [mv 3 0,
 oo 4 (.build [(.int .i64 0), (.str ⟨#[]⟩), (.int .i64 0), (.int .i64 0), .nils, .nils, .nils, .nils, .nils] [(0, 1, (.c (.int .i64 2))), (1, 1, (.t 3))]),
 ⟨none, .store 9 (.t 2) (.t 4), none⟩])
 .ret))
theorem in13 {args : List AV} {σ : Store} {K : AV → Store → Prop} (hargs : args.length ≤ 5 := by simp) (h : AWP Tryz.prog Tryz.f13.ntmps c13 (fun e t s => match e with | .exit _ => False | _ => Res [.cell 2 (some 9)] K t s) (env (argList 0 args)) σ) : ACalls Tryz.prog 13 args σ K :=
 enter (own := []) Tryz.func13 (by kernel_rfl) (by kernel_rfl) (by kernel_rfl) hargs h
/-- changeling/changelingref18.Right -/
def c14 : ACode :=
(.seq
 (.reg [oo 1 (.new 30 (.t 0)),
 oo 2 (.move (.c (.bool false)))])
 (.seq
 (.reg [oo 3 (.faddr 0 (.t 1)),
 oo 4 (.load none (.t 3)),
 oo 5 (.bin .int .geq (.t 4) (.c (.int .i64 0))),
 mv 6 5,
 og 7 6 true (.faddr 0 (.t 1)),
 og 8 6 true (.load none (.t 7)),
 og 9 6 true (.bin .int .leq (.t 8) (.c (.int .i64 1099511627776))),
 oo 10 (.pick (.t 6) (.t 9) (.c (.bool false))),
 mv 11 10,
 og 12 11 true (.faddr 1 (.t 1)),
 og 13 11 true (.load none (.t 12)),
 og 14 11 true (.bin .int .geq (.t 13) (.c (.int .i64 1))),
 oo 15 (.pick (.t 11) (.t 14) (.c (.bool false))),
 mv 16 15,
 og 17 16 true (.faddr 1 (.t 1)),
 og 18 16 true (.load none (.t 17)),
 og 19 16 true (.bin .int .leq (.t 18) (.c (.int .i64 16777216))),
 oo 20 (.pick (.t 16) (.t 19) (.c (.bool false))),
 mv 21 20,
 og 22 21 true (.faddr 2 (.t 1)),
 og 23 21 true (.load none (.t 22)),
 og 24 21 true (.bin .int .geq (.t 23) (.c (.int .i64 1))),
 oo 25 (.pick (.t 21) (.t 24) (.c (.bool false))),
 mv 26 25,
 og 27 26 true (.faddr 2 (.t 1)),
 og 28 26 true (.load none (.t 27)),
 og 29 26 true (.bin .int .leq (.t 28) (.c (.int .i64 16777216))),
 oo 30 (.pick (.t 26) (.t 29) (.c (.bool false))),
 mv 31 30,
 og 32 31 true (.faddr 3 (.t 1)),
 og 33 31 true (.load none (.t 32)),
 og 34 31 true (.bin .int .geq (.t 33) (.c (.int .i64 0))),
 oo 35 (.pick (.t 31) (.t 34) (.c (.bool false))),
 mv 2 35])
 .ret))
theorem in14 {args : List AV} {σ : Store} {K : AV → Store → Prop} (hargs : args.length ≤ 36 := by simp) (h : AWP Tryz.prog Tryz.f14.ntmps c14 (fun e t s => match e with | .exit _ => False | _ => Res [.slot 2] K t s) (env (argList 0 args)) σ) : ACalls Tryz.prog 14 args σ K :=
 enter (own := []) Tryz.func14 (by kernel_rfl) (by kernel_rfl) (by kernel_rfl) hargs h
/-- changeling/gm.right -/
def c16 : ACode :=
(.seq
 (.reg [oo 1 (.new 30 (.t 0)),
 oo 2 (.move (.c (.bool false)))])
 (.seq
 (.reg [oo 3 (.faddr 0 (.t 1)),
 oo 4 (.load none (.t 3)),
 oo 5 (.bin .int .geq (.t 4) (.c (.int .i64 0))),
 mv 6 5,
 og 7 6 true (.faddr 0 (.t 1)),
 og 8 6 true (.load none (.t 7)),
 og 9 6 true (.bin .int .leq (.t 8) (.c (.int .i64 1099511627776))),
 oo 10 (.pick (.t 6) (.t 9) (.c (.bool false))),
 mv 11 10,
 og 12 11 true (.faddr 1 (.t 1)),
 og 13 11 true (.load none (.t 12)),
 og 14 11 true (.bin .int .geq (.t 13) (.c (.int .i64 1))),
 oo 15 (.pick (.t 11) (.t 14) (.c (.bool false))),
 mv 16 15,
 og 17 16 true (.faddr 1 (.t 1)),
 og 18 16 true (.load none (.t 17)),
 og 19 16 true (.bin .int .leq (.t 18) (.c (.int .i64 16777216))),
 oo 20 (.pick (.t 16) (.t 19) (.c (.bool false))),
 mv 21 20,
 og 22 21 true (.faddr 2 (.t 1)),
 og 23 21 true (.load none (.t 22)),
 og 24 21 true (.bin .int .geq (.t 23) (.c (.int .i64 1))),
 oo 25 (.pick (.t 21) (.t 24) (.c (.bool false))),
 mv 26 25,
 og 27 26 true (.faddr 2 (.t 1)),
 og 28 26 true (.load none (.t 27)),
 og 29 26 true (.bin .int .leq (.t 28) (.c (.int .i64 16777216))),
 oo 30 (.pick (.t 26) (.t 29) (.c (.bool false))),
 mv 31 30,
 og 32 31 true (.faddr 3 (.t 1)),
 og 33 31 true (.load none (.t 32)),
 og 34 31 true (.bin .int .geq (.t 33) (.c (.int .i64 0))),
 oo 35 (.pick (.t 31) (.t 34) (.c (.bool false))),
 mv 2 35])
 .ret))
theorem in16 {args : List AV} {σ : Store} {K : AV → Store → Prop} (hargs : args.length ≤ 36 := by simp) (h : AWP Tryz.prog Tryz.f16.ntmps c16 (fun e t s => match e with | .exit _ => False | _ => Res [.slot 2] K t s) (env (argList 0 args)) σ) : ACalls Tryz.prog 16 args σ K :=
 enter (own := []) Tryz.func16 (by kernel_rfl) (by kernel_rfl) (by kernel_rfl) hargs h
/-- changeling/heap.New -/
def c18 : ACode :=
(.seq
 (.reg [oo 2 (.move (.c .nilp)),
 oo 3 (.move (.c (.int .i64 0)))])
 (.seq
 (.seq
 (.reg [mv 4 0,
 oo 5 (.bin .int .lss (.t 4) (.c (.int .i64 1))),
 mv 6 5,
 og 7 6 false (.move (.t 0)),
 og 8 6 false (.bin .int .gtr (.t 7) (.c (.int .i64 16777216))),
 oo 9 (.pick (.t 6) (.c (.bool true)) (.t 8))])
 (.cond (.t 9)
 (.seq
 (.reg [oo 2 (.move (.c .nilp)),
 oo 3 (.move (.c (.int .i64 1)))])
 .ret)
 .skip))
 (.seq
 (.reg [mv 10 0,
 oo 11 (.build [(.int .i64 0), .nils, .nils, (.int .i64 0), (.int .i64 0)] [(0, 1, (.t 10))]),
 oo 12 (.new 113 (.t 11)),
 mv 2 12,
 oo 3 (.move (.c (.int .i64 0)))])
 .ret)))
theorem in18 {args : List AV} {σ : Store} {K : AV → Store → Prop} (hargs : args.length ≤ 13 := by simp) (h : AWP Tryz.prog Tryz.f18.ntmps c18 (fun e t s => match e with | .exit _ => False | _ => Res [.slot 2, .slot 3] K t s) (env (argList 0 args)) σ) : ACalls Tryz.prog 18 args σ K :=
 enter (own := []) Tryz.func18 (by kernel_rfl) (by kernel_rfl) (by kernel_rfl) hargs h
/-- (*changeling/heap.Heap).Alloc -/
def c19 : ACode :=
(.seq
 (.reg [oo 3 (.new 77 (.t 1)),
 oo 4 (.move (.c (.int .i64 0))),
 oo 5 (.move (.c (.int .i64 0)))])
 (.seq
 (.block 0
 (.seq
 (.reg [mv 10 0,
 oo 11 (.call 38 [(.t 10)]),
 oo 12 (.not (.t 11)),
 mv 9 12])
 (.cond (.t 9)
 (.seq
 (.reg [oo 4 (.move (.c (.int .i64 0))),
 oo 5 (.move (.c (.int .i64 3)))])
 .ret)
 (.seq
 (.reg [mv 14 0,
 oo 15 (.faddr 2 (.t 3)),
 oo 16 (.load none (.t 15)),
 oo 17 (.call 39 [(.t 14), (.t 16)]),
 oo 18 (.not (.t 17)),
 mv 13 18])
 (.cond (.t 13)
 (.seq
 (.reg [oo 4 (.move (.c (.int .i64 0))),
 oo 5 (.move (.c (.int .i64 161)))])
 .ret)
 (.seq
 (.reg [mv 20 0,
 oo 21 (.nilck (.t 20)),
 oo 22 (.faddr 3 (.t 21)),
 oo 23 (.load none (.t 22)),
 mv 24 0,
 oo 25 (.nilck (.t 24)),
 oo 26 (.faddr 0 (.t 25)),
 oo 27 (.load none (.t 26)),
 oo 28 (.bin .int .geq (.t 23) (.t 27)),
 mv 19 28])
 (.cond (.t 19)
 (.seq
 (.reg [oo 4 (.move (.c (.int .i64 0))),
 oo 5 (.move (.c (.int .i64 160)))])
 .ret)
 .skip)))))))
 (.seq
 (.reg [mv 29 0,
 oo 30 (.nilck (.t 29)),
 oo 31 (.faddr 3 (.t 30)),
 oo 32 (.load none (.t 31)),
 oo 33 (.bin .int .add (.t 32) (.c (.int .i64 1))),
 oo 34 (.nilck (.t 29)),
 oo 35 (.faddr 3 (.t 34)),
 ⟨none, .store 1 (.t 35) (.t 33), none⟩])
 (.seq
 (.reg [mv 36 0,
 oo 37 (.nilck (.t 36)),
 oo 38 (.faddr 4 (.t 37)),
 oo 39 (.load none (.t 38)),
 oo 40 (.bin .int .add (.t 39) (.c (.int .i64 1))),
 oo 41 (.nilck (.t 36)),
 oo 42 (.faddr 4 (.t 41)),
 ⟨none, .store 1 (.t 42) (.t 40), none⟩])
 (.seq
 (.reg [oo 43 (.load (some 3) (.t 3)),
 oo 44 (.call 40 [(.t 43)]),
 oo 45 (.build [(.int .i64 0), (.int .i64 0), .nils, (.bool false), (.bool false)] [(0, 3, (.t 44)), (3, 1, (.c (.bool true)))]),
 oo 6 (.new 117 (.c (.agg [(.int .i64 0), (.int .i64 0), .nils, (.bool false), (.bool false)]))),
 ⟨none, .store 5 (.t 6) (.t 45), none⟩])
 (.seq
 (.seq
 (.reg [mv 46 0,
 oo 47 (.nilck (.t 46)),
 oo 48 (.faddr 2 (.t 47)),
 oo 49 (.load none (.t 48)),
 oo 50 (.len .slice (.t 49)),
 mv 7 50])
 (.seq
 (.reg [mv 51 7,
 oo 52 (.bin .int .gtr (.t 51) (.c (.int .i64 0)))])
 (.cond (.t 52)
 (.seq
 (.reg [mv 53 0,
 oo 54 (.nilck (.t 53)),
 oo 55 (.faddr 2 (.t 54)),
 oo 56 (.load none (.t 55)),
 mv 57 7,
 oo 58 (.bin .int .sub (.t 57) (.c (.int .i64 1))),
 oo 59 (.iaddr 1 (.t 56) (.t 58)),
 oo 60 (.load none (.t 59)),
 mv 8 60])
 (.seq
 (.reg [mv 61 0,
 mv 62 0,
 oo 63 (.nilck (.t 62)),
 oo 64 (.faddr 2 (.t 63)),
 oo 65 (.load none (.t 64)),
 mv 66 7,
 oo 67 (.bin .int .sub (.t 66) (.c (.int .i64 1))),
 oo 68 (.cut .slice 1 (.t 65) none (some (.t 67))),
 oo 69 (.nilck (.t 61)),
 oo 70 (.faddr 2 (.t 69)),
 ⟨none, .store 1 (.t 70) (.t 68), none⟩])
 (.seq
 (.reg [mv 71 0,
 oo 72 (.nilck (.t 71)),
 oo 73 (.faddr 1 (.t 72)),
 oo 74 (.load none (.t 73)),
 mv 75 8,
 oo 76 (.load (some 5) (.t 6)),
 oo 77 (.iaddr 5 (.t 74) (.t 75)),
 ⟨none, .store 5 (.t 77) (.t 76), none⟩])
 (.seq
 (.reg [mv 78 8,
 mv 4 78,
 oo 5 (.move (.c (.int .i64 0)))])
 .ret))))
 .skip)))
 (.seq
 (.reg [mv 79 0,
 mv 80 0,
 oo 81 (.nilck (.t 80)),
 oo 82 (.faddr 1 (.t 81)),
 oo 83 (.load none (.t 82)),
 oo 84 (.load (some 5) (.t 6)),
 oo 85 (.lit false 117 5 [(.t 84)]),
 oo 86 (.append 117 5 48 (.t 83) (.t 85)),
 oo 87 (.nilck (.t 79)),
 oo 88 (.faddr 1 (.t 87)),
 ⟨none, .store 1 (.t 88) (.t 86), none⟩])
 (.seq
 (.reg [mv 89 0,
 oo 90 (.nilck (.t 89)),
 oo 91 (.faddr 1 (.t 90)),
 oo 92 (.load none (.t 91)),
 oo 93 (.len .slice (.t 92)),
 oo 94 (.bin .int .sub (.t 93) (.c (.int .i64 1))),
 mv 4 94,
 oo 5 (.move (.c (.int .i64 0)))])
 .ret))))))))
theorem in19 {args : List AV} {σ : Store} {K : AV → Store → Prop} (hargs : args.length ≤ 95 := by simp) (h : AWP Tryz.prog Tryz.f19.ntmps c19 (fun e t s => match e with | .exit _ => False | _ => Res [.slot 4, .slot 5] K t s) (env (argList 0 args)) σ) : ACalls Tryz.prog 19 args σ K :=
 enter (own := []) Tryz.func19 (by kernel_rfl) (by kernel_rfl) (by kernel_rfl) hargs h
/-- (*changeling/gm.Machine).ends -/
def c20 : ACode :=
(.seq
 (.reg [mv 4 0,
 oo 5 (.nilck (.t 4)),
 oo 6 (.faddr 21 (.t 5)),
 oo 7 (.load none (.t 6)),
 oo 8 (.not (.t 7))])
 (.cond (.t 8)
 (.seq
 (.reg [mv 9 0,
 oo 10 (.nilck (.t 9)),
 oo 11 (.faddr 21 (.t 10)),
 ⟨none, .store 1 (.t 11) (.c (.bool true)), none⟩])
 (.reg [mv 12 0,
 mv 13 1,
 mv 14 0,
 oo 15 (.nilck (.t 14)),
 oo 16 (.faddr 19 (.t 15)),
 oo 17 (.load none (.t 16)),
 oo 18 (.build [(.int .i64 0), (.str ⟨#[]⟩), (.int .i64 0), .nils, (.int .i64 0)] [(0, 1, (.t 13)), (4, 1, (.t 17))]),
 oo 19 (.nilck (.t 12)),
 oo 20 (.faddr 22 (.t 19)),
 ⟨none, .store 5 (.t 20) (.t 18), none⟩]))
 .skip))
theorem in20 {args : List AV} {σ : Store} {K : AV → Store → Prop} (hargs : args.length ≤ 21 := by simp) (h : AWP Tryz.prog Tryz.f20.ntmps c20 (fun e t s => match e with | .exit _ => False | _ => Res [] K t s) (env (argList 0 args)) σ) : ACalls Tryz.prog 20 args σ K :=
 enter (own := []) Tryz.func20 (by kernel_rfl) (by kernel_rfl) (by kernel_rfl) hargs h
/-- (*changeling/heap.Heap).made -/
def c38 : ACode :=
(.seq
 (.reg [oo 2 (.move (.c (.bool false)))])
 (.seq
 (.reg [mv 3 0,
 oo 4 (.nileq .ptr true (.t 3) (.c .nilp)),
 mv 5 4,
 og 6 5 true (.move (.t 0)),
 og 7 5 true (.nilck (.t 6)),
 og 8 5 true (.faddr 0 (.t 7)),
 og 9 5 true (.load none (.t 8)),
 og 10 5 true (.bin .int .gtr (.t 9) (.c (.int .i64 0))),
 oo 11 (.pick (.t 5) (.t 10) (.c (.bool false))),
 mv 2 11])
 .ret))
theorem in38 {args : List AV} {σ : Store} {K : AV → Store → Prop} (hargs : args.length ≤ 12 := by simp) (h : AWP Tryz.prog Tryz.f38.ntmps c38 (fun e t s => match e with | .exit _ => False | _ => Res [.slot 2] K t s) (env (argList 0 args)) σ) : ACalls Tryz.prog 38 args σ K :=
 enter (own := []) Tryz.func38 (by kernel_rfl) (by kernel_rfl) (by kernel_rfl) hargs h
/-- (*changeling/heap.Heap).all -/
def c39 : ACode :=
(.seq
 (.reg [oo 4 (.move (.c (.bool false)))])
 (.seq
 (.seq
 (.reg [mv 7 1,
 oo 8 (.len .slice (.t 7)),
 oo 9 (.move (.c (.int .i64 0)))])
 (.block 0
 (.loop
 (.seq
 (.reg [oo 10 (.bin .int .lss (.t 9) (.t 8))])
 (.seq
 (.cond (.t 10)
 .skip
 (.exit 0))
 (.seq
 (.block 1
 (.seq
 (.reg [oo 11 (.iaddr 1 (.t 7) (.t 9)),
 oo 12 (.load none (.t 11)),
 mv 6 12])
 (.seq
 (.reg [mv 13 0,
 mv 14 6,
 oo 15 (.call 82 [(.t 13), (.t 14)]),
 oo 16 (.not (.t 15))])
 (.cond (.t 16)
 (.seq
 (.reg [oo 4 (.move (.c (.bool false)))])
 .ret)
 .skip))))
 (.reg [oo 17 (.bin .int .add (.t 9) (.c (.int .i64 1))),
 mv 9 17])))))))
 (.seq
 (.reg [oo 4 (.move (.c (.bool true)))])
 .ret)))
theorem in39 {args : List AV} {σ : Store} {K : AV → Store → Prop} (hargs : args.length ≤ 18 := by simp) (h : AWP Tryz.prog Tryz.f39.ntmps c39 (fun e t s => match e with | .exit _ => False | _ => Res [.slot 4] K t s) (env (argList 0 args)) σ) : ACalls Tryz.prog 39 args σ K :=
 enter (own := []) Tryz.func39 (by kernel_rfl) (by kernel_rfl) (by kernel_rfl) hargs h
/-- changeling/heap.own -/
def c40 : ACode :=
(.seq
 (.reg [oo 1 (.new 77 (.t 0)),
 oo 2 (.new 77 (.c (.agg [(.int .i64 0), (.int .i64 0), .nils])))])
 (.seq
 (.reg [oo 3 (.move (.c .nils))])
 (.seq
 (.reg [mv 4 3,
 oo 5 (.faddr 2 (.t 1)),
 oo 6 (.load none (.t 5)),
 oo 7 (.append 3 1 8 (.t 4) (.t 6)),
 mv 3 7])
 (.seq
 (.reg [mv 8 3,
 oo 9 (.faddr 2 (.t 1)),
 ⟨none, .store 1 (.t 9) (.t 8), none⟩])
 (.seq
 (.reg [oo 10 (.load (some 3) (.t 1)),
 ⟨none, .store 3 (.t 2) (.t 10), none⟩])
 .ret)))))
theorem in40 {args : List AV} {σ : Store} {K : AV → Store → Prop} (hargs : args.length ≤ 11 := by simp) (h : AWP Tryz.prog Tryz.f40.ntmps c40 (fun e t s => match e with | .exit _ => False | _ => Res [.cell 2 (some 3)] K t s) (env (argList 0 args)) σ) : ACalls Tryz.prog 40 args σ K :=
 enter (own := []) Tryz.func40 (by kernel_rfl) (by kernel_rfl) (by kernel_rfl) hargs h
end Go.Proofs.YtojfdejpoideaaaGreat
/- GmNil: what is asked of nothing; budgets. -/
set_option linter.unusedVariables false
set_option linter.unusedSimpArgs false
namespace Go.AL
/-- Which budgets may be. -/
def BudQ (f h s v : Int) : Prop := 0 ≤ f ∧ f ≤ 1099511627776 ∧ 1 ≤ h ∧ h ≤ 16777216 ∧ 1 ≤ s ∧ s ≤ 16777216 ∧ 0 ≤ v
def REq (p : Prop) (r : AV) : Prop := ∃ b : Bool, r = .bool b ∧ (b = true ↔ p)
def outZ : List AV := [.int .i64 0, .str ⟨#[]⟩, .int .i64 0, .nils, .int .i64 0]
def globC (s : ByteArray) : List AV := [.int .i64 2, .str s, .int .i64 0, .int .i64 0, .nils, .nils, .nils, .nils, .nils]
end Go.AL
namespace Go.Proofs.YtojfdejpoideaaaGreat
open Go.AL
theorem right14 (f h s v : Int) (σ : Store) : ACalls Tryz.prog 14 [.agg [.int .i64 f, .int .i64 h, .int .i64 s, .int .i64 v]] σ fun r σ' => REq (BudQ f h s v) r ∧ σ' = σ := by
 refine ACalls_fp (p := REq (BudQ f h s v)) ?_
 refine in14 (by simp) ?_
 unfold c14
 try simp only [YY, ↓reduceIte, Za, Zb, Zc, reduceCtorEq, Zd, Ze, Zf, Zg, Zh, Zi, Zj]
 iterate 2 ((with_reducible refine WW (by decide) ?_); refine unr ?_; try simp only [YY, ↓reduceIte, Za, Zb, Zc, reduceCtorEq, Zd, Ze, Zf, Zg, Zh, Zi, Zj])
 generalize hs : Store.push _ _ = s1
 have k1 : Kp σ s1 := by rw [← hs]; exact .pushed _ _
 have g1 : s1.get σ.next = some (.cells 30 0 4 [[.int .i64 f, .int .i64 h, .int .i64 s, .int .i64 v]]) := by rw [← hs]; simp [Store.push_get]
 clear hs
 refine raw ?_
 repeat' (first | (with_reducible refine unr ?_; try simp only [YY, ↓reduceIte, Za, Zb, Zc, reduceCtorEq, Zd, Ze, Zf, Zg, Zh, Zi, Zj, g1, str_nil, *]) | (with_reducible first | refine WW (by decide) ?_ | refine ok_idx (by first | assumption | omega) (fun b hb => raw ?_) | refine ok_iad (by first | assumption | omega) (fun x hx hxm => raw ?_) | refine And.intro (by omega) (raw ?_) | (refine guardW_b (fun h => raw ?_) (fun h => raw ?_) <;> try simp only [Ty] at h) | (refine ePick_b (fun h => raw ?_) (fun h => raw ?_) <;> try simp only [Ty] at h) | (refine condW_b (fun h => raw ?_) (fun h => raw ?_) <;> try simp only [Ty] at h)))
 all_goals (refine FP.same k1 ⟨_, rfl, ?_⟩ (.bool _); simp only [BudQ, decide_eq_true_eq, Bool.false_eq_true, false_iff]; omega)
theorem right16 (f h s v : Int) (σ : Store) : ACalls Tryz.prog 16 [.agg [.int .i64 f, .int .i64 h, .int .i64 s, .int .i64 v]] σ fun r σ' => REq (BudQ f h s v) r ∧ σ' = σ := by
 refine ACalls_fp (p := REq (BudQ f h s v)) ?_
 refine in16 (by simp) ?_
 unfold c16
 try simp only [YY, ↓reduceIte, Za, Zb, Zc, reduceCtorEq, Zd, Ze, Zf, Zg, Zh, Zi, Zj]
 iterate 2 ((with_reducible refine WW (by decide) ?_); refine unr ?_; try simp only [YY, ↓reduceIte, Za, Zb, Zc, reduceCtorEq, Zd, Ze, Zf, Zg, Zh, Zi, Zj])
 generalize hs : Store.push _ _ = s1
 have k1 : Kp σ s1 := by rw [← hs]; exact .pushed _ _
 have g1 : s1.get σ.next = some (.cells 30 0 4 [[.int .i64 f, .int .i64 h, .int .i64 s, .int .i64 v]]) := by rw [← hs]; simp [Store.push_get]
 clear hs
 refine raw ?_
 repeat' (first | (with_reducible refine unr ?_; try simp only [YY, ↓reduceIte, Za, Zb, Zc, reduceCtorEq, Zd, Ze, Zf, Zg, Zh, Zi, Zj, g1, str_nil, *]) | (with_reducible first | refine WW (by decide) ?_ | refine ok_idx (by first | assumption | omega) (fun b hb => raw ?_) | refine ok_iad (by first | assumption | omega) (fun x hx hxm => raw ?_) | refine And.intro (by omega) (raw ?_) | (refine guardW_b (fun h => raw ?_) (fun h => raw ?_) <;> try simp only [Ty] at h) | (refine ePick_b (fun h => raw ?_) (fun h => raw ?_) <;> try simp only [Ty] at h) | (refine condW_b (fun h => raw ?_) (fun h => raw ?_) <;> try simp only [Ty] at h)))
 all_goals (refine FP.same k1 ⟨_, rfl, ?_⟩ (.bool _); simp only [BudQ, decide_eq_true_eq, Bool.false_eq_true, false_iff]; omega)
theorem start0 (e b : List AV) (he : e.length = 9) (hb : b.length = 4) (sel : Int) (σ : Store) : ACalls Tryz.prog 5 [.nilp, .agg e, .int .i64 sel, .agg b] σ fun r σ' => r = .tuple [.nilp, .int .i64 3] ∧ σ' = σ := by
 refine ACalls_fp (p := fun r => r = .tuple [.nilp, .int .i64 3]) ?_
 refine in5 (by simp) ?_
 unfold c5
 refine raw ?_
 repeat (first | (with_reducible refine unr ?_; try simp only [YY, ↓reduceIte, Za, Zb, Zc, reduceCtorEq, Zd, Ze, Zf, Zg, Zh, Zi, Zj, he, hb]) | (with_reducible refine WW (by decide) ?_))
 refine FP.same ((Kp.pushed _ _).push _) rfl (.tuple' fun c hc => ?_)
 simp only [List.mem_cons, List.not_mem_nil, or_false] at hc
 rcases hc with rfl | rfl
 · exact .nilp
 · exact .int _ _
theorem outZ_cln {n : Nat} : Cln n (.agg outZ) := .agg' fun c hc => by
 simp only [outZ, List.mem_cons, List.not_mem_nil, or_false] at hc
 rcases hc with rfl | rfl | rfl | rfl | rfl
 · exact .int _ _
 · exact .str _
 · exact .int _ _
 · exact .nils
 · exact .int _ _
theorem run0 (e b : List AV) (he : e.length = 9) (hb : b.length = 4) (sel : Int) (σ : Store) : ACalls Tryz.prog 4 [.nilp, .agg e, .int .i64 sel, .agg b] σ fun r σ' => r = .tuple [.agg outZ, .int .i64 3] ∧ σ' = σ := by
 refine ACalls_fp (p := fun r => r = .tuple [.agg outZ, .int .i64 3]) ?_
 refine in4 (by simp) ?_
 unfold c4
 have hte : List.take 9 e = e := List.take_of_length_le (by omega)
 have htb : List.take 4 b = b := List.take_of_length_le (by omega)
 try simp only [YY, ↓reduceIte, Za, Zb, Zc, reduceCtorEq, Zd, Ze, Zf, Zg, Zh, Zi, Zj, he, hb]
 iterate 2 ((with_reducible refine WW (by decide) ?_); refine unr ?_; try simp only [YY, ↓reduceIte, Za, Zb, Zc, reduceCtorEq, Zd, Ze, Zf, Zg, Zh, Zi, Zj, he, hb])
 generalize hs : Store.push _ _ = s1
 have k1 : Kp σ s1 := by rw [← hs]; exact ((Kp.pushed _ _).push _).push _
 have g1 : s1.get σ.next = some (.cells 28 0 9 [e]) := by rw [← hs]; simp [Store.push_get, Store.push_next, self_ne2]
 have g2 : s1.get (σ.next + 1) = some (.cells 30 0 4 [b]) := by rw [← hs]; simp [Store.push_get, Store.push_next]
 have g3 : s1.get (σ.next + 1 + 1) = some (.cells 37 0 5 [outZ]) := by rw [← hs]; simp [Store.push_get, Store.push_next]; rfl
 clear hs
 refine raw ?_
 repeat (first | (with_reducible refine unr ?_; try simp only [YY, ↓reduceIte, Za, Zb, Zc, reduceCtorEq, Zd, Ze, Zf, Zg, Zh, Zi, Zj, g1, g2, he, hb, hte, htb]) | (with_reducible refine WW (by decide) ?_))
 refine (start0 e b he hb sel _).mono ?_
 rintro _ _ ⟨rfl, rfl⟩
 rename_i s1
 have hg : ∀ o : AObj, (s1.upd (σ.next + 1 + 1) o).get (σ.next + 1 + 1) = some o := fun o => Store.get_upd_self _ _ (s1.lt g3)
 unfold outZ at g3
 refine raw ?_
 repeat (first | (with_reducible refine unr ?_; try simp only [YY, ↓reduceIte, Za, Zb, Zc, reduceCtorEq, Zd, Ze, Zf, Zg, Zh, Zi, Zj, g3, hg]) | (with_reducible refine WW (by decide) ?_))
 refine FP.same ⟨by rw [Store.upd_next]; exact k1.next, fun j hj => by rw [Store.get_upd_ne _ _ (by omega), k1.keep j hj]⟩ rfl (.tuple' fun c hc => ?_)
 simp only [List.mem_cons, List.not_mem_nil, or_false] at hc
 rcases hc with rfl | rfl
 · exact outZ_cln
 · exact .int _ _
theorem step0 (σ : Store) : ACalls Tryz.prog 6 [.nilp] σ fun r σ' => r = .bool false ∧ σ' = σ := by
 refine in6 (by simp) ?_
 unfold c6
 refine raw ?_
 repeat (first | (with_reducible refine unr ?_; try simp only [YY, ↓reduceIte, Za, Zb, Zc, reduceCtorEq, Zd, Ze, Zf, Zg, Zh, Zi, Zj]) | (with_reducible refine WW (by decide) ?_))
theorem out0 (σ : Store) : ACalls Tryz.prog 7 [.nilp] σ fun r σ' => r = .agg outZ ∧ σ' = σ := by
 refine ACalls_fp (p := fun r => r = .agg outZ) ?_
 refine in7 (by simp) ?_
 unfold c7
 refine raw ?_
 repeat (first | (with_reducible refine unr ?_; try simp only [YY, ↓reduceIte, Za, Zb, Zc, reduceCtorEq, Zd, Ze, Zf, Zg, Zh, Zi, Zj]) | (with_reducible refine WW (by decide) ?_))
 exact FP.same (.pushed _ _) rfl outZ_cln
theorem n8 (σ : Store) : ACalls Tryz.prog 8 [.nilp] σ fun r σ' => r = .int .i64 0 ∧ σ' = σ := by
 refine in8 (by simp) ?_
 unfold c8
 refine raw ?_
 repeat (first | (with_reducible refine unr ?_; try simp only [YY, ↓reduceIte, Za, Zb, Zc, reduceCtorEq, Zd, Ze, Zf, Zg, Zh, Zi, Zj]) | (with_reducible refine WW (by decide) ?_))
theorem n9 (σ : Store) : ACalls Tryz.prog 9 [.nilp] σ fun r σ' => r = .int .i64 0 ∧ σ' = σ := by
 refine in9 (by simp) ?_
 unfold c9
 refine raw ?_
 repeat (first | (with_reducible refine unr ?_; try simp only [YY, ↓reduceIte, Za, Zb, Zc, reduceCtorEq, Zd, Ze, Zf, Zg, Zh, Zi, Zj]) | (with_reducible refine WW (by decide) ?_))
theorem n10 (σ : Store) : ACalls Tryz.prog 10 [.nilp] σ fun r σ' => r = .int .i64 0 ∧ σ' = σ := by
 refine in10 (by simp) ?_
 unfold c10
 refine raw ?_
 repeat (first | (with_reducible refine unr ?_; try simp only [YY, ↓reduceIte, Za, Zb, Zc, reduceCtorEq, Zd, Ze, Zf, Zg, Zh, Zi, Zj]) | (with_reducible refine WW (by decide) ?_))
theorem n11 (σ : Store) : ACalls Tryz.prog 11 [.nilp] σ fun r σ' => r = .int .i64 0 ∧ σ' = σ := by
 refine in11 (by simp) ?_
 unfold c11
 refine raw ?_
 repeat (first | (with_reducible refine unr ?_; try simp only [YY, ↓reduceIte, Za, Zb, Zc, reduceCtorEq, Zd, Ze, Zf, Zg, Zh, Zi, Zj]) | (with_reducible refine WW (by decide) ?_))
theorem glob13 (s : ByteArray) (σ : Store) : ACalls Tryz.prog 13 [.str s] σ fun r σ' => r = .agg (globC s) ∧ σ' = σ := by
 refine ACalls_fp (p := fun r => r = .agg (globC s)) ?_
 refine in13 (by simp) ?_
 unfold c13
 refine raw ?_
 repeat (first | (with_reducible refine unr ?_; try simp only [YY, ↓reduceIte, Za, Zb, Zc, reduceCtorEq, Zd, Ze, Zf, Zg, Zh, Zi, Zj]) | (with_reducible refine WW (by decide) ?_))
 refine FP.same (.pushed _ _) rfl (.agg' fun c hc => ?_)
 simp only [globC, List.mem_cons, List.not_mem_nil, or_false] at hc
 rcases hc with rfl | rfl | rfl | rfl | rfl | rfl | rfl | rfl | rfl <;> first | exact .int _ _ | exact .str _ | exact .nils
theorem new18 (n : Int) (h1 : 1 ≤ n) (h2 : n ≤ 16777216) (σ : Store) : ACalls Tryz.prog 18 [.int .i64 n] σ fun r σ' => r = .tuple [.ptr σ.next 0 0 0, .int .i64 0] ∧ σ' = σ.push (.cells 113 0 5 [[.int .i64 n, .nils, .nils, .int .i64 0, .int .i64 0]]) := by
 refine in18 (by simp) ?_
 unfold c18
 have g1 : ¬ n < 1 := by omega
 have g2 : ¬ 16777216 < n := by omega
 refine raw ?_
 repeat (first | (with_reducible refine unr ?_; try simp only [YY, ↓reduceIte, Za, Zb, Zc, reduceCtorEq, Zd, Ze, Zf, Zg, Zh, Zi, Zj, g1, g2]) | (with_reducible refine WW (by decide) ?_))
end Go.Proofs.YtojfdejpoideaaaGreat
/- GmNil: a node put into a heap. -/
set_option linter.unusedVariables false
set_option linter.unusedSimpArgs false
namespace Go.AL
/-- A heap none of whose cells is free, with so many nodes. -/
def HpAt (s : Store) (hid N live : Nat) : Prop := ∃ (cap : Int) (v : AV) (es : List (List AV)) (al : Int), 1 ≤ cap ∧ s.get hid = some (.cells 113 0 5 [[.int .i64 cap, v, .nils, .int .i64 live, .int .i64 al]]) ∧ SliceAt s v 117 5 es ∧ es.length = live ∧ ∀ j, j ∈ slIds v → N ≤ j
/-- Not an arena's row of cells. -/
def No117 (o : AObj) : Prop := ∀ ver sz es, o ≠ .cells 117 ver sz es
/-- All else is as it was. -/
structure K117 (s s' : Store) (hid : Nat) : Prop where
 next : s.next ≤ s'.next
 keep : ∀ j o, s.get j = some o → No117 o → j ≠ hid → s'.get j = some o
def nodeC (i : Int) : List AV := [.int .i64 4, .int .i64 i, .nils]
end Go.AL
namespace Go.Proofs.YtojfdejpoideaaaGreat
open Go.AL
theorem made38 {s : Store} {hid : Nat} {cap al lv : Int} {v : AV} (h1 : 1 ≤ cap) (hg : s.get hid = some (.cells 113 0 5 [[.int .i64 cap, v, .nils, .int .i64 lv, .int .i64 al]])) : ACalls Tryz.prog 38 [.ptr hid 0 0 0] s fun r σ' => r = .bool true ∧ σ' = s := by
 refine in38 (by simp) ?_
 unfold c38
 have h2 : (0 : Int) < cap := by omega
 refine raw ?_
 repeat (first | (with_reducible refine unr ?_; try simp only [YY, ↓reduceIte, Za, Zb, Zc, reduceCtorEq, Zd, Ze, Zf, Zg, Zh, Zi, Zj, hg, h2]) | (with_reducible refine WW (by decide) ?_))
theorem all39 (p : AV) (s : Store) : ACalls Tryz.prog 39 [p, .nils] s fun r σ' => r = .bool true ∧ σ' = s := by
 refine in39 (by simp) ?_
 unfold c39
 refine raw ?_
 repeat (first | (with_reducible refine unr ?_; try simp only [YY, ↓reduceIte, Za, Zb, Zc, reduceCtorEq, Zd, Ze, Zf, Zg, Zh, Zi, Zj]) | (with_reducible refine WW (by decide) ?_))
 refine AWP_while [7, 8, 9] (fun _ : Unit => 0) (fun _ => [.nils, .int .i64 0, .int .i64 0]) (fun _ t => s = t) () rfl ?_ ?_
 · refine raw ?_
   repeat (first | (with_reducible refine unr ?_; try simp only [YY, ↓reduceIte, Za, Zb, Zc, reduceCtorEq, Zd, Ze, Zf, Zg, Zh, Zi, Zj]) | (with_reducible refine WW (by decide) ?_))
 rintro _ _ rfl
 refine raw ?_
 repeat (first | (with_reducible refine unr ?_; try simp only [YY, ↓reduceIte, Za, Zb, Zc, reduceCtorEq, Zd, Ze, Zf, Zg, Zh, Zi, Zj]) | (with_reducible refine WW (by decide) ?_))
theorem app0 (ty sz bytes : Nat) (s : Store) : eApp ty sz bytes .nils (some []) s = some (.nils, s) := by simp [eApp]
theorem own40 (i : Int) (s : Store) : ACalls Tryz.prog 40 [.agg (nodeC i)] s fun r σ' => r = .agg (nodeC i) ∧ σ' = s := by
 refine ACalls_fp (p := fun r => r = .agg (nodeC i)) ?_
 refine in40 (by simp) ?_
 unfold c40 nodeC
 try simp only [YY, ↓reduceIte, Za, Zb, Zc, reduceCtorEq, Zd, Ze, Zf, Zg, Zh, Zi, Zj]
 iterate 2 ((with_reducible refine WW (by decide) ?_); refine unr ?_; try simp only [YY, ↓reduceIte, Za, Zb, Zc, reduceCtorEq, Zd, Ze, Zf, Zg, Zh, Zi, Zj])
 generalize hs : Store.push _ _ = s1
 have k1 : Kp s s1 := by rw [← hs]; exact (Kp.pushed _ _).push _
 have g1 : s1.get s.next = some (.cells 77 0 3 [[.int .i64 4, .int .i64 i, .nils]]) := by rw [← hs]; simp [Store.push_get, Store.push_next]
 have g2 : s1.get (s.next + 1) = some (.cells 77 0 3 [[.int .i64 0, .int .i64 0, .nils]]) := by rw [← hs]; simp [Store.push_get, Store.push_next]
 clear hs
 have hu : ∀ o : AObj, (s1.upd s.next o).get (s.next + 1) = some (.cells 77 0 3 [[.int .i64 0, .int .i64 0, .nils]]) := fun o => by rw [Store.get_upd_ne _ _ (by omega)]; exact g2
 have hu1 : ∀ o : AObj, (s1.upd s.next o).get s.next = some o := fun o => Store.get_upd_self _ _ (s1.lt g1)
 have hu2 : ∀ o o' : AObj, ((s1.upd s.next o).upd (s.next + 1) o').get (s.next + 1) = some o' := fun o o' => Store.get_upd_self _ _ (by rw [Store.upd_next]; exact s1.lt g2)
 refine raw ?_
 repeat (first | (with_reducible refine unr ?_; try simp only [YY, ↓reduceIte, Za, Zb, Zc, reduceCtorEq, Zd, Ze, Zf, Zg, Zh, Zi, Zj, g1, app0, hu, hu1, hu2]) | (with_reducible refine WW (by decide) ?_))
 refine FP.same ⟨by rw [Store.upd_next, Store.upd_next]; exact k1.next, fun j hj => by rw [Store.get_upd_ne _ _ (by omega), Store.get_upd_ne _ _ (by omega), k1.keep j hj]⟩ rfl (.agg' fun c hc => ?_)
 simp only [List.mem_cons, List.not_mem_nil, or_false] at hc
 rcases hc with rfl | rfl | rfl
 · exact .int _ _
 · exact .int _ _
 · exact .nils
theorem alloc19 {s : Store} {hid N live : Nat} (i : Int) (h : HpAt s hid N live) (hl : live ≤ 1000) (hN : hid < N) (hNs : N ≤ s.next) :
 ACalls Tryz.prog 19 [.ptr hid 0 0 0, .agg (nodeC i)] s fun r s' => (∃ (a e : Int) (live' : Nat), r = .tuple [.int .i64 a, .int .i64 e] ∧ live' ≤ live + 1 ∧ HpAt s' hid N live') ∧ K117 s s' hid := by
 obtain ⟨cap, v, es, al, h1, h2, h3, h4, h5⟩ := h
 have hlt := s.lt h2
 refine in19 (by simp) ?_
 unfold c19
 unfold nodeC
 try simp only [YY, ↓reduceIte, Za, Zb, Zc, reduceCtorEq, Zd, Ze, Zf, Zg, Zh, Zi, Zj]
 iterate 2 ((with_reducible refine WW (by decide) ?_); refine unr ?_; try simp only [YY, ↓reduceIte, Za, Zb, Zc, reduceCtorEq, Zd, Ze, Zf, Zg, Zh, Zi, Zj])
 generalize hs : Store.push _ _ = s1
 have k1 : Kp s s1 := by rw [← hs]; exact .pushed _ _
 have g1 : s1.get s.next = some (.cells 77 0 3 [[.int .i64 4, .int .i64 i, .nils]]) := by rw [← hs]; simp [Store.push_get]
 have hn1 : s1.next = s.next + 1 := by rw [← hs]; rfl
 clear hs
 have g2 := k1.get h2
 refine raw ?_
 repeat (first | (with_reducible refine unr ?_; try simp only [YY, ↓reduceIte, Za, Zb, Zc, reduceCtorEq, Zd, Ze, Zf, Zg, Zh, Zi, Zj]) | (with_reducible refine WW (by decide) ?_))
 refine (made38 h1 g2).mono ?_
 rintro _ _ ⟨rfl, rfl⟩
 rename_i s1
 refine raw ?_
 repeat (first | (with_reducible refine unr ?_; try simp only [YY, ↓reduceIte, Za, Zb, Zc, reduceCtorEq, Zd, Ze, Zf, Zg, Zh, Zi, Zj, g1]) | (with_reducible refine WW (by decide) ?_))
 refine (all39 _ _).mono ?_
 rintro _ _ ⟨rfl, rfl⟩
 rename_i s1
 by_cases hc : cap ≤ (live : Int)
 · refine raw ?_
   repeat (first | (with_reducible refine unr ?_; try simp only [YY, ↓reduceIte, Za, Zb, Zc, reduceCtorEq, Zd, Ze, Zf, Zg, Zh, Zi, Zj, g2, hc]) | (with_reducible refine WW (by decide) ?_))
   exact ⟨⟨0, 160, live, rfl, by omega, cap, v, es, al, h1, g2, h3.keep fun j hj => k1.keep j (h3.lt hj), h4, h5⟩, k1.next, fun j o hj _ _ => k1.get hj⟩
 · have hw : IntKind.i64.wrap ((live : Int) + 1) = ((live + 1 : Nat) : Int) := wrap_succ (by omega)
   have hu : ∀ o : AObj, (s1.upd hid o).get hid = some o := fun o => Store.get_upd_self _ _ (s1.lt g2)
   have hu0 : ∀ o : AObj, (s1.upd hid o).get s.next = some (.cells 77 0 3 [[.int .i64 4, .int .i64 i, .nils]]) := fun o => by rw [Store.get_upd_ne _ _ (by omega)]; exact g1
   refine raw ?_
   repeat (first | (with_reducible refine unr ?_; try simp only [YY, ↓reduceIte, Za, Zb, Zc, reduceCtorEq, Zd, Ze, Zf, Zg, Zh, Zi, Zj, g2, hc, hw, hu, hu0]) | (with_reducible refine WW (by decide) ?_))
   generalize hs : s1.upd hid _ = s2
   have j2 : s2.get hid = some (.cells 113 0 5 [[.int .i64 cap, v, .nils, .int .i64 ((live + 1 : Nat) : Int), .int .i64 (IntKind.i64.wrap (al + 1))]]) := by rw [← hs]; exact hu _
   have hn2 : s2.next = s1.next := by rw [← hs, Store.upd_next]
   have hk2 : ∀ j, j ≠ hid → s2.get j = s1.get j := fun j hj => by rw [← hs]; exact Store.get_upd_ne _ _ hj
   clear hs hu hu0
   have how := own40 i s2
   unfold nodeC at how
   refine how.mono ?_
   rintro _ _ ⟨rfl, rfl⟩
   rename_i s2
   try simp only [YY, ↓reduceIte, Za, Zb, Zc, reduceCtorEq, Zd, Ze, Zf, Zg, Zh, Zi, Zj]
   iterate 0 ((with_reducible refine WW (by decide) ?_); refine unr ?_; try simp only [YY, ↓reduceIte, Za, Zb, Zc, reduceCtorEq, Zd, Ze, Zf, Zg, Zh, Zi, Zj])
   generalize hs : Store.push s2 _ = s3
   have k3 : Kp s2 s3 := by rw [← hs]; exact .pushed _ _
   have g3 : s3.get s2.next = some (.cells 117 0 5 [[.int .i64 4, .int .i64 i, .nils, .bool true, .bool false]]) := by rw [← hs]; simp [Store.push_get]
   have hn3 : s3.next = s2.next + 1 := by rw [← hs]; rfl
   clear hs
   have j3 := k3.get j2
   have hsl : SliceAt s3 v 117 5 es := (h3.keep (σ' := s1) fun j hj => k1.keep j (h3.lt hj)).keep fun j hj => by
    have := h5 j hj
    have := h3.lt hj
    rw [k3.keep j (by omega), hk2 j (by omega)]
   have z0 : ¬ (0 : Int) < 0 := by omega
   refine raw ?_
   repeat (first | (with_reducible refine unr ?_; try simp only [YY, ↓reduceIte, Za, Zb, Zc, reduceCtorEq, Zd, Ze, Zf, Zg, Zh, Zi, Zj, j3, g3, z0]) | (with_reducible refine WW (by decide) ?_))
   refine ok_app hsl (es2 := [[.int .i64 4, .int .i64 i, .nils, .bool true, .bool false]]) (by simp) (by simp; omega) (by simp [maxLen]; omega) ?_
   intro v' s4 hsl4 hfr
   have hv : ∀ j, j ∈ slIds v → hid < j := fun j hj => by have := h5 j hj; omega
   have j4 : s4.get hid = _ := (hfr.keep hid (by omega) (fun hm => by have := hv _ hm; omega)).trans j3
   have hu : ∀ o : AObj, (s4.upd hid o).get hid = some o := fun o => Store.get_upd_self _ _ (s4.lt j4)
   have hv' : ∀ j, j ∈ slIds v' → N ≤ j := fun j hj => (hfr.fresh j hj).elim (h5 j) (fun h => by omega)
   have hsl5 : ∀ o, SliceAt (s4.upd hid o) v' 117 5 (es ++ [[.int .i64 4, .int .i64 i, .nils, .bool true, .bool false]]) := fun o => hsl4.keep fun j hj => Store.get_upd_ne _ _ (by have := hv' j hj; omega)
   have hlen : ∀ o, eLen .slice v' (s4.upd hid o) = some (.int .i64 ((live + 1 : Nat) : Int), s4.upd hid o) := fun o => by
    rcases hsl5 o with ⟨_, e⟩ | ⟨id, ver, es', rfl, _⟩
    · simp at e
    · simp [eLen, h4]
   have hw2 : IntKind.i64.wrap (((live + 1 : Nat) : Int) - 1) = (live : Int) := by rw [wrap_of (by omega) (by omega)]; omega
   refine raw ?_
   repeat (first | (with_reducible refine unr ?_; try simp only [YY, ↓reduceIte, Za, Zb, Zc, reduceCtorEq, Zd, Ze, Zf, Zg, Zh, Zi, Zj, j4, hsl4.co, hu, hlen, hw2]) | (with_reducible refine WW (by decide) ?_))
   refine ⟨⟨live, 0, live + 1, rfl, Nat.le_refl _, cap, v', _, _, h1, hu _, hsl5 _, by simp [h4], hv'⟩, by rw [Store.upd_next]; have := hfr.next; have := k1.next; omega, fun j o hj hno hne => ?_⟩
   have hjs := s.lt hj
   rw [Store.get_upd_ne _ _ hne, hfr.keep j (by omega) (fun hm => ?_), k3.keep j (by omega), hk2 j hne, k1.keep j hjs]
   · exact hj
   · obtain ⟨ver, es', e⟩ := h3.ids hm
     rw [e] at hj
     cases hj
     exact hno _ _ _ rfl
end Go.Proofs.YtojfdejpoideaaaGreat

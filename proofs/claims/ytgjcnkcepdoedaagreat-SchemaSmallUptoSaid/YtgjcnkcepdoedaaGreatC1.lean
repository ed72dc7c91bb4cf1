/- A part of the proof of the claim (no condition of its own). -/
import Derived.Test.YtgjcnkcepdoedaaGreatK4
import Derived.Test.YtgjcnkcepdoedaaGreatProg
import Derived.KernelRfl
open Nat renaming reduceEqDiff → Za, reduceAdd → Zb, reduceLeDiff → Zc
open Int renaming reduceEq → Zd, reduceLT → Ze, reduceLE → Zf, reduceNeg → Zg, reduceAdd → Zh, reduceSub → Zi, reduceToNat → Zj
set_option linter.unusedVariables false
namespace Go.Proofs.YtgjcnkcepdoedaaGreat
open Go.AL
def c3 : ACode :=
(.seq
 (.reg [oo 2 (.new 28 (.t 0)),
 oo 4 (.move (.c (.bool false)))])
 (.seq
 (.seq
 (.reg [oo 9 (.load (some 9) (.t 2)),
 mv 10 1,
 oo 11 (.call 6 [(.t 9), (.t 10)]),
 oo 12 (.not (.t 11))])
 (.cond (.t 12)
 (.seq
 (.reg [oo 13 (.call 7 []),
 mv 4 13])
 .ret)
 .skip))
 (.seq
 (.reg [oo 15 (.load (some 9) (.t 2)),
 mv 16 1,
 oo 17 (.call 8 [(.t 15), (.t 16)]),
 mv 14 17,
 oo 18 (.extract (.t 14) 0),
 oo 19 (.extract (.t 14) 1),
 oo 5 (.new 28 (.c (.agg [(.int .i64 0), (.str ⟨#[]⟩), (.int .i64 0), (.int .i64 0), .nils, .nils, .nils, .nils, .nils]))),
 ⟨none, .store 9 (.t 5) (.t 18), none⟩,
 mv 6 19])
 (.seq
 (.seq
 (.reg [mv 20 6,
 oo 21 (.bin .int .neq (.t 20) (.c (.int .i64 0)))])
 (.cond (.t 21)
 (.seq
 (.reg [oo 22 (.call 7 []),
 mv 4 22])
 .ret)
 .skip))
 (.seq
 (.reg [oo 23 (.load (some 9) (.t 2)),
 oo 24 (.call 9 [(.t 23)]),
 mv 7 24])
 (.seq
 (.seq
 (.reg [oo 8 (.move (.c (.int .i64 0)))])
 (.block 0
 (.loop
 (.seq
 (.seq
 (.reg [mv 25 8,
 mv 26 1,
 oo 27 (.len .slice (.t 26)),
 oo 28 (.bin .int .lss (.t 25) (.t 27))])
 (.cond (.t 28)
 .skip
 (.exit 0)))
 (.seq
 (.block 1
 (.reg [mv 31 7,
 mv 32 1,
 mv 33 8,
 oo 34 (.iaddr 10 (.t 32) (.t 33)),
 oo 35 (.faddr 1 (.t 34)),
 oo 36 (.load (some 9) (.t 35)),
 oo 37 (.call 9 [(.t 36)]),
 oo 38 (.bin .int .mul (.c (.int .i64 2)) (.t 37)),
 oo 39 (.bin .int .add (.t 31) (.t 38)),
 mv 7 39]))
 (.reg [mv 29 8,
 oo 30 (.bin .int .add (.t 29) (.c (.int .i64 1))),
 mv 8 30]))))))
 (.seq
 (.draw [] [([⟨(some 40), .load (some 9) (.t 5), none⟩], []),
 ([⟨(some 42), .move (.t 7), none⟩], []),
 ([⟨(some 41), .call 9 [(.t 40)], none⟩], []),
 ([⟨(some 43), .bin .int .leq (.t 41) (.t 42), none⟩], []),
 ([⟨(some 44), .move (.t 43), none⟩], []),
 ([⟨(some 45), .load (some 9) (.t 5), some (44, true)⟩], []),
 ([⟨(some 46), .build [(.str ⟨#[]⟩), (.int .i64 0), (.str ⟨#[]⟩), (.int .i64 0), (.int .i64 0), .nils, .nils, .nils, .nils, .nils] [(1, 9, (.t 45))], some (44, true)⟩], []),
 ([⟨(some 47), .lit false 39 10 [(.t 46)], some (44, true)⟩], []),
 ([⟨(some 49), .load (some 9) (.t 5), some (44, true)⟩], []),
 ([⟨(some 48), .call 10 [(.t 47)], some (44, true)⟩], [⟨(some 49), .load (some 9) (.t 5), some (44, true)⟩]),
 ([⟨(some 50), .call 11 [(.t 49)], some (44, true)⟩], []),
 ([⟨(some 51), .bin .int .eql (.t 48) (.t 50), some (44, true)⟩], []),
 ([⟨(some 52), .pick (.t 44) (.t 51) (.c (.bool false)), none⟩], []),
 ([⟨(some 53), .move (.t 52), none⟩], []),
 ([⟨(some 54), .call 7 [], some (53, true)⟩], []),
 ([⟨(some 55), .pick (.t 53) (.t 54) (.c (.bool false)), none⟩], []),
 ([⟨(some 4), .move (.t 55), none⟩], [])])
 .ret)))))))
theorem in3 {args : List AV} {σ : Store} {K : AV → Store → Prop} (hargs : args.length ≤ 56 := by simp) (h : AWP Tryz.prog Tryz.f3.ntmps c3 (fun e t s => match e with | .exit _ => False | _ => Res [.slot 4] K t s) (env (argList 0 args)) σ) : ACalls Tryz.prog 3 args σ K :=
 enter (own := []) Tryz.func3 (by kernel_rfl) (by kernel_rfl) (by kernel_rfl) hargs h
def c4 : ACode :=
(.seq
 (.reg [oo 3 (.new 28 (.t 0)),
 oo 6 (.move (.c (.bool false)))])
 (.seq
 (.seq
 (.reg [oo 11 (.load (some 9) (.t 3)),
 mv 12 1,
 oo 13 (.call 6 [(.t 11), (.t 12)]),
 oo 14 (.not (.t 13))])
 (.cond (.t 14)
 (.seq
 (.reg [oo 15 (.call 7 []),
 mv 6 15])
 .ret)
 .skip))
 (.seq
 (.reg [oo 17 (.load (some 9) (.t 3)),
 mv 18 1,
 oo 19 (.call 8 [(.t 17), (.t 18)]),
 mv 16 19,
 oo 20 (.extract (.t 16) 0),
 oo 21 (.extract (.t 16) 1),
 oo 7 (.new 28 (.c (.agg [(.int .i64 0), (.str ⟨#[]⟩), (.int .i64 0), (.int .i64 0), .nils, .nils, .nils, .nils, .nils]))),
 ⟨none, .store 9 (.t 7) (.t 20), none⟩,
 mv 8 21])
 (.seq
 (.reg [oo 23 (.load (some 9) (.t 3)),
 mv 24 1,
 oo 25 (.call 12 [(.t 23), (.t 24)]),
 mv 22 25,
 oo 26 (.extract (.t 22) 0),
 oo 27 (.extract (.t 22) 1),
 oo 9 (.new 28 (.c (.agg [(.int .i64 0), (.str ⟨#[]⟩), (.int .i64 0), (.int .i64 0), .nils, .nils, .nils, .nils, .nils]))),
 ⟨none, .store 9 (.t 9) (.t 26), none⟩,
 mv 10 27])
 (.seq
 (.draw [] [([⟨(some 28), .load (some 9) (.t 7), none⟩], []),
 ([⟨(some 29), .load (some 9) (.t 9), none⟩], []),
 ([⟨(some 30), .call 13 [(.t 28), (.t 29)], none⟩], []),
 ([⟨(some 31), .move (.t 30), none⟩], []),
 ([⟨(some 32), .move (.t 8), some (31, true)⟩], []),
 ([⟨(some 33), .move (.t 10), some (31, true)⟩], []),
 ([⟨(some 34), .bin .int .eql (.t 32) (.t 33), some (31, true)⟩], []),
 ([⟨(some 35), .pick (.t 31) (.t 34) (.c (.bool false)), none⟩], []),
 ([⟨(some 36), .move (.t 35), none⟩], []),
 ([⟨(some 37), .load (some 9) (.t 3), some (36, true)⟩], []),
 ([⟨(some 38), .move (.t 2), some (36, true)⟩], []),
 ([⟨(some 40), .load (some 9) (.t 3), some (36, true)⟩], []),
 ([⟨(some 41), .move (.t 2), some (36, true)⟩], []),
 ([⟨(some 39), .call 14 [(.t 37), (.t 38)], some (36, true)⟩], [⟨(some 40), .load (some 9) (.t 3), some (36, true)⟩]),
 ([⟨(some 42), .call 15 [(.t 40), (.t 41)], some (36, true)⟩], []),
 ([⟨(some 43), .call 13 [(.t 39), (.t 42)], some (36, true)⟩], []),
 ([⟨(some 44), .pick (.t 36) (.t 43) (.c (.bool false)), none⟩], []),
 ([⟨(some 45), .move (.t 44), none⟩], []),
 ([⟨(some 46), .load (some 9) (.t 7), some (45, true)⟩], []),
 ([⟨(some 47), .move (.t 2), some (45, true)⟩], []),
 ([⟨(some 49), .load (some 9) (.t 9), some (45, true)⟩], []),
 ([⟨(some 50), .move (.t 2), some (45, true)⟩], []),
 ([⟨(some 48), .call 14 [(.t 46), (.t 47)], some (45, true)⟩], [⟨(some 49), .load (some 9) (.t 9), some (45, true)⟩]),
 ([⟨(some 51), .call 15 [(.t 49), (.t 50)], some (45, true)⟩], []),
 ([⟨(some 52), .call 13 [(.t 48), (.t 51)], some (45, true)⟩], []),
 ([⟨(some 53), .pick (.t 45) (.t 52) (.c (.bool false)), none⟩], []),
 ([⟨(some 54), .move (.t 53), none⟩], []),
 ([⟨(some 55), .call 7 [], some (54, true)⟩], []),
 ([⟨(some 56), .pick (.t 54) (.t 55) (.c (.bool false)), none⟩], []),
 ([⟨(some 6), .move (.t 56), none⟩], [])])
 .ret)))))
def c5 : ACode :=
(.seq
 (.reg [oo 3 (.new 28 (.t 0)),
 oo 6 (.move (.c (.bool false)))])
 (.seq
 (.seq
 (.reg [oo 11 (.load (some 9) (.t 3)),
 mv 12 1,
 oo 13 (.call 6 [(.t 11), (.t 12)]),
 oo 14 (.not (.t 13))])
 (.cond (.t 14)
 (.seq
 (.reg [oo 15 (.call 7 []),
 mv 6 15])
 .ret)
 .skip))
 (.seq
 (.reg [oo 17 (.load (some 9) (.t 3)),
 mv 18 1,
 oo 19 (.call 8 [(.t 17), (.t 18)]),
 mv 16 19,
 oo 20 (.extract (.t 16) 0),
 oo 21 (.extract (.t 16) 1),
 oo 7 (.new 28 (.c (.agg [(.int .i64 0), (.str ⟨#[]⟩), (.int .i64 0), (.int .i64 0), .nils, .nils, .nils, .nils, .nils]))),
 ⟨none, .store 9 (.t 7) (.t 20), none⟩,
 mv 8 21])
 (.seq
 (.seq
 (.reg [mv 22 8,
 oo 23 (.bin .int .neq (.t 22) (.c (.int .i64 0)))])
 (.cond (.t 23)
 (.seq
 (.reg [oo 24 (.load (some 9) (.t 7)),
 oo 25 (.build [(.int .i64 0), (.str ⟨#[]⟩), (.int .i64 0), (.int .i64 0), .nils, .nils, .nils, .nils, .nils] []),
 oo 26 (.call 13 [(.t 24), (.t 25)]),
 mv 27 26,
 og 28 27 true (.call 7 []),
 oo 29 (.pick (.t 27) (.t 28) (.c (.bool false))),
 mv 6 29])
 .ret)
 .skip))
 (.seq
 (.seq
 (.reg [oo 9 (.move (.c (.int .i64 0)))])
 (.block 0
 (.loop
 (.seq
 (.seq
 (.reg [mv 30 9,
 mv 31 1,
 oo 32 (.len .slice (.t 31)),
 oo 33 (.bin .int .lss (.t 30) (.t 32))])
 (.cond (.t 33)
 .skip
 (.exit 0)))
 (.seq
 (.block 1
 (.seq
 (.reg [mv 36 1,
 mv 37 9,
 oo 38 (.iaddr 10 (.t 36) (.t 37)),
 oo 39 (.faddr 0 (.t 38)),
 oo 40 (.load none (.t 39)),
 mv 41 2,
 oo 42 (.bin .int .eql (.t 40) (.t 41))])
 (.cond (.t 42)
 (.seq
 (.reg [oo 43 (.call 7 []),
 mv 6 43])
 .ret)
 .skip)))
 (.reg [mv 34 9,
 oo 35 (.bin .int .add (.t 34) (.c (.int .i64 1))),
 mv 9 35]))))))
 (.seq
 (.seq
 (.reg [oo 10 (.move (.c (.int .i64 0)))])
 (.block 2
 (.loop
 (.seq
 (.seq
 (.reg [mv 44 10,
 mv 45 1,
 oo 46 (.len .slice (.t 45)),
 oo 47 (.bin .int .lss (.t 44) (.t 46))])
 (.cond (.t 47)
 .skip
 (.exit 2)))
 (.seq
 (.block 3
 (.seq
 (.draw [] [([⟨(some 50), .load (some 9) (.t 7), none⟩], []),
 ([⟨(some 51), .move (.t 1), none⟩], []),
 ([⟨(some 52), .move (.t 10), none⟩], []),
 ([⟨(some 53), .iaddr 10 (.t 51) (.t 52), none⟩], []),
 ([⟨(some 54), .faddr 0 (.t 53), none⟩], []),
 ([⟨(some 55), .load none (.t 54), none⟩], []),
 ([⟨(some 57), .move (.t 1), none⟩], []),
 ([⟨(some 58), .move (.t 10), none⟩], []),
 ([⟨(some 59), .iaddr 10 (.t 57) (.t 58), none⟩], []),
 ([⟨(some 60), .faddr 1 (.t 59), none⟩], []),
 ([⟨(some 61), .load (some 9) (.t 60), none⟩], []),
 ([⟨(some 56), .call 14 [(.t 50), (.t 55)], none⟩], [⟨(some 59), .iaddr 10 (.t 57) (.t 58), none⟩, ⟨(some 60), .faddr 1 (.t 59), none⟩, ⟨(some 61), .load (some 9) (.t 60), none⟩]),
 ([⟨(some 62), .call 15 [(.t 61), (.c (.int .i64 0))], none⟩], []),
 ([⟨(some 63), .call 13 [(.t 56), (.t 62)], none⟩], []),
 ([⟨(some 64), .not (.t 63), none⟩], [])])
 (.cond (.t 64)
 (.seq
 (.reg [oo 6 (.move (.c (.bool false)))])
 .ret)
 .skip)))
 (.reg [mv 48 10,
 oo 49 (.bin .int .add (.t 48) (.c (.int .i64 1))),
 mv 10 49]))))))
 (.seq
 (.draw [] [([⟨(some 65), .load (some 9) (.t 7), none⟩], []),
 ([⟨(some 66), .move (.t 2), none⟩], []),
 ([⟨(some 68), .load (some 9) (.t 3), none⟩], []),
 ([⟨(some 67), .call 14 [(.t 65), (.t 66)], none⟩], [⟨(some 68), .load (some 9) (.t 3), none⟩]),
 ([⟨(some 69), .call 15 [(.t 68), (.c (.int .i64 0))], none⟩], []),
 ([⟨(some 70), .call 13 [(.t 67), (.t 69)], none⟩], []),
 ([⟨(some 71), .move (.t 70), none⟩], []),
 ([⟨(some 72), .call 7 [], some (71, true)⟩], []),
 ([⟨(some 73), .pick (.t 71) (.t 72) (.c (.bool false)), none⟩], []),
 ([⟨(some 6), .move (.t 73), none⟩], [])])
 .ret)))))))
def c6 : ACode :=
(.seq
 (.reg [oo 2 (.new 28 (.t 0)),
 oo 4 (.move (.c (.bool false)))])
 (.seq
 (.reg [oo 7 (.load (some 9) (.t 2)),
 oo 8 (.call 9 [(.t 7)]),
 mv 5 8])
 (.seq
 (.seq
 (.reg [oo 6 (.move (.c (.int .i64 0)))])
 (.block 0
 (.loop
 (.seq
 (.seq
 (.reg [mv 9 6,
 mv 10 1,
 oo 11 (.len .slice (.t 10)),
 oo 12 (.bin .int .lss (.t 9) (.t 11))])
 (.cond (.t 12)
 .skip
 (.exit 0)))
 (.seq
 (.block 1
 (.seq
 (.seq
 (.reg [mv 15 6,
 oo 16 (.bin .int .gtr (.t 15) (.c (.int .i64 40))),
 mv 17 16,
 og 18 17 false (.move (.t 5)),
 og 19 17 false (.bin .int .gtr (.t 18) (.c (.int .i64 1500))),
 oo 20 (.pick (.t 17) (.c (.bool true)) (.t 19))])
 (.cond (.t 20)
 (.seq
 (.reg [oo 4 (.move (.c (.bool false)))])
 .ret)
 .skip))
 (.reg [mv 21 5,
 mv 22 1,
 mv 23 6,
 oo 24 (.iaddr 10 (.t 22) (.t 23)),
 oo 25 (.faddr 1 (.t 24)),
 oo 26 (.load (some 9) (.t 25)),
 oo 27 (.call 9 [(.t 26)]),
 oo 28 (.bin .int .add (.t 21) (.t 27)),
 mv 5 28])))
 (.reg [mv 13 6,
 oo 14 (.bin .int .add (.t 13) (.c (.int .i64 1))),
 mv 6 14]))))))
 (.seq
 (.reg [mv 29 5,
 oo 30 (.bin .int .leq (.t 29) (.c (.int .i64 1500))),
 mv 4 30])
 .ret))))
theorem in6 {args : List AV} {σ : Store} {K : AV → Store → Prop} (hargs : args.length ≤ 31 := by simp) (h : AWP Tryz.prog Tryz.f6.ntmps c6 (fun e t s => match e with | .exit _ => False | _ => Res [.slot 4] K t s) (env (argList 0 args)) σ) : ACalls Tryz.prog 6 args σ K :=
 enter (own := []) Tryz.func6 (by kernel_rfl) (by kernel_rfl) (by kernel_rfl) hargs h
def c8 : ACode :=
(.seq
 (.reg [oo 2 (.new 28 (.t 0)),
 oo 4 (.new 28 (.c (.agg [(.int .i64 0), (.str ⟨#[]⟩), (.int .i64 0), (.int .i64 0), .nils, .nils, .nils, .nils, .nils]))),
 oo 5 (.move (.c (.int .i64 0)))])
 (.seq
 (.seq
 (.reg [oo 9 (.load (some 9) (.t 2)),
 oo 10 (.call 18 [(.t 9)]),
 oo 11 (.not (.t 10))])
 (.cond (.t 11)
 (.seq
 (.reg [oo 12 (.build [(.int .i64 0), (.str ⟨#[]⟩), (.int .i64 0), (.int .i64 0), .nils, .nils, .nils, .nils, .nils] []),
 ⟨none, .store 9 (.t 4) (.t 12), none⟩,
 oo 5 (.move (.c (.int .i64 1)))])
 .ret)
 .skip))
 (.seq
 (.seq
 (.reg [mv 13 1,
 oo 14 (.len .slice (.t 13)),
 oo 15 (.move (.c (.int .i64 0)))])
 (.block 0
 (.loop
 (.seq
 (.reg [oo 16 (.bin .int .lss (.t 15) (.t 14))])
 (.seq
 (.cond (.t 16)
 .skip
 (.exit 0))
 (.seq
 (.block 1
 (.seq
 (.reg [mv 17 15,
 oo 18 (.iaddr 10 (.t 13) (.t 15)),
 oo 19 (.load (some 10) (.t 18)),
 oo 7 (.new 36 (.c (.agg [(.int .i64 0), (.int .i64 0), (.str ⟨#[]⟩), (.int .i64 0), (.int .i64 0), .nils, .nils, .nils, .nils, .nils]))),
 mv 6 17,
 ⟨none, .store 10 (.t 7) (.t 19), none⟩])
 (.seq
 (.reg [mv 20 1,
 mv 21 6,
 oo 22 (.cut .slice 10 (.t 20) none (some (.t 21))),
 oo 23 (.mkfn (.func 20) [] [(.t 7)]),
 oo 24 (.call 19 [(.t 22), (.t 23)]),
 mv 8 24])
 (.seq
 (.reg [mv 25 8,
 mv 26 25,
 og 27 26 false (.faddr 1 (.t 7)),
 og 28 26 false (.load (some 9) (.t 27)),
 og 29 26 false (.call 18 [(.t 28)]),
 og 30 26 false (.not (.t 29)),
 oo 31 (.pick (.t 26) (.c (.bool true)) (.t 30))])
 (.cond (.t 31)
 (.seq
 (.reg [oo 32 (.build [(.int .i64 0), (.str ⟨#[]⟩), (.int .i64 0), (.int .i64 0), .nils, .nils, .nils, .nils, .nils] []),
 ⟨none, .store 9 (.t 4) (.t 32), none⟩,
 oo 5 (.move (.c (.int .i64 1)))])
 .ret)
 .skip)))))
 (.reg [oo 33 (.bin .int .add (.t 15) (.c (.int .i64 1))),
 mv 15 33])))))))
 (.seq
 (.reg [oo 34 (.load (some 9) (.t 2)),
 mv 35 1,
 oo 36 (.call 21 [(.t 34), (.t 35)]),
 ⟨none, .store 9 (.t 4) (.t 36), none⟩,
 oo 5 (.move (.c (.int .i64 0)))])
 .ret))))
theorem in8 {args : List AV} {σ : Store} {K : AV → Store → Prop} (hargs : args.length ≤ 37 := by simp) (h : AWP Tryz.prog Tryz.f8.ntmps c8 (fun e t s => match e with | .exit _ => False | _ => Res [.cell 4 (some 9), .slot 5] K t s) (env (argList 0 args)) σ) : ACalls Tryz.prog 8 args σ K :=
 enter (own := []) Tryz.func8 (by kernel_rfl) (by kernel_rfl) (by kernel_rfl) hargs h
def c9 : ACode :=
(.seq
 (.reg [oo 1 (.new 28 (.t 0)),
 oo 2 (.move (.c (.int .i64 0)))])
 (.seq
 (.reg [oo 3 (.move (.c (.int .i64 1)))])
 (.seq
 (.seq
 (.reg [oo 4 (.move (.c (.int .i64 0)))])
 (.block 0
 (.loop
 (.seq
 (.seq
 (.reg [mv 8 4,
 oo 9 (.faddr 5 (.t 1)),
 oo 10 (.load none (.t 9)),
 oo 11 (.len .slice (.t 10)),
 oo 12 (.bin .int .lss (.t 8) (.t 11))])
 (.cond (.t 12)
 .skip
 (.exit 0)))
 (.seq
 (.block 1
 (.reg [mv 15 3,
 oo 16 (.faddr 5 (.t 1)),
 oo 17 (.load none (.t 16)),
 mv 18 4,
 oo 19 (.iaddr 9 (.t 17) (.t 18)),
 oo 20 (.load (some 9) (.t 19)),
 oo 21 (.call 9 [(.t 20)]),
 oo 22 (.bin .int .add (.t 15) (.t 21)),
 mv 3 22]))
 (.reg [mv 13 4,
 oo 14 (.bin .int .add (.t 13) (.c (.int .i64 1))),
 mv 4 14]))))))
 (.seq
 (.seq
 (.reg [oo 5 (.move (.c (.int .i64 0)))])
 (.block 2
 (.loop
 (.seq
 (.seq
 (.reg [mv 23 5,
 oo 24 (.faddr 6 (.t 1)),
 oo 25 (.load none (.t 24)),
 oo 26 (.len .slice (.t 25)),
 oo 27 (.bin .int .lss (.t 23) (.t 26))])
 (.cond (.t 27)
 .skip
 (.exit 2)))
 (.seq
 (.block 3
 (.reg [mv 30 3,
 oo 31 (.faddr 6 (.t 1)),
 oo 32 (.load none (.t 31)),
 mv 33 5,
 oo 34 (.iaddr 13 (.t 32) (.t 33)),
 oo 35 (.faddr 4 (.t 34)),
 oo 36 (.load (some 9) (.t 35)),
 oo 37 (.call 9 [(.t 36)]),
 oo 38 (.bin .int .add (.t 30) (.t 37)),
 mv 3 38]))
 (.reg [mv 28 5,
 oo 29 (.bin .int .add (.t 28) (.c (.int .i64 1))),
 mv 5 29]))))))
 (.seq
 (.seq
 (.reg [oo 6 (.move (.c (.int .i64 0)))])
 (.block 4
 (.loop
 (.seq
 (.seq
 (.reg [mv 39 6,
 oo 40 (.faddr 7 (.t 1)),
 oo 41 (.load none (.t 40)),
 oo 42 (.len .slice (.t 41)),
 oo 43 (.bin .int .lss (.t 39) (.t 42))])
 (.cond (.t 43)
 .skip
 (.exit 4)))
 (.seq
 (.block 5
 (.reg [mv 46 3,
 oo 47 (.faddr 7 (.t 1)),
 oo 48 (.load none (.t 47)),
 mv 49 6,
 oo 50 (.iaddr 10 (.t 48) (.t 49)),
 oo 51 (.faddr 1 (.t 50)),
 oo 52 (.load (some 9) (.t 51)),
 oo 53 (.call 9 [(.t 52)]),
 oo 54 (.bin .int .add (.t 46) (.t 53)),
 mv 3 54]))
 (.reg [mv 44 6,
 oo 45 (.bin .int .add (.t 44) (.c (.int .i64 1))),
 mv 6 45]))))))
 (.seq
 (.seq
 (.reg [oo 7 (.move (.c (.int .i64 0)))])
 (.block 6
 (.loop
 (.seq
 (.seq
 (.reg [mv 55 7,
 oo 56 (.faddr 8 (.t 1)),
 oo 57 (.load none (.t 56)),
 oo 58 (.len .slice (.t 57)),
 oo 59 (.bin .int .lss (.t 55) (.t 58))])
 (.cond (.t 59)
 .skip
 (.exit 6)))
 (.seq
 (.block 7
 (.reg [mv 62 3,
 oo 63 (.faddr 8 (.t 1)),
 oo 64 (.load none (.t 63)),
 mv 65 7,
 oo 66 (.iaddr 10 (.t 64) (.t 65)),
 oo 67 (.faddr 1 (.t 66)),
 oo 68 (.load (some 9) (.t 67)),
 oo 69 (.call 9 [(.t 68)]),
 oo 70 (.bin .int .add (.t 62) (.t 69)),
 mv 3 70]))
 (.reg [mv 60 7,
 oo 61 (.bin .int .add (.t 60) (.c (.int .i64 1))),
 mv 7 61]))))))
 (.seq
 (.reg [mv 71 3,
 mv 2 71])
 .ret)))))))
theorem in9 {args : List AV} {σ : Store} {K : AV → Store → Prop} (hargs : args.length ≤ 72 := by simp) (h : AWP Tryz.prog Tryz.f9.ntmps c9 (fun e t s => match e with | .exit _ => False | _ => Res [.slot 2] K t s) (env (argList 0 args)) σ) : ACalls Tryz.prog 9 args σ K :=
 enter (own := []) Tryz.func9 (by kernel_rfl) (by kernel_rfl) (by kernel_rfl) hargs h
def c10 : ACode :=
(.seq
 (.reg [oo 2 (.move (.c (.int .i64 0)))])
 (.seq
 (.reg [oo 3 (.move (.c (.int .i64 0)))])
 (.seq
 (.seq
 (.reg [mv 6 0,
 oo 7 (.len .slice (.t 6)),
 oo 8 (.move (.c (.int .i64 0)))])
 (.block 0
 (.loop
 (.seq
 (.reg [oo 9 (.bin .int .lss (.t 8) (.t 7))])
 (.seq
 (.cond (.t 9)
 .skip
 (.exit 0))
 (.seq
 (.block 1
 (.seq
 (.reg [oo 10 (.iaddr 10 (.t 6) (.t 8)),
 oo 11 (.load (some 10) (.t 10)),
 oo 5 (.new 39 (.c (.agg [(.str ⟨#[]⟩), (.int .i64 0), (.str ⟨#[]⟩), (.int .i64 0), (.int .i64 0), .nils, .nils, .nils, .nils, .nils]))),
 ⟨none, .store 10 (.t 5) (.t 11), none⟩])
 (.reg [mv 12 3,
 oo 13 (.faddr 1 (.t 5)),
 oo 14 (.load (some 9) (.t 13)),
 oo 15 (.call 22 [(.t 14)]),
 oo 16 (.bin .int .add (.t 12) (.t 15)),
 mv 3 16])))
 (.reg [oo 17 (.bin .int .add (.t 8) (.c (.int .i64 1))),
 mv 8 17])))))))
 (.seq
 (.reg [mv 18 3,
 mv 2 18])
 .ret))))
theorem in10 {args : List AV} {σ : Store} {K : AV → Store → Prop} (hargs : args.length ≤ 19 := by simp) (h : AWP Tryz.prog Tryz.f10.ntmps c10 (fun e t s => match e with | .exit _ => False | _ => Res [.slot 2] K t s) (env (argList 0 args)) σ) : ACalls Tryz.prog 10 args σ K :=
 enter (own := []) Tryz.func10 (by kernel_rfl) (by kernel_rfl) (by kernel_rfl) hargs h
def c11 : ACode :=
(.seq
 (.reg [oo 1 (.new 28 (.t 0)),
 oo 2 (.move (.c (.int .i64 0)))])
 (.seq
 (.reg [oo 3 (.move (.c (.int .i64 0)))])
 (.seq
 (.seq
 (.reg [oo 7 (.faddr 0 (.t 1)),
 oo 8 (.load none (.t 7)),
 oo 9 (.bin .int .eql (.t 8) (.c (.int .i64 11)))])
 (.cond (.t 9)
 (.reg [oo 3 (.move (.c (.int .i64 1)))])
 .skip))
 (.seq
 (.reg [oo 10 (.load (some 9) (.t 1)),
 oo 11 (.call 23 [(.t 10)]),
 mv 4 11])
 (.seq
 (.seq
 (.reg [oo 5 (.move (.c (.int .i64 0)))])
 (.block 0
 (.loop
 (.seq
 (.seq
 (.reg [mv 12 5,
 mv 13 4,
 oo 14 (.len .slice (.t 13)),
 oo 15 (.bin .int .lss (.t 12) (.t 14))])
 (.cond (.t 15)
 .skip
 (.exit 0)))
 (.seq
 (.block 1
 (.reg [mv 18 3,
 mv 19 4,
 mv 20 5,
 oo 21 (.iaddr 9 (.t 19) (.t 20)),
 oo 22 (.load (some 9) (.t 21)),
 oo 23 (.call 11 [(.t 22)]),
 oo 24 (.bin .int .add (.t 18) (.t 23)),
 mv 3 24]))
 (.reg [mv 16 5,
 oo 17 (.bin .int .add (.t 16) (.c (.int .i64 1))),
 mv 5 17]))))))
 (.seq
 (.seq
 (.reg [oo 6 (.move (.c (.int .i64 0)))])
 (.block 2
 (.loop
 (.seq
 (.seq
 (.reg [mv 25 6,
 oo 26 (.faddr 8 (.t 1)),
 oo 27 (.load none (.t 26)),
 oo 28 (.len .slice (.t 27)),
 oo 29 (.bin .int .lss (.t 25) (.t 28))])
 (.cond (.t 29)
 .skip
 (.exit 2)))
 (.seq
 (.block 3
 (.reg [mv 32 3,
 oo 33 (.faddr 8 (.t 1)),
 oo 34 (.load none (.t 33)),
 mv 35 6,
 oo 36 (.iaddr 10 (.t 34) (.t 35)),
 oo 37 (.faddr 1 (.t 36)),
 oo 38 (.load (some 9) (.t 37)),
 oo 39 (.call 11 [(.t 38)]),
 oo 40 (.bin .int .add (.t 32) (.t 39)),
 mv 3 40]))
 (.reg [mv 30 6,
 oo 31 (.bin .int .add (.t 30) (.c (.int .i64 1))),
 mv 6 31]))))))
 (.seq
 (.reg [mv 41 3,
 mv 2 41])
 .ret)))))))
theorem in11 {args : List AV} {σ : Store} {K : AV → Store → Prop} (hargs : args.length ≤ 42 := by simp) (h : AWP Tryz.prog Tryz.f11.ntmps c11 (fun e t s => match e with | .exit _ => False | _ => Res [.slot 2] K t s) (env (argList 0 args)) σ) : ACalls Tryz.prog 11 args σ K :=
 enter (own := []) Tryz.func11 (by kernel_rfl) (by kernel_rfl) (by kernel_rfl) hargs h
def c18 : ACode :=
(.seq
 (.reg [oo 1 (.new 28 (.t 0)),
 oo 2 (.move (.c (.bool false)))])
 (.seq
 (.seq
 (.reg [oo 11 (.faddr 0 (.t 1)),
 oo 12 (.load none (.t 11)),
 oo 13 (.bin .int .eql (.t 12) (.c (.int .i64 11)))])
 (.cond (.t 13)
 (.seq
 (.reg [oo 2 (.move (.c (.bool false)))])
 .ret)
 .skip))
 (.seq
 (.seq
 (.reg [oo 14 (.faddr 5 (.t 1)),
 oo 15 (.load none (.t 14)),
 oo 16 (.len .slice (.t 15)),
 oo 17 (.move (.c (.int .i64 0)))])
 (.block 0
 (.loop
 (.seq
 (.reg [oo 18 (.bin .int .lss (.t 17) (.t 16))])
 (.seq
 (.cond (.t 18)
 .skip
 (.exit 0))
 (.seq
 (.block 1
 (.seq
 (.reg [oo 19 (.iaddr 9 (.t 15) (.t 17)),
 oo 20 (.load (some 9) (.t 19)),
 oo 4 (.new 28 (.c (.agg [(.int .i64 0), (.str ⟨#[]⟩), (.int .i64 0), (.int .i64 0), .nils, .nils, .nils, .nils, .nils]))),
 ⟨none, .store 9 (.t 4) (.t 20), none⟩])
 (.seq
 (.reg [oo 21 (.load (some 9) (.t 4)),
 oo 22 (.call 18 [(.t 21)]),
 oo 23 (.not (.t 22))])
 (.cond (.t 23)
 (.seq
 (.reg [oo 2 (.move (.c (.bool false)))])
 .ret)
 .skip))))
 (.reg [oo 24 (.bin .int .add (.t 17) (.c (.int .i64 1))),
 mv 17 24])))))))
 (.seq
 (.seq
 (.reg [oo 25 (.faddr 6 (.t 1)),
 oo 26 (.load none (.t 25)),
 oo 27 (.len .slice (.t 26)),
 oo 28 (.move (.c (.int .i64 0)))])
 (.block 2
 (.loop
 (.seq
 (.reg [oo 29 (.bin .int .lss (.t 28) (.t 27))])
 (.seq
 (.cond (.t 29)
 .skip
 (.exit 2))
 (.seq
 (.block 3
 (.seq
 (.reg [oo 30 (.iaddr 13 (.t 26) (.t 28)),
 oo 31 (.load (some 13) (.t 30)),
 oo 6 (.new 58 (.c (.agg [(.int .i64 0), (.str ⟨#[]⟩), (.int .i64 0), .nils, (.int .i64 0), (.str ⟨#[]⟩), (.int .i64 0), (.int .i64 0), .nils, .nils, .nils, .nils, .nils]))),
 ⟨none, .store 13 (.t 6) (.t 31), none⟩])
 (.seq
 (.reg [oo 32 (.faddr 4 (.t 6)),
 oo 33 (.load (some 9) (.t 32)),
 oo 34 (.call 18 [(.t 33)]),
 oo 35 (.not (.t 34))])
 (.cond (.t 35)
 (.seq
 (.reg [oo 2 (.move (.c (.bool false)))])
 .ret)
 .skip))))
 (.reg [oo 36 (.bin .int .add (.t 28) (.c (.int .i64 1))),
 mv 28 36])))))))
 (.seq
 (.seq
 (.reg [oo 37 (.faddr 7 (.t 1)),
 oo 38 (.load none (.t 37)),
 oo 39 (.len .slice (.t 38)),
 oo 40 (.move (.c (.int .i64 0)))])
 (.block 4
 (.loop
 (.seq
 (.reg [oo 41 (.bin .int .lss (.t 40) (.t 39))])
 (.seq
 (.cond (.t 41)
 .skip
 (.exit 4))
 (.seq
 (.block 5
 (.seq
 (.reg [oo 42 (.iaddr 10 (.t 38) (.t 40)),
 oo 43 (.load (some 10) (.t 42)),
 oo 8 (.new 59 (.c (.agg [(.str ⟨#[]⟩), (.int .i64 0), (.str ⟨#[]⟩), (.int .i64 0), (.int .i64 0), .nils, .nils, .nils, .nils, .nils]))),
 ⟨none, .store 10 (.t 8) (.t 43), none⟩])
 (.seq
 (.reg [oo 44 (.faddr 1 (.t 8)),
 oo 45 (.load (some 9) (.t 44)),
 oo 46 (.call 18 [(.t 45)]),
 oo 47 (.not (.t 46))])
 (.cond (.t 47)
 (.seq
 (.reg [oo 2 (.move (.c (.bool false)))])
 .ret)
 .skip))))
 (.reg [oo 48 (.bin .int .add (.t 40) (.c (.int .i64 1))),
 mv 40 48])))))))
 (.seq
 (.seq
 (.reg [oo 49 (.faddr 8 (.t 1)),
 oo 50 (.load none (.t 49)),
 oo 51 (.len .slice (.t 50)),
 oo 52 (.move (.c (.int .i64 0)))])
 (.block 6
 (.loop
 (.seq
 (.reg [oo 53 (.bin .int .lss (.t 52) (.t 51))])
 (.seq
 (.cond (.t 53)
 .skip
 (.exit 6))
 (.seq
 (.block 7
 (.seq
 (.reg [oo 54 (.iaddr 10 (.t 50) (.t 52)),
 oo 55 (.load (some 10) (.t 54)),
 oo 10 (.new 36 (.c (.agg [(.int .i64 0), (.int .i64 0), (.str ⟨#[]⟩), (.int .i64 0), (.int .i64 0), .nils, .nils, .nils, .nils, .nils]))),
 ⟨none, .store 10 (.t 10) (.t 55), none⟩])
 (.seq
 (.reg [oo 56 (.faddr 1 (.t 10)),
 oo 57 (.load (some 9) (.t 56)),
 oo 58 (.call 18 [(.t 57)]),
 oo 59 (.not (.t 58))])
 (.cond (.t 59)
 (.seq
 (.reg [oo 2 (.move (.c (.bool false)))])
 .ret)
 .skip))))
 (.reg [oo 60 (.bin .int .add (.t 52) (.c (.int .i64 1))),
 mv 52 60])))))))
 (.seq
 (.reg [oo 2 (.move (.c (.bool true)))])
 .ret)))))))
theorem in18 {args : List AV} {σ : Store} {K : AV → Store → Prop} (hargs : args.length ≤ 61 := by simp) (h : AWP Tryz.prog Tryz.f18.ntmps c18 (fun e t s => match e with | .exit _ => False | _ => Res [.slot 2] K t s) (env (argList 0 args)) σ) : ACalls Tryz.prog 18 args σ K :=
 enter (own := []) Tryz.func18 (by kernel_rfl) (by kernel_rfl) (by kernel_rfl) hargs h
def c19 : ACode :=
(.seq
 (.reg [oo 4 (.move (.c (.bool false)))])
 (.seq
 (.reg [mv 5 0,
 mv 6 1,
 oo 7 (.call 31 [(.t 5), (.t 6)]),
 oo 8 (.bin .int .geq (.t 7) (.c (.int .i64 0))),
 mv 4 8])
 .ret))
theorem in19 {args : List AV} {σ : Store} {K : AV → Store → Prop} (hargs : args.length ≤ 9 := by simp) (h : AWP Tryz.prog Tryz.f19.ntmps c19 (fun e t s => match e with | .exit _ => False | _ => Res [.slot 4] K t s) (env (argList 0 args)) σ) : ACalls Tryz.prog 19 args σ K :=
 enter (own := []) Tryz.func19 (by kernel_rfl) (by kernel_rfl) (by kernel_rfl) hargs h
def c20 : ACode :=
(.seq
 (.reg [oo 2 (.new 36 (.t 0)),
 oo 3 (.move (.c (.bool false)))])
 (.seq
 (.reg [oo 4 (.faddr 0 (.t 2)),
 oo 5 (.load none (.t 4)),
 oo 6 (.faddr 0 (.t 1)),
 oo 7 (.load none (.t 6)),
 oo 8 (.bin .int .eql (.t 5) (.t 7)),
 mv 3 8])
 .ret))
theorem in20 {args : List AV} {σ : Store} {K : AV → Store → Prop} (hargs : args.length ≤ 9 := by simp) (h : AWP Tryz.prog Tryz.f20.ntmps c20 (fun e t s => match e with | .exit _ => False | _ => Res [.slot 3] K t s) (env (argList 0 args)) σ) : ACalls Tryz.prog 20 args σ K :=
 enter (own := []) Tryz.func20 (by kernel_rfl) (by kernel_rfl) (by kernel_rfl) hargs h
def c21 : ACode :=
(.seq
 (.reg [oo 2 (.new 28 (.t 0)),
 oo 4 (.new 28 (.c (.agg [(.int .i64 0), (.str ⟨#[]⟩), (.int .i64 0), (.int .i64 0), .nils, .nils, .nils, .nils, .nils])))])
 (.seq
 (.reg [mv 16 1,
 oo 17 (.mkfn (.func 33) [] [(.t 2)]),
 oo 18 (.call 32 [(.t 16), (.t 17)]),
 mv 1 18])
 (.seq
 (.seq
 (.reg [mv 19 1,
 oo 20 (.len .slice (.t 19)),
 oo 21 (.bin .int .eql (.t 20) (.c (.int .i64 0)))])
 (.cond (.t 21)
 (.seq
 (.reg [oo 22 (.load (some 9) (.t 2)),
 ⟨none, .store 9 (.t 4) (.t 22), none⟩])
 .ret)
 .skip))
 (.seq
 (.reg [mv 23 1,
 oo 24 (.mkfn (.func 35) [] [(.t 2)]),
 oo 25 (.call 32 [(.t 23), (.t 24)]),
 mv 5 25])
 (.seq
 (.seq
 (.reg [mv 26 5,
 oo 27 (.len .slice (.t 26)),
 mv 28 1,
 oo 29 (.len .slice (.t 28)),
 oo 30 (.bin .int .lss (.t 27) (.t 29))])
 (.cond (.t 30)
 (.seq
 (.reg [mv 31 1,
 oo 32 (.mkfn (.func 37) [] [(.t 2)]),
 oo 33 (.call 32 [(.t 31), (.t 32)]),
 mv 6 33])
 (.seq
 (.reg [oo 34 (.load (some 9) (.t 2)),
 mv 35 5,
 oo 36 (.call 21 [(.t 34), (.t 35)]),
 oo 37 (.lit false 28 9 [(.t 36)]),
 mv 38 6,
 oo 39 (.build [(.int .i64 0), (.str ⟨#[]⟩), (.int .i64 0), (.int .i64 0), .nils, .nils, .nils, .nils, .nils] [(0, 1, (.c (.int .i64 11))), (5, 1, (.t 37)), (8, 1, (.t 38))]),
 ⟨none, .store 9 (.t 4) (.t 39), none⟩])
 .ret))
 .skip))
 (.seq
 (.reg [oo 7 (.move (.c .nils))])
 (.seq
 (.seq
 (.reg [oo 40 (.faddr 5 (.t 2)),
 oo 41 (.load none (.t 40)),
 oo 42 (.len .slice (.t 41)),
 oo 43 (.move (.c (.int .i64 0)))])
 (.block 0
 (.loop
 (.seq
 (.reg [oo 44 (.bin .int .lss (.t 43) (.t 42))])
 (.seq
 (.cond (.t 44)
 .skip
 (.exit 0))
 (.seq
 (.block 1
 (.seq
 (.reg [mv 45 43,
 oo 46 (.iaddr 9 (.t 41) (.t 43)),
 oo 47 (.load (some 9) (.t 46)),
 oo 8 (.new 3 (.c (.int .i64 0))),
 oo 9 (.new 28 (.c (.agg [(.int .i64 0), (.str ⟨#[]⟩), (.int .i64 0), (.int .i64 0), .nils, .nils, .nils, .nils, .nils]))),
 ⟨none, .store 1 (.t 8) (.t 45), none⟩,
 ⟨none, .store 9 (.t 9) (.t 47), none⟩])
 (.draw [] [([⟨(some 48), .move (.t 7), none⟩], []),
 ([⟨(some 49), .load (some 9) (.t 9), none⟩], []),
 ([⟨(some 50), .move (.t 1), none⟩], []),
 ([⟨(some 51), .mkfn (.func 39) [] [(.t 8)], none⟩], []),
 ([⟨(some 52), .call 38 [(.t 50), (.t 51)], none⟩], [⟨(some 49), .load (some 9) (.t 9), none⟩]),
 ([⟨(some 53), .call 21 [(.t 49), (.t 52)], none⟩], []),
 ([⟨(some 54), .lit false 28 9 [(.t 53)], none⟩], []),
 ([⟨(some 55), .append 28 9 160 (.t 48) (.t 54), none⟩], []),
 ([⟨(some 7), .move (.t 55), none⟩], [])])))
 (.reg [oo 56 (.bin .int .add (.t 43) (.c (.int .i64 1))),
 mv 43 56])))))))
 (.seq
 (.reg [mv 57 7,
 oo 58 (.faddr 5 (.t 2)),
 ⟨none, .store 1 (.t 58) (.t 57), none⟩])
 (.seq
 (.reg [oo 10 (.move (.c .nils))])
 (.seq
 (.seq
 (.reg [oo 59 (.faddr 6 (.t 2)),
 oo 60 (.load none (.t 59)),
 oo 61 (.len .slice (.t 60)),
 oo 62 (.move (.c (.int .i64 0)))])
 (.block 2
 (.loop
 (.seq
 (.reg [oo 63 (.bin .int .lss (.t 62) (.t 61))])
 (.seq
 (.cond (.t 63)
 .skip
 (.exit 2))
 (.seq
 (.block 3
 (.seq
 (.reg [mv 64 62,
 oo 65 (.iaddr 13 (.t 60) (.t 62)),
 oo 66 (.load (some 13) (.t 65)),
 oo 11 (.new 3 (.c (.int .i64 0))),
 oo 12 (.new 58 (.c (.agg [(.int .i64 0), (.str ⟨#[]⟩), (.int .i64 0), .nils, (.int .i64 0), (.str ⟨#[]⟩), (.int .i64 0), (.int .i64 0), .nils, .nils, .nils, .nils, .nils]))),
 ⟨none, .store 1 (.t 11) (.t 64), none⟩,
 ⟨none, .store 13 (.t 12) (.t 66), none⟩])
 (.seq
 (.draw [] [([⟨(some 67), .faddr 4 (.t 12), none⟩], []),
 ([⟨(some 68), .load (some 9) (.t 67), none⟩], []),
 ([⟨(some 69), .move (.t 1), none⟩], []),
 ([⟨(some 70), .mkfn (.func 40) [] [(.t 11)], none⟩], []),
 ([⟨(some 71), .call 38 [(.t 69), (.t 70)], none⟩], [⟨(some 67), .faddr 4 (.t 12), none⟩, ⟨(some 68), .load (some 9) (.t 67), none⟩]),
 ([⟨(some 72), .call 21 [(.t 68), (.t 71)], none⟩], []),
 ([⟨(some 73), .faddr 4 (.t 12), none⟩], []),
 ([⟨none, .store 9 (.t 73) (.t 72), none⟩], [])])
 (.reg [mv 74 10,
 oo 75 (.load (some 13) (.t 12)),
 oo 76 (.lit false 58 13 [(.t 75)]),
 oo 77 (.append 58 13 216 (.t 74) (.t 76)),
 mv 10 77]))))
 (.reg [oo 78 (.bin .int .add (.t 62) (.c (.int .i64 1))),
 mv 62 78])))))))
 (.seq
 (.reg [mv 79 10,
 oo 80 (.faddr 6 (.t 2)),
 ⟨none, .store 1 (.t 80) (.t 79), none⟩])
 (.seq
 (.reg [oo 13 (.move (.c .nils))])
 (.seq
 (.seq
 (.reg [oo 81 (.faddr 7 (.t 2)),
 oo 82 (.load none (.t 81)),
 oo 83 (.len .slice (.t 82)),
 oo 84 (.move (.c (.int .i64 0)))])
 (.block 4
 (.loop
 (.seq
 (.reg [oo 85 (.bin .int .lss (.t 84) (.t 83))])
 (.seq
 (.cond (.t 85)
 .skip
 (.exit 4))
 (.seq
 (.block 5
 (.seq
 (.reg [mv 86 84,
 oo 87 (.iaddr 10 (.t 82) (.t 84)),
 oo 88 (.load (some 10) (.t 87)),
 oo 14 (.new 3 (.c (.int .i64 0))),
 oo 15 (.new 59 (.c (.agg [(.str ⟨#[]⟩), (.int .i64 0), (.str ⟨#[]⟩), (.int .i64 0), (.int .i64 0), .nils, .nils, .nils, .nils, .nils]))),
 ⟨none, .store 1 (.t 14) (.t 86), none⟩,
 ⟨none, .store 10 (.t 15) (.t 88), none⟩])
 (.seq
 (.draw [] [([⟨(some 89), .faddr 1 (.t 15), none⟩], []),
 ([⟨(some 90), .load (some 9) (.t 89), none⟩], []),
 ([⟨(some 91), .move (.t 1), none⟩], []),
 ([⟨(some 92), .mkfn (.func 41) [] [(.t 14)], none⟩], []),
 ([⟨(some 93), .call 38 [(.t 91), (.t 92)], none⟩], [⟨(some 89), .faddr 1 (.t 15), none⟩, ⟨(some 90), .load (some 9) (.t 89), none⟩]),
 ([⟨(some 94), .call 21 [(.t 90), (.t 93)], none⟩], []),
 ([⟨(some 95), .faddr 1 (.t 15), none⟩], []),
 ([⟨none, .store 9 (.t 95) (.t 94), none⟩], [])])
 (.reg [mv 96 13,
 oo 97 (.load (some 10) (.t 15)),
 oo 98 (.lit false 59 10 [(.t 97)]),
 oo 99 (.append 59 10 176 (.t 96) (.t 98)),
 mv 13 99]))))
 (.reg [oo 100 (.bin .int .add (.t 84) (.c (.int .i64 1))),
 mv 84 100])))))))
 (.seq
 (.reg [mv 101 13,
 oo 102 (.faddr 7 (.t 2)),
 ⟨none, .store 1 (.t 102) (.t 101), none⟩])
 (.seq
 (.reg [oo 103 (.load (some 9) (.t 2)),
 ⟨none, .store 9 (.t 4) (.t 103), none⟩])
 .ret)))))))))))))))
theorem in21 {args : List AV} {σ : Store} {K : AV → Store → Prop} (hargs : args.length ≤ 104 := by simp) (h : AWP Tryz.prog Tryz.f21.ntmps c21 (fun e t s => match e with | .exit _ => False | _ => Res [.cell 4 (some 9)] K t s) (env (argList 0 args)) σ) : ACalls Tryz.prog 21 args σ K :=
 enter (own := []) Tryz.func21 (by kernel_rfl) (by kernel_rfl) (by kernel_rfl) hargs h
def c22 : ACode :=
(.seq
 (.reg [oo 1 (.new 28 (.t 0)),
 oo 2 (.move (.c (.int .i64 0)))])
 (.seq
 (.reg [oo 3 (.move (.c (.int .i64 0)))])
 (.seq
 (.seq
 (.reg [oo 12 (.faddr 0 (.t 1)),
 oo 13 (.load none (.t 12)),
 oo 14 (.bin .int .eql (.t 13) (.c (.int .i64 11)))])
 (.cond (.t 14)
 (.reg [oo 3 (.move (.c (.int .i64 1)))])
 .skip))
 (.seq
 (.seq
 (.reg [oo 15 (.faddr 5 (.t 1)),
 oo 16 (.load none (.t 15)),
 oo 17 (.len .slice (.t 16)),
 oo 18 (.move (.c (.int .i64 0)))])
 (.block 0
 (.loop
 (.seq
 (.reg [oo 19 (.bin .int .lss (.t 18) (.t 17))])
 (.seq
 (.cond (.t 19)
 .skip
 (.exit 0))
 (.seq
 (.block 1
 (.seq
 (.reg [oo 20 (.iaddr 9 (.t 16) (.t 18)),
 oo 21 (.load (some 9) (.t 20)),
 oo 5 (.new 28 (.c (.agg [(.int .i64 0), (.str ⟨#[]⟩), (.int .i64 0), (.int .i64 0), .nils, .nils, .nils, .nils, .nils]))),
 ⟨none, .store 9 (.t 5) (.t 21), none⟩])
 (.reg [mv 22 3,
 oo 23 (.load (some 9) (.t 5)),
 oo 24 (.call 22 [(.t 23)]),
 oo 25 (.bin .int .add (.t 22) (.t 24)),
 mv 3 25])))
 (.reg [oo 26 (.bin .int .add (.t 18) (.c (.int .i64 1))),
 mv 18 26])))))))
 (.seq
 (.seq
 (.reg [oo 27 (.faddr 6 (.t 1)),
 oo 28 (.load none (.t 27)),
 oo 29 (.len .slice (.t 28)),
 oo 30 (.move (.c (.int .i64 0)))])
 (.block 2
 (.loop
 (.seq
 (.reg [oo 31 (.bin .int .lss (.t 30) (.t 29))])
 (.seq
 (.cond (.t 31)
 .skip
 (.exit 2))
 (.seq
 (.block 3
 (.seq
 (.reg [oo 32 (.iaddr 13 (.t 28) (.t 30)),
 oo 33 (.load (some 13) (.t 32)),
 oo 7 (.new 58 (.c (.agg [(.int .i64 0), (.str ⟨#[]⟩), (.int .i64 0), .nils, (.int .i64 0), (.str ⟨#[]⟩), (.int .i64 0), (.int .i64 0), .nils, .nils, .nils, .nils, .nils]))),
 ⟨none, .store 13 (.t 7) (.t 33), none⟩])
 (.reg [mv 34 3,
 oo 35 (.faddr 4 (.t 7)),
 oo 36 (.load (some 9) (.t 35)),
 oo 37 (.call 22 [(.t 36)]),
 oo 38 (.bin .int .add (.t 34) (.t 37)),
 mv 3 38])))
 (.reg [oo 39 (.bin .int .add (.t 30) (.c (.int .i64 1))),
 mv 30 39])))))))
 (.seq
 (.seq
 (.reg [oo 40 (.faddr 7 (.t 1)),
 oo 41 (.load none (.t 40)),
 oo 42 (.len .slice (.t 41)),
 oo 43 (.move (.c (.int .i64 0)))])
 (.block 4
 (.loop
 (.seq
 (.reg [oo 44 (.bin .int .lss (.t 43) (.t 42))])
 (.seq
 (.cond (.t 44)
 .skip
 (.exit 4))
 (.seq
 (.block 5
 (.seq
 (.reg [oo 45 (.iaddr 10 (.t 41) (.t 43)),
 oo 46 (.load (some 10) (.t 45)),
 oo 9 (.new 59 (.c (.agg [(.str ⟨#[]⟩), (.int .i64 0), (.str ⟨#[]⟩), (.int .i64 0), (.int .i64 0), .nils, .nils, .nils, .nils, .nils]))),
 ⟨none, .store 10 (.t 9) (.t 46), none⟩])
 (.reg [mv 47 3,
 oo 48 (.faddr 1 (.t 9)),
 oo 49 (.load (some 9) (.t 48)),
 oo 50 (.call 22 [(.t 49)]),
 oo 51 (.bin .int .add (.t 47) (.t 50)),
 mv 3 51])))
 (.reg [oo 52 (.bin .int .add (.t 43) (.c (.int .i64 1))),
 mv 43 52])))))))
 (.seq
 (.seq
 (.reg [oo 53 (.faddr 8 (.t 1)),
 oo 54 (.load none (.t 53)),
 oo 55 (.len .slice (.t 54)),
 oo 56 (.move (.c (.int .i64 0)))])
 (.block 6
 (.loop
 (.seq
 (.reg [oo 57 (.bin .int .lss (.t 56) (.t 55))])
 (.seq
 (.cond (.t 57)
 .skip
 (.exit 6))
 (.seq
 (.block 7
 (.seq
 (.reg [oo 58 (.iaddr 10 (.t 54) (.t 56)),
 oo 59 (.load (some 10) (.t 58)),
 oo 11 (.new 36 (.c (.agg [(.int .i64 0), (.int .i64 0), (.str ⟨#[]⟩), (.int .i64 0), (.int .i64 0), .nils, .nils, .nils, .nils, .nils]))),
 ⟨none, .store 10 (.t 11) (.t 59), none⟩])
 (.reg [mv 60 3,
 oo 61 (.faddr 1 (.t 11)),
 oo 62 (.load (some 9) (.t 61)),
 oo 63 (.call 22 [(.t 62)]),
 oo 64 (.bin .int .add (.t 60) (.t 63)),
 mv 3 64])))
 (.reg [oo 65 (.bin .int .add (.t 56) (.c (.int .i64 1))),
 mv 56 65])))))))
 (.seq
 (.reg [mv 66 3,
 mv 2 66])
 .ret))))))))
theorem in22 {args : List AV} {σ : Store} {K : AV → Store → Prop} (hargs : args.length ≤ 67 := by simp) (h : AWP Tryz.prog Tryz.f22.ntmps c22 (fun e t s => match e with | .exit _ => False | _ => Res [.slot 2] K t s) (env (argList 0 args)) σ) : ACalls Tryz.prog 22 args σ K :=
 enter (own := []) Tryz.func22 (by kernel_rfl) (by kernel_rfl) (by kernel_rfl) hargs h
def c23 : ACode :=
(.seq
 (.reg [oo 1 (.new 28 (.t 0)),
 oo 2 (.move (.c .nils))])
 (.seq
 (.reg [oo 3 (.move (.c .nils))])
 (.seq
 (.seq
 (.reg [oo 4 (.move (.c (.int .i64 0)))])
 (.block 0
 (.loop
 (.seq
 (.seq
 (.reg [mv 7 4,
 oo 8 (.faddr 5 (.t 1)),
 oo 9 (.load none (.t 8)),
 oo 10 (.len .slice (.t 9)),
 oo 11 (.bin .int .lss (.t 7) (.t 10))])
 (.cond (.t 11)
 .skip
 (.exit 0)))
 (.seq
 (.block 1
 (.reg [mv 14 3,
 oo 15 (.faddr 5 (.t 1)),
 oo 16 (.load none (.t 15)),
 mv 17 4,
 oo 18 (.iaddr 9 (.t 16) (.t 17)),
 oo 19 (.load (some 9) (.t 18)),
 oo 20 (.lit false 28 9 [(.t 19)]),
 oo 21 (.append 28 9 160 (.t 14) (.t 20)),
 mv 3 21]))
 (.reg [mv 12 4,
 oo 13 (.bin .int .add (.t 12) (.c (.int .i64 1))),
 mv 4 13]))))))
 (.seq
 (.seq
 (.reg [oo 5 (.move (.c (.int .i64 0)))])
 (.block 2
 (.loop
 (.seq
 (.seq
 (.reg [mv 22 5,
 oo 23 (.faddr 6 (.t 1)),
 oo 24 (.load none (.t 23)),
 oo 25 (.len .slice (.t 24)),
 oo 26 (.bin .int .lss (.t 22) (.t 25))])
 (.cond (.t 26)
 .skip
 (.exit 2)))
 (.seq
 (.block 3
 (.reg [mv 29 3,
 oo 30 (.faddr 6 (.t 1)),
 oo 31 (.load none (.t 30)),
 mv 32 5,
 oo 33 (.iaddr 13 (.t 31) (.t 32)),
 oo 34 (.faddr 4 (.t 33)),
 oo 35 (.load (some 9) (.t 34)),
 oo 36 (.lit false 28 9 [(.t 35)]),
 oo 37 (.append 28 9 160 (.t 29) (.t 36)),
 mv 3 37]))
 (.reg [mv 27 5,
 oo 28 (.bin .int .add (.t 27) (.c (.int .i64 1))),
 mv 5 28]))))))
 (.seq
 (.seq
 (.reg [oo 6 (.move (.c (.int .i64 0)))])
 (.block 4
 (.loop
 (.seq
 (.seq
 (.reg [mv 38 6,
 oo 39 (.faddr 7 (.t 1)),
 oo 40 (.load none (.t 39)),
 oo 41 (.len .slice (.t 40)),
 oo 42 (.bin .int .lss (.t 38) (.t 41))])
 (.cond (.t 42)
 .skip
 (.exit 4)))
 (.seq
 (.block 5
 (.reg [mv 45 3,
 oo 46 (.faddr 7 (.t 1)),
 oo 47 (.load none (.t 46)),
 mv 48 6,
 oo 49 (.iaddr 10 (.t 47) (.t 48)),
 oo 50 (.faddr 1 (.t 49)),
 oo 51 (.load (some 9) (.t 50)),
 oo 52 (.lit false 28 9 [(.t 51)]),
 oo 53 (.append 28 9 160 (.t 45) (.t 52)),
 mv 3 53]))
 (.reg [mv 43 6,
 oo 44 (.bin .int .add (.t 43) (.c (.int .i64 1))),
 mv 6 44]))))))
 (.seq
 (.reg [mv 54 3,
 mv 2 54])
 .ret))))))
theorem in23 {args : List AV} {σ : Store} {K : AV → Store → Prop} (hargs : args.length ≤ 55 := by simp) (h : AWP Tryz.prog Tryz.f23.ntmps c23 (fun e t s => match e with | .exit _ => False | _ => Res [.slot 2] K t s) (env (argList 0 args)) σ) : ACalls Tryz.prog 23 args σ K :=
 enter (own := []) Tryz.func23 (by kernel_rfl) (by kernel_rfl) (by kernel_rfl) hargs h
def c31 : ACode :=
(.seq
 (.reg [oo 4 (.move (.c (.int .i64 0)))])
 (.seq
 (.seq
 (.reg [mv 6 0,
 oo 7 (.len .slice (.t 6)),
 oo 8 (.move (.c (.int .i64 0)))])
 (.block 0
 (.loop
 (.seq
 (.reg [oo 9 (.bin .int .lss (.t 8) (.t 7))])
 (.seq
 (.cond (.t 9)
 .skip
 (.exit 0))
 (.seq
 (.block 1
 (.seq
 (.reg [mv 10 8,
 mv 5 10])
 (.seq
 (.reg [mv 11 1,
 mv 12 0,
 mv 13 5,
 oo 14 (.iaddr 10 (.t 12) (.t 13)),
 oo 15 (.load (some 10) (.t 14)),
 oo 16 (.callv (.t 11) [(.t 15)])])
 (.cond (.t 16)
 (.seq
 (.reg [mv 17 5,
 mv 4 17])
 .ret)
 .skip))))
 (.reg [oo 18 (.bin .int .add (.t 8) (.c (.int .i64 1))),
 mv 8 18])))))))
 (.seq
 (.reg [oo 4 (.move (.c (.int .i64 (-1))))])
 .ret)))
theorem in31 {args : List AV} {σ : Store} {K : AV → Store → Prop} (hargs : args.length ≤ 19 := by simp) (h : AWP Tryz.prog Tryz.f31.ntmps c31 (fun e t s => match e with | .exit _ => False | _ => Res [.slot 4] K t s) (env (argList 0 args)) σ) : ACalls Tryz.prog 31 args σ K :=
 enter (own := []) Tryz.func31 (by kernel_rfl) (by kernel_rfl) (by kernel_rfl) hargs h
def c32 : ACode :=
(.seq
 (.reg [oo 4 (.move (.c .nils))])
 (.seq
 (.reg [oo 5 (.move (.c .nils))])
 (.seq
 (.seq
 (.reg [mv 8 0,
 oo 9 (.len .slice (.t 8)),
 oo 10 (.move (.c (.int .i64 0)))])
 (.block 0
 (.loop
 (.seq
 (.reg [oo 11 (.bin .int .lss (.t 10) (.t 9))])
 (.seq
 (.cond (.t 11)
 .skip
 (.exit 0))
 (.seq
 (.block 1
 (.seq
 (.reg [oo 12 (.iaddr 10 (.t 8) (.t 10)),
 oo 13 (.load (some 10) (.t 12)),
 oo 7 (.new 36 (.c (.agg [(.int .i64 0), (.int .i64 0), (.str ⟨#[]⟩), (.int .i64 0), (.int .i64 0), .nils, .nils, .nils, .nils, .nils]))),
 ⟨none, .store 10 (.t 7) (.t 13), none⟩])
 (.seq
 (.reg [mv 14 1,
 oo 15 (.load (some 10) (.t 7)),
 oo 16 (.callv (.t 14) [(.t 15)])])
 (.cond (.t 16)
 (.reg [mv 17 5,
 oo 18 (.load (some 10) (.t 7)),
 oo 19 (.lit false 36 10 [(.t 18)]),
 oo 20 (.append 36 10 168 (.t 17) (.t 19)),
 mv 5 20])
 .skip))))
 (.reg [oo 21 (.bin .int .add (.t 10) (.c (.int .i64 1))),
 mv 10 21])))))))
 (.seq
 (.reg [mv 22 5,
 mv 4 22])
 .ret))))
theorem in32 {args : List AV} {σ : Store} {K : AV → Store → Prop} (hargs : args.length ≤ 23 := by simp) (h : AWP Tryz.prog Tryz.f32.ntmps c32 (fun e t s => match e with | .exit _ => False | _ => Res [.slot 4] K t s) (env (argList 0 args)) σ) : ACalls Tryz.prog 32 args σ K :=
 enter (own := []) Tryz.func32 (by kernel_rfl) (by kernel_rfl) (by kernel_rfl) hargs h
def c33 : ACode :=
(.seq
 (.reg [oo 2 (.new 36 (.t 0)),
 oo 3 (.move (.c (.bool false)))])
 (.seq
 (.reg [oo 4 (.load (some 9) (.t 1)),
 oo 5 (.faddr 1 (.t 2)),
 oo 6 (.load (some 9) (.t 5)),
 oo 7 (.call 34 [(.t 4), (.t 6)]),
 oo 8 (.not (.t 7)),
 mv 3 8])
 .ret))
theorem in33 {args : List AV} {σ : Store} {K : AV → Store → Prop} (hargs : args.length ≤ 9 := by simp) (h : AWP Tryz.prog Tryz.f33.ntmps c33 (fun e t s => match e with | .exit _ => False | _ => Res [.slot 3] K t s) (env (argList 0 args)) σ) : ACalls Tryz.prog 33 args σ K :=
 enter (own := []) Tryz.func33 (by kernel_rfl) (by kernel_rfl) (by kernel_rfl) hargs h
def c34 : ACode :=
(.seq
 (.reg [oo 2 (.new 28 (.t 0)),
 oo 3 (.new 28 (.t 1)),
 oo 4 (.move (.c (.bool false)))])
 (.seq
 (.seq
 (.reg [oo 9 (.load (some 9) (.t 2)),
 oo 10 (.load (some 9) (.t 3)),
 oo 11 (.call 36 [(.t 9), (.t 10)]),
 oo 12 (.not (.t 11))])
 (.cond (.t 12)
 (.seq
 (.reg [oo 4 (.move (.c (.bool false)))])
 .ret)
 .skip))
 (.seq
 (.seq
 (.reg [oo 13 (.faddr 5 (.t 2)),
 oo 14 (.load none (.t 13)),
 oo 15 (.len .slice (.t 14)),
 oo 16 (.move (.c (.int .i64 0)))])
 (.block 0
 (.loop
 (.seq
 (.reg [oo 17 (.bin .int .lss (.t 16) (.t 15))])
 (.seq
 (.cond (.t 17)
 .skip
 (.exit 0))
 (.seq
 (.block 1
 (.seq
 (.reg [mv 18 16,
 mv 5 18])
 (.seq
 (.reg [oo 19 (.faddr 5 (.t 2)),
 oo 20 (.load none (.t 19)),
 mv 21 5,
 oo 22 (.iaddr 9 (.t 20) (.t 21)),
 oo 23 (.load (some 9) (.t 22)),
 oo 24 (.faddr 5 (.t 3)),
 oo 25 (.load none (.t 24)),
 mv 26 5,
 oo 27 (.iaddr 9 (.t 25) (.t 26)),
 oo 28 (.load (some 9) (.t 27)),
 oo 29 (.call 34 [(.t 23), (.t 28)]),
 oo 30 (.not (.t 29))])
 (.cond (.t 30)
 (.seq
 (.reg [oo 4 (.move (.c (.bool false)))])
 .ret)
 .skip))))
 (.reg [oo 31 (.bin .int .add (.t 16) (.c (.int .i64 1))),
 mv 16 31])))))))
 (.seq
 (.seq
 (.reg [oo 32 (.faddr 6 (.t 2)),
 oo 33 (.load none (.t 32)),
 oo 34 (.len .slice (.t 33)),
 oo 35 (.move (.c (.int .i64 0)))])
 (.block 2
 (.loop
 (.seq
 (.reg [oo 36 (.bin .int .lss (.t 35) (.t 34))])
 (.seq
 (.cond (.t 36)
 .skip
 (.exit 2))
 (.seq
 (.block 3
 (.seq
 (.reg [mv 37 35,
 mv 6 37])
 (.seq
 (.reg [oo 38 (.faddr 6 (.t 2)),
 oo 39 (.load none (.t 38)),
 mv 40 6,
 oo 41 (.iaddr 13 (.t 39) (.t 40)),
 oo 42 (.faddr 4 (.t 41)),
 oo 43 (.load (some 9) (.t 42)),
 oo 44 (.faddr 6 (.t 3)),
 oo 45 (.load none (.t 44)),
 mv 46 6,
 oo 47 (.iaddr 13 (.t 45) (.t 46)),
 oo 48 (.faddr 4 (.t 47)),
 oo 49 (.load (some 9) (.t 48)),
 oo 50 (.call 34 [(.t 43), (.t 49)]),
 oo 51 (.not (.t 50))])
 (.cond (.t 51)
 (.seq
 (.reg [oo 4 (.move (.c (.bool false)))])
 .ret)
 .skip))))
 (.reg [oo 52 (.bin .int .add (.t 35) (.c (.int .i64 1))),
 mv 35 52])))))))
 (.seq
 (.seq
 (.reg [oo 53 (.faddr 7 (.t 2)),
 oo 54 (.load none (.t 53)),
 oo 55 (.len .slice (.t 54)),
 oo 56 (.move (.c (.int .i64 0)))])
 (.block 4
 (.loop
 (.seq
 (.reg [oo 57 (.bin .int .lss (.t 56) (.t 55))])
 (.seq
 (.cond (.t 57)
 .skip
 (.exit 4))
 (.seq
 (.block 5
 (.seq
 (.reg [mv 58 56,
 mv 7 58])
 (.seq
 (.reg [oo 59 (.faddr 7 (.t 2)),
 oo 60 (.load none (.t 59)),
 mv 61 7,
 oo 62 (.iaddr 10 (.t 60) (.t 61)),
 oo 63 (.faddr 1 (.t 62)),
 oo 64 (.load (some 9) (.t 63)),
 oo 65 (.faddr 7 (.t 3)),
 oo 66 (.load none (.t 65)),
 mv 67 7,
 oo 68 (.iaddr 10 (.t 66) (.t 67)),
 oo 69 (.faddr 1 (.t 68)),
 oo 70 (.load (some 9) (.t 69)),
 oo 71 (.call 34 [(.t 64), (.t 70)]),
 oo 72 (.not (.t 71))])
 (.cond (.t 72)
 (.seq
 (.reg [oo 4 (.move (.c (.bool false)))])
 .ret)
 .skip))))
 (.reg [oo 73 (.bin .int .add (.t 56) (.c (.int .i64 1))),
 mv 56 73])))))))
 (.seq
 (.seq
 (.reg [oo 74 (.faddr 8 (.t 2)),
 oo 75 (.load none (.t 74)),
 oo 76 (.len .slice (.t 75)),
 oo 77 (.move (.c (.int .i64 0)))])
 (.block 6
 (.loop
 (.seq
 (.reg [oo 78 (.bin .int .lss (.t 77) (.t 76))])
 (.seq
 (.cond (.t 78)
 .skip
 (.exit 6))
 (.seq
 (.block 7
 (.seq
 (.reg [mv 79 77,
 mv 8 79])
 (.seq
 (.reg [oo 80 (.faddr 8 (.t 2)),
 oo 81 (.load none (.t 80)),
 mv 82 8,
 oo 83 (.iaddr 10 (.t 81) (.t 82)),
 oo 84 (.faddr 0 (.t 83)),
 oo 85 (.load none (.t 84)),
 oo 86 (.faddr 8 (.t 3)),
 oo 87 (.load none (.t 86)),
 mv 88 8,
 oo 89 (.iaddr 10 (.t 87) (.t 88)),
 oo 90 (.faddr 0 (.t 89)),
 oo 91 (.load none (.t 90)),
 oo 92 (.bin .int .neq (.t 85) (.t 91)),
 mv 93 92,
 og 94 93 false (.faddr 8 (.t 2)),
 og 95 93 false (.load none (.t 94)),
 og 96 93 false (.move (.t 8)),
 og 97 93 false (.iaddr 10 (.t 95) (.t 96)),
 og 98 93 false (.faddr 1 (.t 97)),
 og 99 93 false (.load (some 9) (.t 98)),
 og 100 93 false (.faddr 8 (.t 3)),
 og 101 93 false (.load none (.t 100)),
 og 102 93 false (.move (.t 8)),
 og 103 93 false (.iaddr 10 (.t 101) (.t 102)),
 og 104 93 false (.faddr 1 (.t 103)),
 og 105 93 false (.load (some 9) (.t 104)),
 og 106 93 false (.call 34 [(.t 99), (.t 105)]),
 og 107 93 false (.not (.t 106)),
 oo 108 (.pick (.t 93) (.c (.bool true)) (.t 107))])
 (.cond (.t 108)
 (.seq
 (.reg [oo 4 (.move (.c (.bool false)))])
 .ret)
 .skip))))
 (.reg [oo 109 (.bin .int .add (.t 77) (.c (.int .i64 1))),
 mv 77 109])))))))
 (.seq
 (.reg [oo 4 (.move (.c (.bool true)))])
 .ret)))))))
theorem in34 {args : List AV} {σ : Store} {K : AV → Store → Prop} (hargs : args.length ≤ 110 := by simp) (h : AWP Tryz.prog Tryz.f34.ntmps c34 (fun e t s => match e with | .exit _ => False | _ => Res [.slot 4] K t s) (env (argList 0 args)) σ) : ACalls Tryz.prog 34 args σ K :=
 enter (own := []) Tryz.func34 (by kernel_rfl) (by kernel_rfl) (by kernel_rfl) hargs h
def c35 : ACode :=
(.seq
 (.reg [oo 2 (.new 36 (.t 0)),
 oo 3 (.move (.c (.bool false)))])
 (.seq
 (.reg [oo 4 (.load (some 9) (.t 1)),
 oo 5 (.faddr 1 (.t 2)),
 oo 6 (.load (some 9) (.t 5)),
 oo 7 (.call 36 [(.t 4), (.t 6)]),
 mv 3 7])
 .ret))
theorem in35 {args : List AV} {σ : Store} {K : AV → Store → Prop} (hargs : args.length ≤ 8 := by simp) (h : AWP Tryz.prog Tryz.f35.ntmps c35 (fun e t s => match e with | .exit _ => False | _ => Res [.slot 3] K t s) (env (argList 0 args)) σ) : ACalls Tryz.prog 35 args σ K :=
 enter (own := []) Tryz.func35 (by kernel_rfl) (by kernel_rfl) (by kernel_rfl) hargs h
def c36 : ACode :=
(.seq
 (.reg [oo 2 (.new 28 (.t 0)),
 oo 3 (.new 28 (.t 1)),
 oo 4 (.move (.c (.bool false)))])
 (.seq
 (.seq
 (.reg [oo 10 (.faddr 0 (.t 2)),
 oo 11 (.load none (.t 10)),
 oo 12 (.faddr 0 (.t 3)),
 oo 13 (.load none (.t 12)),
 oo 14 (.bin .int .neq (.t 11) (.t 13)),
 mv 15 14,
 og 16 15 false (.faddr 1 (.t 2)),
 og 17 15 false (.load none (.t 16)),
 og 18 15 false (.faddr 1 (.t 3)),
 og 19 15 false (.load none (.t 18)),
 og 20 15 false (.bin .str .neq (.t 17) (.t 19)),
 oo 21 (.pick (.t 15) (.c (.bool true)) (.t 20)),
 mv 22 21,
 og 23 22 false (.faddr 2 (.t 2)),
 og 24 22 false (.load none (.t 23)),
 og 25 22 false (.faddr 2 (.t 3)),
 og 26 22 false (.load none (.t 25)),
 og 27 22 false (.bin .int .neq (.t 24) (.t 26)),
 oo 28 (.pick (.t 22) (.c (.bool true)) (.t 27)),
 mv 29 28,
 og 30 29 false (.faddr 3 (.t 2)),
 og 31 29 false (.load none (.t 30)),
 og 32 29 false (.faddr 3 (.t 3)),
 og 33 29 false (.load none (.t 32)),
 og 34 29 false (.bin .int .neq (.t 31) (.t 33)),
 oo 35 (.pick (.t 29) (.c (.bool true)) (.t 34)),
 mv 36 35,
 og 37 36 false (.faddr 4 (.t 2)),
 og 38 36 false (.load none (.t 37)),
 og 39 36 false (.faddr 4 (.t 3)),
 og 40 36 false (.load none (.t 39)),
 og 41 36 false (.call 56 [(.t 38), (.t 40)]),
 og 42 36 false (.not (.t 41)),
 oo 43 (.pick (.t 36) (.c (.bool true)) (.t 42))])
 (.cond (.t 43)
 (.seq
 (.reg [oo 4 (.move (.c (.bool false)))])
 .ret)
 .skip))
 (.seq
 (.seq
 (.reg [oo 44 (.faddr 5 (.t 2)),
 oo 45 (.load none (.t 44)),
 oo 46 (.len .slice (.t 45)),
 oo 47 (.faddr 5 (.t 3)),
 oo 48 (.load none (.t 47)),
 oo 49 (.len .slice (.t 48)),
 oo 50 (.bin .int .neq (.t 46) (.t 49)),
 mv 51 50,
 og 52 51 false (.faddr 6 (.t 2)),
 og 53 51 false (.load none (.t 52)),
 og 54 51 false (.len .slice (.t 53)),
 og 55 51 false (.faddr 6 (.t 3)),
 og 56 51 false (.load none (.t 55)),
 og 57 51 false (.len .slice (.t 56)),
 og 58 51 false (.bin .int .neq (.t 54) (.t 57)),
 oo 59 (.pick (.t 51) (.c (.bool true)) (.t 58)),
 mv 60 59,
 og 61 60 false (.faddr 7 (.t 2)),
 og 62 60 false (.load none (.t 61)),
 og 63 60 false (.len .slice (.t 62)),
 og 64 60 false (.faddr 7 (.t 3)),
 og 65 60 false (.load none (.t 64)),
 og 66 60 false (.len .slice (.t 65)),
 og 67 60 false (.bin .int .neq (.t 63) (.t 66)),
 oo 68 (.pick (.t 60) (.c (.bool true)) (.t 67)),
 mv 69 68,
 og 70 69 false (.faddr 8 (.t 2)),
 og 71 69 false (.load none (.t 70)),
 og 72 69 false (.len .slice (.t 71)),
 og 73 69 false (.faddr 8 (.t 3)),
 og 74 69 false (.load none (.t 73)),
 og 75 69 false (.len .slice (.t 74)),
 og 76 69 false (.bin .int .neq (.t 72) (.t 75)),
 oo 77 (.pick (.t 69) (.c (.bool true)) (.t 76))])
 (.cond (.t 77)
 (.seq
 (.reg [oo 4 (.move (.c (.bool false)))])
 .ret)
 .skip))
 (.seq
 (.seq
 (.reg [oo 78 (.faddr 6 (.t 2)),
 oo 79 (.load none (.t 78)),
 oo 80 (.len .slice (.t 79)),
 oo 81 (.move (.c (.int .i64 0)))])
 (.block 0
 (.loop
 (.seq
 (.reg [oo 82 (.bin .int .lss (.t 81) (.t 80))])
 (.seq
 (.cond (.t 82)
 .skip
 (.exit 0))
 (.seq
 (.block 1
 (.seq
 (.reg [mv 83 81,
 oo 84 (.iaddr 13 (.t 79) (.t 81)),
 oo 85 (.load (some 13) (.t 84)),
 oo 6 (.new 58 (.c (.agg [(.int .i64 0), (.str ⟨#[]⟩), (.int .i64 0), .nils, (.int .i64 0), (.str ⟨#[]⟩), (.int .i64 0), (.int .i64 0), .nils, .nils, .nils, .nils, .nils]))),
 mv 5 83,
 ⟨none, .store 13 (.t 6) (.t 85), none⟩])
 (.seq
 (.reg [oo 86 (.faddr 6 (.t 3)),
 oo 87 (.load none (.t 86)),
 mv 88 5,
 oo 89 (.iaddr 13 (.t 87) (.t 88)),
 oo 90 (.load (some 13) (.t 89)),
 oo 7 (.new 58 (.c (.agg [(.int .i64 0), (.str ⟨#[]⟩), (.int .i64 0), .nils, (.int .i64 0), (.str ⟨#[]⟩), (.int .i64 0), (.int .i64 0), .nils, .nils, .nils, .nils, .nils]))),
 ⟨none, .store 13 (.t 7) (.t 90), none⟩])
 (.seq
 (.reg [oo 91 (.faddr 0 (.t 6)),
 oo 92 (.load none (.t 91)),
 oo 93 (.faddr 0 (.t 7)),
 oo 94 (.load none (.t 93)),
 oo 95 (.bin .int .neq (.t 92) (.t 94)),
 mv 96 95,
 og 97 96 false (.faddr 1 (.t 6)),
 og 98 96 false (.load none (.t 97)),
 og 99 96 false (.faddr 1 (.t 7)),
 og 100 96 false (.load none (.t 99)),
 og 101 96 false (.bin .str .neq (.t 98) (.t 100)),
 oo 102 (.pick (.t 96) (.c (.bool true)) (.t 101)),
 mv 103 102,
 og 104 103 false (.faddr 2 (.t 6)),
 og 105 103 false (.load none (.t 104)),
 og 106 103 false (.faddr 2 (.t 7)),
 og 107 103 false (.load none (.t 106)),
 og 108 103 false (.bin .int .neq (.t 105) (.t 107)),
 oo 109 (.pick (.t 103) (.c (.bool true)) (.t 108)),
 mv 110 109,
 og 111 110 false (.faddr 3 (.t 6)),
 og 112 110 false (.load none (.t 111)),
 og 113 110 false (.faddr 3 (.t 7)),
 og 114 110 false (.load none (.t 113)),
 og 115 110 false (.call 56 [(.t 112), (.t 114)]),
 og 116 110 false (.not (.t 115)),
 oo 117 (.pick (.t 110) (.c (.bool true)) (.t 116))])
 (.cond (.t 117)
 (.seq
 (.reg [oo 4 (.move (.c (.bool false)))])
 .ret)
 .skip)))))
 (.reg [oo 118 (.bin .int .add (.t 81) (.c (.int .i64 1))),
 mv 81 118])))))))
 (.seq
 (.seq
 (.reg [oo 119 (.faddr 7 (.t 2)),
 oo 120 (.load none (.t 119)),
 oo 121 (.len .slice (.t 120)),
 oo 122 (.move (.c (.int .i64 0)))])
 (.block 2
 (.loop
 (.seq
 (.reg [oo 123 (.bin .int .lss (.t 122) (.t 121))])
 (.seq
 (.cond (.t 123)
 .skip
 (.exit 2))
 (.seq
 (.block 3
 (.seq
 (.reg [mv 124 122,
 oo 125 (.iaddr 10 (.t 120) (.t 122)),
 oo 126 (.load (some 10) (.t 125)),
 oo 9 (.new 59 (.c (.agg [(.str ⟨#[]⟩), (.int .i64 0), (.str ⟨#[]⟩), (.int .i64 0), (.int .i64 0), .nils, .nils, .nils, .nils, .nils]))),
 mv 8 124,
 ⟨none, .store 10 (.t 9) (.t 126), none⟩])
 (.seq
 (.reg [oo 127 (.faddr 0 (.t 9)),
 oo 128 (.load none (.t 127)),
 oo 129 (.faddr 7 (.t 3)),
 oo 130 (.load none (.t 129)),
 mv 131 8,
 oo 132 (.iaddr 10 (.t 130) (.t 131)),
 oo 133 (.faddr 0 (.t 132)),
 oo 134 (.load none (.t 133)),
 oo 135 (.bin .str .neq (.t 128) (.t 134))])
 (.cond (.t 135)
 (.seq
 (.reg [oo 4 (.move (.c (.bool false)))])
 .ret)
 .skip))))
 (.reg [oo 136 (.bin .int .add (.t 122) (.c (.int .i64 1))),
 mv 122 136])))))))
 (.seq
 (.reg [oo 4 (.move (.c (.bool true)))])
 .ret))))))
theorem in36 {args : List AV} {σ : Store} {K : AV → Store → Prop} (hargs : args.length ≤ 137 := by simp) (h : AWP Tryz.prog Tryz.f36.ntmps c36 (fun e t s => match e with | .exit _ => False | _ => Res [.slot 4] K t s) (env (argList 0 args)) σ) : ACalls Tryz.prog 36 args σ K :=
 enter (own := []) Tryz.func36 (by kernel_rfl) (by kernel_rfl) (by kernel_rfl) hargs h
def c37 : ACode :=
(.seq
 (.reg [oo 2 (.new 36 (.t 0)),
 oo 3 (.move (.c (.bool false)))])
 (.seq
 (.reg [oo 4 (.load (some 9) (.t 1)),
 oo 5 (.faddr 1 (.t 2)),
 oo 6 (.load (some 9) (.t 5)),
 oo 7 (.call 36 [(.t 4), (.t 6)]),
 oo 8 (.not (.t 7)),
 mv 3 8])
 .ret))
theorem in37 {args : List AV} {σ : Store} {K : AV → Store → Prop} (hargs : args.length ≤ 9 := by simp) (h : AWP Tryz.prog Tryz.f37.ntmps c37 (fun e t s => match e with | .exit _ => False | _ => Res [.slot 3] K t s) (env (argList 0 args)) σ) : ACalls Tryz.prog 37 args σ K :=
 enter (own := []) Tryz.func37 (by kernel_rfl) (by kernel_rfl) (by kernel_rfl) hargs h
def c38 : ACode :=
(.seq
 (.reg [oo 4 (.move (.c .nils))])
 (.seq
 (.reg [oo 5 (.move (.c .nils))])
 (.seq
 (.seq
 (.reg [mv 8 0,
 oo 9 (.len .slice (.t 8)),
 oo 10 (.move (.c (.int .i64 0)))])
 (.block 0
 (.loop
 (.seq
 (.reg [oo 11 (.bin .int .lss (.t 10) (.t 9))])
 (.seq
 (.cond (.t 11)
 .skip
 (.exit 0))
 (.seq
 (.block 1
 (.seq
 (.reg [oo 12 (.iaddr 10 (.t 8) (.t 10)),
 oo 13 (.load (some 10) (.t 12)),
 oo 7 (.new 36 (.c (.agg [(.int .i64 0), (.int .i64 0), (.str ⟨#[]⟩), (.int .i64 0), (.int .i64 0), .nils, .nils, .nils, .nils, .nils]))),
 ⟨none, .store 10 (.t 7) (.t 13), none⟩])
 (.draw [] [([⟨(some 14), .move (.t 5), none⟩], []),
 ([⟨(some 15), .faddr 0 (.t 7), none⟩], []),
 ([⟨(some 16), .load none (.t 15), none⟩], []),
 ([⟨(some 17), .move (.t 1), none⟩], []),
 ([⟨(some 18), .faddr 1 (.t 7), none⟩], []),
 ([⟨(some 19), .load (some 9) (.t 18), none⟩], []),
 ([⟨(some 20), .callv (.t 17) [(.t 19)], none⟩], [⟨(some 15), .faddr 0 (.t 7), none⟩, ⟨(some 16), .load none (.t 15), none⟩]),
 ([⟨(some 21), .build [(.int .i64 0), (.int .i64 0), (.str ⟨#[]⟩), (.int .i64 0), (.int .i64 0), .nils, .nils, .nils, .nils, .nils] [(0, 1, (.t 16)), (1, 9, (.t 20))], none⟩], []),
 ([⟨(some 22), .lit false 36 10 [(.t 21)], none⟩], []),
 ([⟨(some 23), .append 36 10 168 (.t 14) (.t 22), none⟩], []),
 ([⟨(some 5), .move (.t 23), none⟩], [])])))
 (.reg [oo 24 (.bin .int .add (.t 10) (.c (.int .i64 1))),
 mv 10 24])))))))
 (.seq
 (.reg [mv 25 5,
 mv 4 25])
 .ret))))
theorem in38 {args : List AV} {σ : Store} {K : AV → Store → Prop} (hargs : args.length ≤ 26 := by simp) (h : AWP Tryz.prog Tryz.f38.ntmps c38 (fun e t s => match e with | .exit _ => False | _ => Res [.slot 4] K t s) (env (argList 0 args)) σ) : ACalls Tryz.prog 38 args σ K :=
 enter (own := []) Tryz.func38 (by kernel_rfl) (by kernel_rfl) (by kernel_rfl) hargs h
def c39 : ACode :=
(.seq
 (.reg [oo 2 (.new 28 (.t 0)),
 oo 3 (.new 28 (.c (.agg [(.int .i64 0), (.str ⟨#[]⟩), (.int .i64 0), (.int .i64 0), .nils, .nils, .nils, .nils, .nils])))])
 (.seq
 (.reg [oo 4 (.faddr 5 (.t 2)),
 oo 5 (.load none (.t 4)),
 oo 6 (.load none (.t 1)),
 oo 7 (.iaddr 9 (.t 5) (.t 6)),
 oo 8 (.load (some 9) (.t 7)),
 ⟨none, .store 9 (.t 3) (.t 8), none⟩])
 .ret))
theorem in39 {args : List AV} {σ : Store} {K : AV → Store → Prop} (hargs : args.length ≤ 9 := by simp) (h : AWP Tryz.prog Tryz.f39.ntmps c39 (fun e t s => match e with | .exit _ => False | _ => Res [.cell 3 (some 9)] K t s) (env (argList 0 args)) σ) : ACalls Tryz.prog 39 args σ K :=
 enter (own := []) Tryz.func39 (by kernel_rfl) (by kernel_rfl) (by kernel_rfl) hargs h
def c40 : ACode :=
(.seq
 (.reg [oo 2 (.new 28 (.t 0)),
 oo 3 (.new 28 (.c (.agg [(.int .i64 0), (.str ⟨#[]⟩), (.int .i64 0), (.int .i64 0), .nils, .nils, .nils, .nils, .nils])))])
 (.seq
 (.reg [oo 4 (.faddr 6 (.t 2)),
 oo 5 (.load none (.t 4)),
 oo 6 (.load none (.t 1)),
 oo 7 (.iaddr 13 (.t 5) (.t 6)),
 oo 8 (.faddr 4 (.t 7)),
 oo 9 (.load (some 9) (.t 8)),
 ⟨none, .store 9 (.t 3) (.t 9), none⟩])
 .ret))
theorem in40 {args : List AV} {σ : Store} {K : AV → Store → Prop} (hargs : args.length ≤ 10 := by simp) (h : AWP Tryz.prog Tryz.f40.ntmps c40 (fun e t s => match e with | .exit _ => False | _ => Res [.cell 3 (some 9)] K t s) (env (argList 0 args)) σ) : ACalls Tryz.prog 40 args σ K :=
 enter (own := []) Tryz.func40 (by kernel_rfl) (by kernel_rfl) (by kernel_rfl) hargs h
def c41 : ACode :=
(.seq
 (.reg [oo 2 (.new 28 (.t 0)),
 oo 3 (.new 28 (.c (.agg [(.int .i64 0), (.str ⟨#[]⟩), (.int .i64 0), (.int .i64 0), .nils, .nils, .nils, .nils, .nils])))])
 (.seq
 (.reg [oo 4 (.faddr 7 (.t 2)),
 oo 5 (.load none (.t 4)),
 oo 6 (.load none (.t 1)),
 oo 7 (.iaddr 10 (.t 5) (.t 6)),
 oo 8 (.faddr 1 (.t 7)),
 oo 9 (.load (some 9) (.t 8)),
 ⟨none, .store 9 (.t 3) (.t 9), none⟩])
 .ret))
theorem in41 {args : List AV} {σ : Store} {K : AV → Store → Prop} (hargs : args.length ≤ 10 := by simp) (h : AWP Tryz.prog Tryz.f41.ntmps c41 (fun e t s => match e with | .exit _ => False | _ => Res [.cell 3 (some 9)] K t s) (env (argList 0 args)) σ) : ACalls Tryz.prog 41 args σ K :=
 enter (own := []) Tryz.func41 (by kernel_rfl) (by kernel_rfl) (by kernel_rfl) hargs h
def c56 : ACode :=
(.seq
 (.reg [oo 4 (.move (.c (.bool false)))])
 (.seq
 (.seq
 (.reg [mv 6 0,
 oo 7 (.len .slice (.t 6)),
 mv 8 1,
 oo 9 (.len .slice (.t 8)),
 oo 10 (.bin .int .neq (.t 7) (.t 9))])
 (.cond (.t 10)
 (.seq
 (.reg [oo 4 (.move (.c (.bool false)))])
 .ret)
 .skip))
 (.seq
 (.seq
 (.reg [mv 11 0,
 oo 12 (.len .slice (.t 11)),
 oo 13 (.move (.c (.int .i64 0)))])
 (.block 0
 (.loop
 (.seq
 (.reg [oo 14 (.bin .int .lss (.t 13) (.t 12))])
 (.seq
 (.cond (.t 14)
 .skip
 (.exit 0))
 (.seq
 (.block 1
 (.seq
 (.reg [mv 15 13,
 mv 5 15])
 (.seq
 (.reg [mv 16 0,
 mv 17 5,
 oo 18 (.iaddr 1 (.t 16) (.t 17)),
 oo 19 (.load none (.t 18)),
 mv 20 1,
 mv 21 5,
 oo 22 (.iaddr 1 (.t 20) (.t 21)),
 oo 23 (.load none (.t 22)),
 oo 24 (.bin .str .neq (.t 19) (.t 23))])
 (.cond (.t 24)
 (.seq
 (.reg [oo 4 (.move (.c (.bool false)))])
 .ret)
 .skip))))
 (.reg [oo 25 (.bin .int .add (.t 13) (.c (.int .i64 1))),
 mv 13 25])))))))
 (.seq
 (.reg [oo 4 (.move (.c (.bool true)))])
 .ret))))
theorem in56 {args : List AV} {σ : Store} {K : AV → Store → Prop} (hargs : args.length ≤ 26 := by simp) (h : AWP Tryz.prog Tryz.f56.ntmps c56 (fun e t s => match e with | .exit _ => False | _ => Res [.slot 4] K t s) (env (argList 0 args)) σ) : ACalls Tryz.prog 56 args σ K :=
 enter (own := []) Tryz.func56 (by kernel_rfl) (by kernel_rfl) (by kernel_rfl) hargs h
end Go.Proofs.YtgjcnkcepdoedaaGreat
set_option linter.unusedVariables false
set_option linter.unusedSimpArgs false
namespace Go.AL
structure AltH where
 k : Int
 nm : ByteArray
 n : Int
 ps : List ByteArray
inductive Cr where
 | mk (k : Int) (nm : ByteArray) (n ar : Int) (ps : List ByteArray) (gs : List Cr) (al : List (AltH × Cr)) (bs : List (ByteArray × Cr)) (pk : List (Int × Cr))
abbrev strs (l : List ByteArray) : AV := .list (l.map fun s => [.str s])
def AltH.cells (h : AltH) : List AV := [.int .i64 h.k, .str h.nm, .int .i64 h.n, strs h.ps]
mutual
def Cr.cells : Cr → List AV
 | .mk k nm n ar ps gs al bs pk => [.int .i64 k, .str nm, .int .i64 n, .int .i64 ar, strs ps, .list (Cr.cellsL gs), .list (Cr.cellsA al), .list (Cr.cellsB bs), .list (Cr.cellsP pk)]
def Cr.cellsL : List Cr → List (List AV)
 | [] => []
 | x :: r => Cr.cells x :: Cr.cellsL r
def Cr.cellsA : List (AltH × Cr) → List (List AV)
 | [] => []
 | (h, x) :: r => (h.cells ++ Cr.cells x) :: Cr.cellsA r
def Cr.cellsB : List (ByteArray × Cr) → List (List AV)
 | [] => []
 | (s, x) :: r => (.str s :: Cr.cells x) :: Cr.cellsB r
def Cr.cellsP : List (Int × Cr) → List (List AV)
 | [] => []
 | (s, x) :: r => (.int .i64 s :: Cr.cells x) :: Cr.cellsP r
end
def altC (p : AltH × Cr) : List AV := p.1.cells ++ p.2.cells
def bindC (p : ByteArray × Cr) : List AV := .str p.1 :: p.2.cells
def pickC (p : Int × Cr) : List AV := .int .i64 p.1 :: p.2.cells
theorem Cr.cellsL_map : ∀ l : List Cr, Cr.cellsL l = l.map Cr.cells
 | [] => by rw [Cr.cellsL]; rfl
 | x :: r => by rw [Cr.cellsL, Cr.cellsL_map r]; rfl
theorem Cr.cellsA_map : ∀ l : List (AltH × Cr), Cr.cellsA l = l.map altC
 | [] => by rw [Cr.cellsA]; rfl
 | (h, x) :: r => by rw [Cr.cellsA, Cr.cellsA_map r]; rfl
theorem Cr.cellsB_map : ∀ l : List (ByteArray × Cr), Cr.cellsB l = l.map bindC
 | [] => by rw [Cr.cellsB]; rfl
 | (h, x) :: r => by rw [Cr.cellsB, Cr.cellsB_map r]; rfl
theorem Cr.cellsP_map : ∀ l : List (Int × Cr), Cr.cellsP l = l.map pickC
 | [] => by rw [Cr.cellsP]; rfl
 | (h, x) :: r => by rw [Cr.cellsP, Cr.cellsP_map r]; rfl
theorem Cr.cells_eq (k : Int) (nm : ByteArray) (n ar : Int) (ps : List ByteArray) (gs : List Cr) (al : List (AltH × Cr)) (bs : List (ByteArray × Cr)) (pk : List (Int × Cr)) :
 (Cr.mk k nm n ar ps gs al bs pk).cells = [.int .i64 k, .str nm, .int .i64 n, .int .i64 ar, strs ps, .list (gs.map Cr.cells), .list (al.map altC), .list (bs.map bindC), .list (pk.map pickC)] := by
 rw [Cr.cells, Cr.cellsL_map, Cr.cellsA_map, Cr.cellsB_map, Cr.cellsP_map]
theorem Cr.len (x : Cr) : x.cells.length = 9 := by cases x; rw [Cr.cells_eq]; rfl
theorem pickC_len (x : Int × Cr) : (pickC x).length = 10 := by simp [pickC, Cr.len]
theorem Cr.ind {p : Cr → Prop} (h : ∀ k nm n ar ps gs al bs pk, (∀ x, x ∈ gs → p x) → (∀ x, x ∈ al → p x.2) → (∀ x, x ∈ bs → p x.2) → (∀ x, x ∈ pk → p x.2) → p (.mk k nm n ar ps gs al bs pk)) : ∀ x, p x
 | .mk k nm n ar ps gs al bs pk => h k nm n ar ps gs al bs pk (fun x hx => Cr.ind h x) (fun x hx => Cr.ind h x.2) (fun x hx => Cr.ind h x.2) (fun x hx => Cr.ind h x.2)
termination_by x => SizeOf.sizeOf x
decreasing_by
 · have := List.sizeOf_lt_of_mem hx; simp; omega
 · have := List.sizeOf_lt_of_mem hx; obtain ⟨a, b⟩ := x; simp at this ⊢; omega
 · have := List.sizeOf_lt_of_mem hx; obtain ⟨a, b⟩ := x; simp at this ⊢; omega
 · have := List.sizeOf_lt_of_mem hx; obtain ⟨a, b⟩ := x; simp at this ⊢; omega
theorem cln_strs {n : Nat} (l : List ByteArray) : Cln n (strs l) := .list' fun e he c hc => by
 simp at he
 obtain ⟨y, hy, rfl⟩ := he
 simp at hc
 subst hc
 exact .str _
theorem Cr.cln {n : Nat} (x : Cr) : ∀ c, c ∈ x.cells → Cln n c := by
 induction x using Cr.ind with
 | _ k nm m ar ps gs al bs pk h1 h2 h3 h4 =>
  intro c hc
  rw [Cr.cells_eq] at hc
  simp at hc
  rcases hc with rfl | rfl | rfl | rfl | rfl | rfl | rfl | rfl | rfl
  · exact .int _ _
  · exact .str _
  · exact .int _ _
  · exact .int _ _
  · exact cln_strs ps
  · refine .list' fun e he c hc => ?_
    simp at he
    obtain ⟨y, hy, rfl⟩ := he
    exact h1 y hy c hc
  · refine .list' fun e he c hc => ?_
    simp at he
    obtain ⟨a, b, hy, rfl⟩ := he
    simp [altC, AltH.cells] at hc
    rcases hc with rfl | rfl | rfl | rfl | hc
    · exact .int _ _
    · exact .str _
    · exact .int _ _
    · exact cln_strs _
    · exact h2 _ hy c hc
  · refine .list' fun e he c hc => ?_
    simp at he
    obtain ⟨a, b, hy, rfl⟩ := he
    simp [bindC] at hc
    rcases hc with rfl | hc
    · exact .str _
    · exact h3 _ hy c hc
  · refine .list' fun e he c hc => ?_
    simp at he
    obtain ⟨a, b, hy, rfl⟩ := he
    simp [pickC] at hc
    rcases hc with rfl | hc
    · exact .int _ _
    · exact h4 _ hy c hc
end Go.AL
set_option linter.unusedVariables false
set_option linter.unusedSimpArgs false
namespace Go.AL
theorem Cr.take9 (x : Cr) : List.take 9 x.cells = x.cells := List.take_of_length_le (by rw [x.len]; omega)
theorem Cr.drop9 (x : Cr) : List.drop 9 x.cells = [] := List.drop_of_length_le (by rw [x.len]; omega)
theorem noId_strs (l : List ByteArray) : NoId (strs l) := .list (by
 induction l with
 | nil => exact .nil
 | cons a l ih => exact .cons (.cons (.str _) .nil) ih)
theorem NoIdL.append : ∀ {a b : List AV}, NoIdL a → NoIdL b → NoIdL (a ++ b)
 | _, _, .nil, h => h
 | _, _, .cons h t, k => .cons h (t.append k)
theorem NoIdLL.of : ∀ {l : List (List AV)}, (∀ e, e ∈ l → NoIdL e) → NoIdLL l
 | [], _ => .nil
 | a :: l, h => .cons (h a (by simp)) (NoIdLL.of fun e he => h e (by simp [he]))
theorem Cr.noId (x : Cr) : NoIdL x.cells := by
 induction x using Cr.ind with
 | _ k nm n ar ps gs al bs pk h1 h2 h3 h4 =>
  rw [Cr.cells_eq]
  refine .cons (.int _ _) (.cons (.str _) (.cons (.int _ _) (.cons (.int _ _) (.cons (noId_strs _) (.cons (.list (.of fun e he => ?_)) (.cons (.list (.of fun e he => ?_)) (.cons (.list (.of fun e he => ?_)) (.cons (.list (.of fun e he => ?_)) .nil))))))))
  · obtain ⟨y, hy, rfl⟩ := List.mem_map.1 he; exact h1 y hy
  · obtain ⟨y, hy, rfl⟩ := List.mem_map.1 he
    exact NoIdL.append (.cons (.int _ _) (.cons (.str _) (.cons (.int _ _) (.cons (noId_strs _) .nil)))) (h2 y hy)
  · obtain ⟨y, hy, rfl⟩ := List.mem_map.1 he; exact .cons (.str _) (h3 y hy)
  · obtain ⟨y, hy, rfl⟩ := List.mem_map.1 he; exact .cons (.int _ _) (h4 y hy)
mutual
def Cr.plain : Cr → Bool
 | .mk k nm n ar ps gs al bs pk => !(k == 11) && (plainL gs && (plainA al && (plainB bs && plainP pk)))
def plainL : List Cr → Bool
 | [] => true
 | x :: r => x.plain && plainL r
def plainA : List (AltH × Cr) → Bool
 | [] => true
 | (_, x) :: r => x.plain && plainA r
def plainB : List (ByteArray × Cr) → Bool
 | [] => true
 | (_, x) :: r => x.plain && plainB r
def plainP : List (Int × Cr) → Bool
 | [] => true
 | (_, x) :: r => x.plain && plainP r
end
theorem plainL_iff : ∀ l : List Cr, plainL l = true ↔ ∀ x, x ∈ l → x.plain = true
 | [] => by simp [plainL]
 | x :: r => by simp [plainL, plainL_iff r]
theorem plainA_iff : ∀ l : List (AltH × Cr), plainA l = true ↔ ∀ x, x ∈ l → x.2.plain = true
 | [] => by simp [plainA]
 | (a, x) :: r => by simp [plainA, plainA_iff r]
theorem plainB_iff : ∀ l : List (ByteArray × Cr), plainB l = true ↔ ∀ x, x ∈ l → x.2.plain = true
 | [] => by simp [plainB]
 | (a, x) :: r => by simp [plainB, plainB_iff r]
theorem plainP_iff : ∀ l : List (Int × Cr), plainP l = true ↔ ∀ x, x ∈ l → x.2.plain = true
 | [] => by simp [plainP]
 | (a, x) :: r => by simp [plainP, plainP_iff r]
theorem lt_ne2 {a b : Nat} (h : a < b) : (a = b + 1) = False := by simp; omega
theorem take_all {α : Type} {p : α → Prop} {l : List α} {i : Nat} {x : α} (hx : l[i]? = some x) (h : ∀ y, y ∈ l.take i → p y) (hp : p x) : ∀ y, y ∈ l.take (i + 1) → p y := by
 intro y hy
 rw [List.take_add_one, hx] at hy
 simp at hy
 rcases hy with hy | rfl
 · exact h y hy
 · exact hp
end Go.AL
namespace Go.Proofs.YtgjcnkcepdoedaaGreat
open Go.AL
set_option maxHeartbeats 1000000 in
theorem plain_ok : ∀ (x : Cr) (σ : Store), ACalls Tryz.prog 18 [.agg x.cells] σ fun r σ' => r = .bool x.plain ∧ σ' = σ := by
 intro x
 induction x using Cr.ind with
 | _ k nm n ar ps gs al bs pk ih1 ih2 ih3 ih4 =>
  intro σ
  refine calls_a (.cons (.agg (Cr.noId _)) .nil) (ACalls.mono (K := fun r _ => r = .bool (Cr.mk k nm n ar ps gs al bs pk).plain) ?_ fun r s h => by rw [h]; exact .bool _ _) σ
  rw [Cr.cells_eq]
  refine ACalls_len2 (j := 0) (k := 5) rfl rfl fun hm1 => ?_
  refine ACalls_len2 (j := 0) (k := 6) rfl rfl fun hm2 => ?_
  refine ACalls_len2 (j := 0) (k := 7) rfl rfl fun hm3 => ?_
  refine ACalls_len2 (j := 0) (k := 8) rfl rfl fun hm4 => ?_
  simp only [List.length_map, maxLen] at hm1 hm2 hm3 hm4
  refine in18 (by simp) ?_
  unfold c18
  generalize Store.empty = z
  generalize ho : AObj.cells 28 0 9 [[.int .i64 k, .str nm, .int .i64 n, .int .i64 ar, strs ps, .list (gs.map Cr.cells), .list (al.map altC), .list (bs.map bindC), .list (pk.map pickC)]] = o0
  by_cases hk : k = 11
  · subst hk
    refine raw ?_
    repeat (first | (with_reducible refine unr ?_; try simp only [YY, ↓reduceIte, Za, Zb, Zc, reduceCtorEq, Zd, Ze, Zf, Zg, Zh, Zi, Zj]) | (with_reducible refine WW (by decide) ?_))
    simp [Cr.plain]
  refine raw ?_
  repeat (first | (with_reducible refine unr ?_; try simp only [YY, ↓reduceIte, Za, Zb, Zc, reduceCtorEq, Zd, Ze, Zf, Zg, Zh, Zi, Zj, hk]) | (with_reducible refine WW (by decide) ?_))
  generalize hs1 : Store.push _ _ = s1
  have he : s1.get z.next = some o0 := by rw [← hs1, ← ho]; simp [Store.push_get]
  clear hs1
  subst ho
  refine AWP_while [1, 15, 16, 17] (fun i : Nat => gs.length - i) (fun i => [.ptr z.next 0 0 0, .list (gs.map Cr.cells), .int .i64 gs.length, .int .i64 i]) (fun i t => t.get z.next = some (.cells 28 0 9 [[.int .i64 k, .str nm, .int .i64 n, .int .i64 ar, strs ps, .list (gs.map Cr.cells), .list (al.map altC), .list (bs.map bindC), .list (pk.map pickC)]]) ∧ i ≤ gs.length ∧ ∀ y, y ∈ gs.take i → y.plain = true) 0 ⟨he, by simp, by simp⟩ ?_ ?_
  · refine raw ?_
    repeat (first | (with_reducible refine unr ?_; try simp only [YY, ↓reduceIte, Za, Zb, Zc, reduceCtorEq, Zd, Ze, Zf, Zg, Zh, Zi, Zj]) | (with_reducible refine WW (by decide) ?_))
    rfl
  rintro i t ⟨he, hi, hall⟩
  have hq := lt_ne (t.lt he)
  by_cases hil : i < gs.length
  · have hil' : (i : Int) < (gs.length : Int) := by omega
    have hw := wrap_succ (i := i) (by omega)
    obtain ⟨x, hx⟩ : ∃ x, gs[i]? = some x := ⟨_, List.getElem?_eq_getElem hil⟩
    have hg : (gs.map Cr.cells)[i]? = some (Cr.cells x) := by simp [hx]
    have hxm := List.mem_of_getElem? hx
    cases hp : x.plain with
    | true =>
     refine raw ?_
     repeat (first | (with_reducible refine unr ?_; try simp only [YY, ↓reduceIte, Za, Zb, Zc, reduceCtorEq, Zd, Ze, Zf, Zg, Zh, Zi, Zj, he, hil', hg, Cr.len, Cr.take9, Cr.drop9, hq, Cr.len]) | (with_reducible refine WW (by decide) ?_))
     refine (ih1 x hxm _).mono ?_
     rintro r s ⟨rfl, rfl⟩
     rw [hp]
     refine raw ?_
     repeat (first | (with_reducible refine unr ?_; try simp only [YY, ↓reduceIte, Za, Zb, Zc, reduceCtorEq, Zd, Ze, Zf, Zg, Zh, Zi, Zj, he, hil', hg, Cr.len, Cr.take9, Cr.drop9, hq, hw, Cr.len]) | (with_reducible refine WW (by decide) ?_))
     exact ⟨i + 1, rfl, ⟨by omega, take_all hx hall hp⟩, by omega⟩
    | false =>
     refine raw ?_
     repeat (first | (with_reducible refine unr ?_; try simp only [YY, ↓reduceIte, Za, Zb, Zc, reduceCtorEq, Zd, Ze, Zf, Zg, Zh, Zi, Zj, he, hil', hg, Cr.len, Cr.take9, Cr.drop9, hq, Cr.len]) | (with_reducible refine WW (by decide) ?_))
     refine (ih1 x hxm _).mono ?_
     rintro r s ⟨rfl, rfl⟩
     rw [hp]
     refine raw ?_
     repeat (first | (with_reducible refine unr ?_; try simp only [YY, ↓reduceIte, Za, Zb, Zc, reduceCtorEq, Zd, Ze, Zf, Zg, Zh, Zi, Zj, he, hil', hg, Cr.len, Cr.take9, Cr.drop9, hq, hw, Cr.len]) | (with_reducible refine WW (by decide) ?_))
     refine congrArg AV.bool (Bool.eq_false_iff.2 fun hc => ?_).symm
     simp only [Cr.plain, Bool.and_eq_true, plainL_iff, plainA_iff, plainB_iff, plainP_iff] at hc
     have := hc.2.1 x hxm
     rw [hp] at this
     cases this
  have hall1 : plainL gs = true := (plainL_iff gs).2 (by rwa [List.take_of_length_le (by omega)] at hall)
  have hil' : ¬ (i : Int) < (gs.length : Int) := by omega
  refine raw ?_
  repeat (first | (with_reducible refine unr ?_; try simp only [YY, ↓reduceIte, Za, Zb, Zc, reduceCtorEq, Zd, Ze, Zf, Zg, Zh, Zi, Zj, he, hil']) | (with_reducible refine WW (by decide) ?_))
  clear hall hil hil' hi
  refine AWP_while [1, 26, 27, 28] (fun i : Nat => al.length - i) (fun i => [.ptr z.next 0 0 0, .list (al.map altC), .int .i64 al.length, .int .i64 i]) (fun i t => t.get z.next = some (.cells 28 0 9 [[.int .i64 k, .str nm, .int .i64 n, .int .i64 ar, strs ps, .list (gs.map Cr.cells), .list (al.map altC), .list (bs.map bindC), .list (pk.map pickC)]]) ∧ i ≤ al.length ∧ ∀ y, y ∈ al.take i → y.2.plain = true) 0 ⟨he, by simp, by simp⟩ ?_ ?_
  · refine raw ?_
    repeat (first | (with_reducible refine unr ?_; try simp only [YY, ↓reduceIte, Za, Zb, Zc, reduceCtorEq, Zd, Ze, Zf, Zg, Zh, Zi, Zj]) | (with_reducible refine WW (by decide) ?_))
    rfl
  rintro i t ⟨he, hi, hall⟩
  have hq := lt_ne (t.lt he)
  by_cases hil : i < al.length
  · have hil' : (i : Int) < (al.length : Int) := by omega
    have hw := wrap_succ (i := i) (by omega)
    obtain ⟨x, hx⟩ : ∃ x, al[i]? = some x := ⟨_, List.getElem?_eq_getElem hil⟩
    have hg : (al.map altC)[i]? = some (altC x) := by simp [hx]
    have hxm := List.mem_of_getElem? hx
    cases hp : x.2.plain with
    | true =>
     refine raw ?_
     repeat (first | (with_reducible refine unr ?_; try simp only [YY, ↓reduceIte, Za, Zb, Zc, reduceCtorEq, Zd, Ze, Zf, Zg, Zh, Zi, Zj, he, hil', hg, Cr.len, Cr.take9, Cr.drop9, hq, altC, AltH.cells]) | (with_reducible refine WW (by decide) ?_))
     refine (ih2 x hxm _).mono ?_
     rintro r s ⟨rfl, rfl⟩
     rw [hp]
     refine raw ?_
     repeat (first | (with_reducible refine unr ?_; try simp only [YY, ↓reduceIte, Za, Zb, Zc, reduceCtorEq, Zd, Ze, Zf, Zg, Zh, Zi, Zj, he, hil', hg, Cr.len, Cr.take9, Cr.drop9, hq, hw, altC, AltH.cells]) | (with_reducible refine WW (by decide) ?_))
     exact ⟨i + 1, rfl, ⟨by omega, take_all hx hall hp⟩, by omega⟩
    | false =>
     refine raw ?_
     repeat (first | (with_reducible refine unr ?_; try simp only [YY, ↓reduceIte, Za, Zb, Zc, reduceCtorEq, Zd, Ze, Zf, Zg, Zh, Zi, Zj, he, hil', hg, Cr.len, Cr.take9, Cr.drop9, hq, altC, AltH.cells]) | (with_reducible refine WW (by decide) ?_))
     refine (ih2 x hxm _).mono ?_
     rintro r s ⟨rfl, rfl⟩
     rw [hp]
     refine raw ?_
     repeat (first | (with_reducible refine unr ?_; try simp only [YY, ↓reduceIte, Za, Zb, Zc, reduceCtorEq, Zd, Ze, Zf, Zg, Zh, Zi, Zj, he, hil', hg, Cr.len, Cr.take9, Cr.drop9, hq, hw, altC, AltH.cells]) | (with_reducible refine WW (by decide) ?_))
     refine congrArg AV.bool (Bool.eq_false_iff.2 fun hc => ?_).symm
     simp only [Cr.plain, Bool.and_eq_true, plainL_iff, plainA_iff, plainB_iff, plainP_iff] at hc
     have := hc.2.2.1 x hxm
     rw [hp] at this
     cases this
  have hall2 : plainA al = true := (plainA_iff al).2 (by rwa [List.take_of_length_le (by omega)] at hall)
  have hil' : ¬ (i : Int) < (al.length : Int) := by omega
  refine raw ?_
  repeat (first | (with_reducible refine unr ?_; try simp only [YY, ↓reduceIte, Za, Zb, Zc, reduceCtorEq, Zd, Ze, Zf, Zg, Zh, Zi, Zj, he, hil']) | (with_reducible refine WW (by decide) ?_))
  clear hall hil hil' hi
  refine AWP_while [1, 38, 39, 40] (fun i : Nat => bs.length - i) (fun i => [.ptr z.next 0 0 0, .list (bs.map bindC), .int .i64 bs.length, .int .i64 i]) (fun i t => t.get z.next = some (.cells 28 0 9 [[.int .i64 k, .str nm, .int .i64 n, .int .i64 ar, strs ps, .list (gs.map Cr.cells), .list (al.map altC), .list (bs.map bindC), .list (pk.map pickC)]]) ∧ i ≤ bs.length ∧ ∀ y, y ∈ bs.take i → y.2.plain = true) 0 ⟨he, by simp, by simp⟩ ?_ ?_
  · refine raw ?_
    repeat (first | (with_reducible refine unr ?_; try simp only [YY, ↓reduceIte, Za, Zb, Zc, reduceCtorEq, Zd, Ze, Zf, Zg, Zh, Zi, Zj]) | (with_reducible refine WW (by decide) ?_))
    rfl
  rintro i t ⟨he, hi, hall⟩
  have hq := lt_ne (t.lt he)
  by_cases hil : i < bs.length
  · have hil' : (i : Int) < (bs.length : Int) := by omega
    have hw := wrap_succ (i := i) (by omega)
    obtain ⟨x, hx⟩ : ∃ x, bs[i]? = some x := ⟨_, List.getElem?_eq_getElem hil⟩
    have hg : (bs.map bindC)[i]? = some (bindC x) := by simp [hx]
    have hxm := List.mem_of_getElem? hx
    cases hp : x.2.plain with
    | true =>
     refine raw ?_
     repeat (first | (with_reducible refine unr ?_; try simp only [YY, ↓reduceIte, Za, Zb, Zc, reduceCtorEq, Zd, Ze, Zf, Zg, Zh, Zi, Zj, he, hil', hg, Cr.len, Cr.take9, Cr.drop9, hq, bindC]) | (with_reducible refine WW (by decide) ?_))
     refine (ih3 x hxm _).mono ?_
     rintro r s ⟨rfl, rfl⟩
     rw [hp]
     refine raw ?_
     repeat (first | (with_reducible refine unr ?_; try simp only [YY, ↓reduceIte, Za, Zb, Zc, reduceCtorEq, Zd, Ze, Zf, Zg, Zh, Zi, Zj, he, hil', hg, Cr.len, Cr.take9, Cr.drop9, hq, hw, bindC]) | (with_reducible refine WW (by decide) ?_))
     exact ⟨i + 1, rfl, ⟨by omega, take_all hx hall hp⟩, by omega⟩
    | false =>
     refine raw ?_
     repeat (first | (with_reducible refine unr ?_; try simp only [YY, ↓reduceIte, Za, Zb, Zc, reduceCtorEq, Zd, Ze, Zf, Zg, Zh, Zi, Zj, he, hil', hg, Cr.len, Cr.take9, Cr.drop9, hq, bindC]) | (with_reducible refine WW (by decide) ?_))
     refine (ih3 x hxm _).mono ?_
     rintro r s ⟨rfl, rfl⟩
     rw [hp]
     refine raw ?_
     repeat (first | (with_reducible refine unr ?_; try simp only [YY, ↓reduceIte, Za, Zb, Zc, reduceCtorEq, Zd, Ze, Zf, Zg, Zh, Zi, Zj, he, hil', hg, Cr.len, Cr.take9, Cr.drop9, hq, hw, bindC]) | (with_reducible refine WW (by decide) ?_))
     refine congrArg AV.bool (Bool.eq_false_iff.2 fun hc => ?_).symm
     simp only [Cr.plain, Bool.and_eq_true, plainL_iff, plainA_iff, plainB_iff, plainP_iff] at hc
     have := hc.2.2.2.1 x hxm
     rw [hp] at this
     cases this
  have hall3 : plainB bs = true := (plainB_iff bs).2 (by rwa [List.take_of_length_le (by omega)] at hall)
  have hil' : ¬ (i : Int) < (bs.length : Int) := by omega
  refine raw ?_
  repeat (first | (with_reducible refine unr ?_; try simp only [YY, ↓reduceIte, Za, Zb, Zc, reduceCtorEq, Zd, Ze, Zf, Zg, Zh, Zi, Zj, he, hil']) | (with_reducible refine WW (by decide) ?_))
  clear hall hil hil' hi
  refine AWP_while [1, 50, 51, 52] (fun i : Nat => pk.length - i) (fun i => [.ptr z.next 0 0 0, .list (pk.map pickC), .int .i64 pk.length, .int .i64 i]) (fun i t => t.get z.next = some (.cells 28 0 9 [[.int .i64 k, .str nm, .int .i64 n, .int .i64 ar, strs ps, .list (gs.map Cr.cells), .list (al.map altC), .list (bs.map bindC), .list (pk.map pickC)]]) ∧ i ≤ pk.length ∧ ∀ y, y ∈ pk.take i → y.2.plain = true) 0 ⟨he, by simp, by simp⟩ ?_ ?_
  · refine raw ?_
    repeat (first | (with_reducible refine unr ?_; try simp only [YY, ↓reduceIte, Za, Zb, Zc, reduceCtorEq, Zd, Ze, Zf, Zg, Zh, Zi, Zj]) | (with_reducible refine WW (by decide) ?_))
    rfl
  rintro i t ⟨he, hi, hall⟩
  have hq := lt_ne (t.lt he)
  by_cases hil : i < pk.length
  · have hil' : (i : Int) < (pk.length : Int) := by omega
    have hw := wrap_succ (i := i) (by omega)
    obtain ⟨x, hx⟩ : ∃ x, pk[i]? = some x := ⟨_, List.getElem?_eq_getElem hil⟩
    have hg : (pk.map pickC)[i]? = some (pickC x) := by simp [hx]
    have hxm := List.mem_of_getElem? hx
    cases hp : x.2.plain with
    | true =>
     refine raw ?_
     repeat (first | (with_reducible refine unr ?_; try simp only [YY, ↓reduceIte, Za, Zb, Zc, reduceCtorEq, Zd, Ze, Zf, Zg, Zh, Zi, Zj, he, hil', hg, Cr.len, Cr.take9, Cr.drop9, hq, pickC]) | (with_reducible refine WW (by decide) ?_))
     refine (ih4 x hxm _).mono ?_
     rintro r s ⟨rfl, rfl⟩
     rw [hp]
     refine raw ?_
     repeat (first | (with_reducible refine unr ?_; try simp only [YY, ↓reduceIte, Za, Zb, Zc, reduceCtorEq, Zd, Ze, Zf, Zg, Zh, Zi, Zj, he, hil', hg, Cr.len, Cr.take9, Cr.drop9, hq, hw, pickC]) | (with_reducible refine WW (by decide) ?_))
     exact ⟨i + 1, rfl, ⟨by omega, take_all hx hall hp⟩, by omega⟩
    | false =>
     refine raw ?_
     repeat (first | (with_reducible refine unr ?_; try simp only [YY, ↓reduceIte, Za, Zb, Zc, reduceCtorEq, Zd, Ze, Zf, Zg, Zh, Zi, Zj, he, hil', hg, Cr.len, Cr.take9, Cr.drop9, hq, pickC]) | (with_reducible refine WW (by decide) ?_))
     refine (ih4 x hxm _).mono ?_
     rintro r s ⟨rfl, rfl⟩
     rw [hp]
     refine raw ?_
     repeat (first | (with_reducible refine unr ?_; try simp only [YY, ↓reduceIte, Za, Zb, Zc, reduceCtorEq, Zd, Ze, Zf, Zg, Zh, Zi, Zj, he, hil', hg, Cr.len, Cr.take9, Cr.drop9, hq, hw, pickC]) | (with_reducible refine WW (by decide) ?_))
     refine congrArg AV.bool (Bool.eq_false_iff.2 fun hc => ?_).symm
     simp only [Cr.plain, Bool.and_eq_true, plainL_iff, plainA_iff, plainB_iff, plainP_iff] at hc
     have := hc.2.2.2.2 x hxm
     rw [hp] at this
     cases this
  have hall4 : plainP pk = true := (plainP_iff pk).2 (by rwa [List.take_of_length_le (by omega)] at hall)
  have hil' : ¬ (i : Int) < (pk.length : Int) := by omega
  refine raw ?_
  repeat (first | (with_reducible refine unr ?_; try simp only [YY, ↓reduceIte, Za, Zb, Zc, reduceCtorEq, Zd, Ze, Zf, Zg, Zh, Zi, Zj, he, hil']) | (with_reducible refine WW (by decide) ?_))
  simp [Cr.plain, hk, hall1, hall2, hall3, hall4]
end Go.Proofs.YtgjcnkcepdoedaaGreat
set_option linter.unusedVariables false
set_option linter.unusedSimpArgs false
namespace Go.Proofs.YtgjcnkcepdoedaaGreat
open Go.AL
theorem equal_ok (a b : List ByteArray) (σ : Store) : ACalls Tryz.prog 56 [strs a, strs b] σ fun r σ' => r = .bool (@decide (a = b) (Classical.propDecidable _)) ∧ σ' = σ := by
 refine ACalls_len (j := 0) rfl fun hlen => ?_
 simp only [List.length_map, maxLen] at hlen
 refine in56 (by simp) ?_
 unfold c56
 by_cases hl : a.length = b.length
 · have hl' : (a.length : Int) = (b.length : Int) := by omega
   refine raw ?_
   repeat (first | (with_reducible refine unr ?_; try simp only [YY, ↓reduceIte, Za, Zb, Zc, reduceCtorEq, Zd, Ze, Zf, Zg, Zh, Zi, Zj, hl']) | (with_reducible refine WW (by decide) ?_))
   refine AWP_while [0, 1, 12, 13] (fun i : Nat => a.length - i) (fun i => [strs a, strs b, .int .i64 a.length, .int .i64 i])
    (fun i s => s = σ ∧ i ≤ a.length ∧ a.take i = b.take i) 0 ⟨rfl, by omega, by simp⟩ ?_ ?_
   · refine raw ?_
     repeat (first | (with_reducible refine unr ?_; try simp only [YY, ↓reduceIte, Za, Zb, Zc, reduceCtorEq, Zd, Ze, Zf, Zg, Zh, Zi, Zj, hl']) | (with_reducible refine WW (by decide) ?_))
     rfl
   · rintro i s ⟨rfl, hi, hall⟩
     by_cases hil : i < a.length
     · have hil' : (i : Int) < (b.length : Int) := by omega
       have hil2 : (i : Int) < (a.length : Int) := by omega
       obtain ⟨x, hx⟩ : ∃ x, a[i]? = some x := ⟨_, List.getElem?_eq_getElem hil⟩
       obtain ⟨y, hy⟩ : ∃ y, b[i]? = some y := ⟨_, List.getElem?_eq_getElem (by omega)⟩
       have hga : (a.map fun s => [AV.str s])[i]? = some [.str x] := by simp [hx]
       have hgb : (b.map fun s => [AV.str s])[i]? = some [.str y] := by simp [hy]
       by_cases h1 : x = y
       · refine raw ?_
         repeat (first | (with_reducible refine unr ?_; try simp only [YY, ↓reduceIte, Za, Zb, Zc, reduceCtorEq, Zd, Ze, Zf, Zg, Zh, Zi, Zj, hil', hil2, hga, hgb, h1, wrap_succ (i := i) (by omega)]) | (with_reducible refine WW (by decide) ?_))
         refine ⟨i + 1, rfl, ⟨by omega, ?_⟩, by omega⟩
         rw [List.take_add_one, List.take_add_one, hx, hy, hall, h1]
       · refine raw ?_
         repeat (first | (with_reducible refine unr ?_; try simp only [YY, ↓reduceIte, Za, Zb, Zc, reduceCtorEq, Zd, Ze, Zf, Zg, Zh, Zi, Zj, hil', hil2, hga, hgb, h1]) | (with_reducible refine WW (by decide) ?_))
         simp only [AV.bool.injEq]
         symm
         simp only [decide_eq_false_iff_not]
         rintro rfl
         rw [hx] at hy
         exact h1 (Option.some.inj hy)
     · have hil' : ¬ (i : Int) < (b.length : Int) := by omega
       have hil2 : ¬ (i : Int) < (a.length : Int) := by omega
       refine raw ?_
       repeat (first | (with_reducible refine unr ?_; try simp only [YY, ↓reduceIte, Za, Zb, Zc, reduceCtorEq, Zd, Ze, Zf, Zg, Zh, Zi, Zj, hil', hil2]) | (with_reducible refine WW (by decide) ?_))
       rw [List.take_of_length_le (by omega), List.take_of_length_le (by omega)] at hall
       simp [hall]
 · have hl' : ¬ (a.length : Int) = (b.length : Int) := by omega
   refine raw ?_
   repeat (first | (with_reducible refine unr ?_; try simp only [YY, ↓reduceIte, Za, Zb, Zc, reduceCtorEq, Zd, Ze, Zf, Zg, Zh, Zi, Zj, hl']) | (with_reducible refine WW (by decide) ?_))
   simp only [AV.bool.injEq]
   symm
   simp only [decide_eq_false_iff_not]
   rintro rfl
   exact hl rfl
end Go.Proofs.YtgjcnkcepdoedaaGreat
set_option linter.unusedVariables false
set_option linter.unusedSimpArgs false
namespace Go.AL
def Cr.Alike : Cr → Cr → Prop
 | .mk k nm n ar ps gs al bs pk, .mk k' nm' n' ar' ps' gs' al' bs' pk' => (k = k' ∧ nm = nm' ∧ n = n' ∧ ar = ar' ∧ ps = ps') ∧ (gs.length = gs'.length ∧ al.length = al'.length ∧ bs.length = bs'.length ∧ pk.length = pk'.length) ∧ al.map (·.1) = al'.map (·.1) ∧ bs.map (·.1) = bs'.map (·.1)
noncomputable def Cr.alikeB (a b : Cr) : Bool := @decide (a.Alike b) (Classical.propDecidable _)
theorem alikeB_true {a b : Cr} (h : a.Alike b) : AV.bool true = AV.bool (a.alikeB b) := by simp [Cr.alikeB, h]
theorem alikeB_false {a b : Cr} (h : ¬ a.Alike b) : AV.bool false = AV.bool (a.alikeB b) := by simp [Cr.alikeB, h]
theorem AltH.ext' {a b : AltH} (h1 : a.k = b.k) (h2 : a.nm = b.nm) (h3 : a.n = b.n) (h4 : a.ps = b.ps) : a = b := by cases a; cases b; simp_all
theorem heads_ne {α : Type} {al al' : List (α × Cr)} {i : Nat} {x y : α × Cr} (hx : al[i]? = some x) (hy : al'[i]? = some y) (h : al.map (·.1) = al'.map (·.1)) : x.1 = y.1 := by
 have := congrArg (·[i]?) h
 simpa [hx, hy] using this
theorem heads_eq {α : Type} {al al' : List (α × Cr)} {i : Nat} {x y : α × Cr} (hx : al[i]? = some x) (hy : al'[i]? = some y) (h : (al.map (·.1)).take i = (al'.map (·.1)).take i) (hh : x.1 = y.1) : (al.map (·.1)).take (i + 1) = (al'.map (·.1)).take (i + 1) := by
 rw [List.take_add_one, List.take_add_one, h]
 simp [hx, hy, hh]
end Go.AL
namespace Go.Proofs.YtgjcnkcepdoedaaGreat
open Go.AL
theorem equal' (a b : List ByteArray) (σ : Store) : ACalls Tryz.prog 56 [strs a, strs b] σ fun r σ' => (∃ z : Bool, r = .bool z ∧ (z = true ↔ a = b)) ∧ σ' = σ := (equal_ok a b σ).mono fun _ _ h => ⟨⟨_, h.1, by simp⟩, h.2⟩
set_option maxHeartbeats 2000000 in
theorem alike_ok (x y : Cr) (σ : Store) : ACalls Tryz.prog 36 [.agg x.cells, .agg y.cells] σ fun r σ' => r = .bool (x.alikeB y) ∧ σ' = σ := by
 obtain ⟨k, nm, n, ar, ps, gs, al, bs, pk⟩ := x
 obtain ⟨k', nm', n', ar', ps', gs', al', bs', pk'⟩ := y
 refine calls_a (.cons (.agg (Cr.noId _)) (.cons (.agg (Cr.noId _)) .nil)) (ACalls.mono (K := fun r _ => r = .bool ((Cr.mk k nm n ar ps gs al bs pk).alikeB (Cr.mk k' nm' n' ar' ps' gs' al' bs' pk'))) ?_ fun r s h => by rw [h]; exact .bool _ _) σ
 rw [Cr.cells_eq, Cr.cells_eq]
 refine ACalls_len2 (j := 0) (k := 6) rfl rfl fun hm2 => ?_
 refine ACalls_len2 (j := 0) (k := 7) rfl rfl fun hm3 => ?_
 simp only [List.length_map, maxLen] at hm2 hm3
 refine in36 (by simp) ?_
 unfold c36
 generalize Store.empty = z
 try simp only [YY, ↓reduceIte, Za, Zb, Zc, reduceCtorEq, Zd, Ze, Zf, Zg, Zh, Zi, Zj]
 iterate 2 ((with_reducible refine WW (by decide) ?_); refine unr ?_; try simp only [YY, ↓reduceIte, Za, Zb, Zc, reduceCtorEq, Zd, Ze, Zf, Zg, Zh, Zi, Zj])
 generalize hs1 : Store.push _ _ = s1
 have he : s1.get z.next = some (.cells 28 0 9 [[.int .i64 k, .str nm, .int .i64 n, .int .i64 ar, strs ps, .list (gs.map Cr.cells), .list (al.map altC), .list (bs.map bindC), .list (pk.map pickC)]]) := by rw [← hs1]; simp [Store.push_get, Store.push_next]
 have he2 : s1.get (z.next + 1) = some (.cells 28 0 9 [[.int .i64 k', .str nm', .int .i64 n', .int .i64 ar', strs ps', .list (gs'.map Cr.cells), .list (al'.map altC), .list (bs'.map bindC), .list (pk'.map pickC)]]) := by rw [← hs1]; simp [Store.push_get, Store.push_next]
 clear hs1
 have g1 := he
 have g2 := he2
 refine AWP_cut [2, 3] (fun _ : Unit => [.ptr z.next 0 0 0, .ptr (z.next + 1) 0 0 0]) (fun _ s => s1 = s ∧ (k = k' ∧ nm = nm' ∧ n = n' ∧ ar = ar' ∧ ps = ps')) ?_ ?_
 · refine raw ?_
   repeat' (first | (with_reducible refine unr ?_; try simp only [YY, ↓reduceIte, Za, Zb, Zc, reduceCtorEq, Zd, Ze, Zf, Zg, Zh, Zi, Zj, he, he2, str_nil, *]) | (with_reducible first | refine WW (by decide) ?_ | refine ok_idx (by first | assumption | omega) (fun b hb => raw ?_) | refine ok_iad (by first | assumption | omega) (fun x hx hxm => raw ?_) | refine And.intro (by omega) (raw ?_) | (refine guardW_b (fun h => raw ?_) (fun h => raw ?_) <;> try simp only [Ty] at h) | (refine ePick_b (fun h => raw ?_) (fun h => raw ?_) <;> try simp only [Ty] at h) | (refine condW_b (fun h => raw ?_) (fun h => raw ?_) <;> try simp only [Ty] at h) | (refine (equal' _ _ _).mono ?_; rintro _ _ ⟨⟨b, rfl, hb⟩, rfl⟩; refine raw ?_)))
   all_goals first
    | (refine alikeB_false fun hc => ?_; obtain ⟨⟨c1, c2, c3, c4, c5⟩, -⟩ := hc; simp_all; done)
    | (refine ⟨(), ?_⟩; simp_all; done)
 rintro _ _ ⟨rfl, rfl, rfl, rfl, rfl, rfl⟩
 refine AWP_cut [2, 3] (fun _ : Unit => [.ptr z.next 0 0 0, .ptr (z.next + 1) 0 0 0]) (fun _ s => s1 = s ∧ (gs.length = gs'.length ∧ al.length = al'.length ∧ bs.length = bs'.length ∧ pk.length = pk'.length)) ?_ ?_
 · refine raw ?_
   repeat' (first | (with_reducible refine unr ?_; try simp only [YY, ↓reduceIte, Za, Zb, Zc, reduceCtorEq, Zd, Ze, Zf, Zg, Zh, Zi, Zj, he, he2, str_nil, *]) | (with_reducible first | refine WW (by decide) ?_ | refine ok_idx (by first | assumption | omega) (fun b hb => raw ?_) | refine ok_iad (by first | assumption | omega) (fun x hx hxm => raw ?_) | refine And.intro (by omega) (raw ?_) | (refine guardW_b (fun h => raw ?_) (fun h => raw ?_) <;> try simp only [Ty] at h) | (refine ePick_b (fun h => raw ?_) (fun h => raw ?_) <;> try simp only [Ty] at h) | (refine condW_b (fun h => raw ?_) (fun h => raw ?_) <;> try simp only [Ty] at h)))
   all_goals first
    | (refine alikeB_false fun hc => ?_; obtain ⟨-, ⟨c1, c2, c3, c4⟩, -⟩ := hc; simp_all <;> omega)
    | (refine ⟨(), ?_⟩; simp_all <;> omega)
 rintro _ _ ⟨rfl, l1, l2, l3, l4⟩
 refine raw ?_
 repeat (first | (with_reducible refine unr ?_; try simp only [YY, ↓reduceIte, Za, Zb, Zc, reduceCtorEq, Zd, Ze, Zf, Zg, Zh, Zi, Zj, he, he2]) | (with_reducible refine WW (by decide) ?_))
 refine AWP_while [2, 3, 79, 80, 81] (fun i : Nat => al.length - i) (fun i => [.ptr z.next 0 0 0, .ptr (z.next + 1) 0 0 0, .list (al.map altC), .int .i64 al.length, .int .i64 i]) (fun i t => (t.get z.next = s1.get z.next ∧ t.get (z.next + 1) = s1.get (z.next + 1)) ∧ i ≤ al.length ∧ (al.map (·.1)).take i = (al'.map (·.1)).take i) 0 ⟨⟨rfl, rfl⟩, by simp, by simp⟩ ?_ ?_
 · refine raw ?_
   repeat (first | (with_reducible refine unr ?_; try simp only [YY, ↓reduceIte, Za, Zb, Zc, reduceCtorEq, Zd, Ze, Zf, Zg, Zh, Zi, Zj]) | (with_reducible refine WW (by decide) ?_))
   rfl
 rintro i t ⟨⟨e1, e2⟩, hi, hall⟩
 rw [g1] at e1
 rw [g2] at e2
 have hq1 := lt_ne (t.lt e1)
 have hq2 := lt_ne (t.lt e2)
 by_cases hil : i < al.length
 · have hil' : (i : Int) < (al.length : Int) := by omega
   have hw := wrap_succ (i := i) (by omega)
   obtain ⟨x, hx⟩ : ∃ x, al[i]? = some x := ⟨_, List.getElem?_eq_getElem hil⟩
   obtain ⟨y, hy⟩ : ∃ y, al'[i]? = some y := ⟨_, List.getElem?_eq_getElem (by omega)⟩
   have hg : (al.map altC)[i]? = some (altC x) := by simp [hx]
   have hg' : (al'.map altC)[i]? = some (altC y) := by simp [hy]
   have key : x.1 = y.1 ∨ ¬ x.1 = y.1 := Classical.em _
   refine raw ?_
   repeat' (first | (with_reducible refine unr ?_; try simp only [YY, ↓reduceIte, Za, Zb, Zc, reduceCtorEq, Zd, Ze, Zf, Zg, Zh, Zi, Zj, e1, e2, hil', hg, hg', altC, AltH.cells, Cr.len, Cr.take9, Cr.drop9, hq1, hq2, lt_ne2 (t.lt e1), lt_ne2 (t.lt e2), str_nil, *]) | (with_reducible first | refine WW (by decide) ?_ | refine ok_idx (by first | assumption | omega) (fun b hb => raw ?_) | refine ok_iad (by first | assumption | omega) (fun x hx hxm => raw ?_) | refine And.intro (by omega) (raw ?_) | (refine guardW_b (fun h => raw ?_) (fun h => raw ?_) <;> try simp only [Ty] at h) | (refine ePick_b (fun h => raw ?_) (fun h => raw ?_) <;> try simp only [Ty] at h) | (refine condW_b (fun h => raw ?_) (fun h => raw ?_) <;> try simp only [Ty] at h) | (refine (equal' _ _ _).mono ?_; rintro _ _ ⟨⟨b, rfl, hb⟩, rfl⟩; refine raw ?_)))
   all_goals first
    | (refine alikeB_false fun hc => ?_; have hn := heads_ne hx hy hc.2.2.1; clear hc; simp_all; done)
    | (refine ⟨i + 1, by simp [l2], ⟨by omega, heads_eq hx hy hall (AltH.ext' ?_ ?_ ?_ ?_)⟩, by omega⟩ <;> simp_all; done)
    | (exfalso; omega)
 have hA : al.map (·.1) = al'.map (·.1) := by
  rw [List.take_of_length_le (by simp; omega), List.take_of_length_le (by simp; omega)] at hall
  exact hall
 have hil' : ¬ (i : Int) < (al.length : Int) := by omega
 have hil2 : ¬ (i : Int) < (al'.length : Int) := by omega
 refine raw ?_
 repeat (first | (with_reducible refine unr ?_; try simp only [YY, ↓reduceIte, Za, Zb, Zc, reduceCtorEq, Zd, Ze, Zf, Zg, Zh, Zi, Zj, e1, e2, hil', hil2]) | (with_reducible refine WW (by decide) ?_))
 clear hall hil hil' hil2 hi
 have g1 := e1
 have g2 := e2
 refine AWP_while [2, 3, 120, 121, 122] (fun i : Nat => bs.length - i) (fun i => [.ptr z.next 0 0 0, .ptr (z.next + 1) 0 0 0, .list (bs.map bindC), .int .i64 bs.length, .int .i64 i]) (fun i u => (u.get z.next = t.get z.next ∧ u.get (z.next + 1) = t.get (z.next + 1)) ∧ i ≤ bs.length ∧ (bs.map (·.1)).take i = (bs'.map (·.1)).take i) 0 ⟨⟨rfl, rfl⟩, by simp, by simp⟩ ?_ ?_
 · refine raw ?_
   repeat (first | (with_reducible refine unr ?_; try simp only [YY, ↓reduceIte, Za, Zb, Zc, reduceCtorEq, Zd, Ze, Zf, Zg, Zh, Zi, Zj]) | (with_reducible refine WW (by decide) ?_))
   rfl
 rintro i u ⟨⟨e1, e2⟩, hi, hall⟩
 rw [g1] at e1
 rw [g2] at e2
 have hq1 := lt_ne (u.lt e1)
 have hq2 := lt_ne (u.lt e2)
 by_cases hil : i < bs.length
 · have hil' : (i : Int) < (bs.length : Int) := by omega
   have hw := wrap_succ (i := i) (by omega)
   obtain ⟨x, hx⟩ : ∃ x, bs[i]? = some x := ⟨_, List.getElem?_eq_getElem hil⟩
   obtain ⟨y, hy⟩ : ∃ y, bs'[i]? = some y := ⟨_, List.getElem?_eq_getElem (by omega)⟩
   have hg : (bs.map bindC)[i]? = some (bindC x) := by simp [hx]
   have hg' : (bs'.map bindC)[i]? = some (bindC y) := by simp [hy]
   refine raw ?_
   repeat' (first | (with_reducible refine unr ?_; try simp only [YY, ↓reduceIte, Za, Zb, Zc, reduceCtorEq, Zd, Ze, Zf, Zg, Zh, Zi, Zj, e1, e2, hil', hg, hg', bindC, Cr.len, Cr.take9, Cr.drop9, hq1, hq2, lt_ne2 (u.lt e1), lt_ne2 (u.lt e2), str_nil, *]) | (with_reducible first | refine WW (by decide) ?_ | refine ok_idx (by first | assumption | omega) (fun b hb => raw ?_) | refine ok_iad (by first | assumption | omega) (fun x hx hxm => raw ?_) | refine And.intro (by omega) (raw ?_) | (refine guardW_b (fun h => raw ?_) (fun h => raw ?_) <;> try simp only [Ty] at h) | (refine ePick_b (fun h => raw ?_) (fun h => raw ?_) <;> try simp only [Ty] at h) | (refine condW_b (fun h => raw ?_) (fun h => raw ?_) <;> try simp only [Ty] at h)))
   all_goals first
    | (refine alikeB_false fun hc => ?_; have hn := heads_ne hx hy hc.2.2.2; clear hc; simp_all; done)
    | (refine ⟨i + 1, by simp [l3], ⟨by omega, heads_eq hx hy hall ?_⟩, by omega⟩ <;> simp_all; done)
    | (exfalso; omega)
 have hB : bs.map (·.1) = bs'.map (·.1) := by
  rw [List.take_of_length_le (by simp; omega), List.take_of_length_le (by simp; omega)] at hall
  exact hall
 have hil' : ¬ (i : Int) < (bs.length : Int) := by omega
 have hil2 : ¬ (i : Int) < (bs'.length : Int) := by omega
 refine raw ?_
 repeat (first | (with_reducible refine unr ?_; try simp only [YY, ↓reduceIte, Za, Zb, Zc, reduceCtorEq, Zd, Ze, Zf, Zg, Zh, Zi, Zj, e1, e2, hil', hil2]) | (with_reducible refine WW (by decide) ?_))
 exact alikeB_true ⟨⟨rfl, rfl, rfl, rfl, rfl⟩, ⟨l1, l2, l3, l4⟩, hA, hB⟩
end Go.Proofs.YtgjcnkcepdoedaaGreat
set_option linter.unusedVariables false
set_option linter.unusedSimpArgs false
namespace Go.AL
noncomputable def Cr.sameB (a b : Cr) : Bool := @decide (a = b) (Classical.propDecidable _)
theorem sameB_eq {a b : Cr} (h : a = b) : a.sameB b = true := by simp [Cr.sameB, h]
theorem sameB_ne {a b : Cr} (h : ¬ a = b) : a.sameB b = false := by simp [Cr.sameB, h]
theorem sameB_t {a b : Cr} (h : a = b) : AV.bool true = AV.bool (a.sameB b) := by rw [sameB_eq h]
theorem sameB_f {a b : Cr} (h : ¬ a = b) : AV.bool false = AV.bool (a.sameB b) := by rw [sameB_ne h]
theorem alikeB_eq {a b : Cr} (h : a.Alike b) : a.alikeB b = true := by simp [Cr.alikeB, h]
theorem alikeB_ne {a b : Cr} (h : ¬ a.Alike b) : a.alikeB b = false := by simp [Cr.alikeB, h]
theorem zip_eq {α β : Type} : ∀ {l m : List (α × β)}, l.map (·.1) = m.map (·.1) → l.map (·.2) = m.map (·.2) → l = m
 | [], [], _, _ => rfl
 | [], _ :: _, h, _ => by simp at h
 | _ :: _, [], h, _ => by simp at h
 | (a, b) :: l, (c, d) :: m, h, k => by
  simp only [List.map_cons, List.cons.injEq] at h k
  rw [h.1, k.1, zip_eq h.2 k.2]
theorem bodies_ne {α β : Type} {l l' : List α} {f : α → β} {i : Nat} {x y : α} (hx : l[i]? = some x) (hy : l'[i]? = some y) (h : l = l') : f x = f y := by
 subst h; rw [hx] at hy; cases hy; rfl
theorem bodies_eq {α β : Type} {l l' : List α} {f : α → β} {i : Nat} {x y : α} (hx : l[i]? = some x) (hy : l'[i]? = some y) (h : (l.map f).take i = (l'.map f).take i) (hh : f x = f y) : (l.map f).take (i + 1) = (l'.map f).take (i + 1) := by
 rw [List.take_add_one, List.take_add_one, h]
 simp [hx, hy, hh]
end Go.AL
namespace Go.Proofs.YtgjcnkcepdoedaaGreat
open Go.AL
set_option maxHeartbeats 2000000 in
theorem same_ok : ∀ (x y : Cr) (σ : Store), ACalls Tryz.prog 34 [.agg x.cells, .agg y.cells] σ fun r σ' => r = .bool (x.sameB y) ∧ σ' = σ := by
 intro x
 induction x using Cr.ind with
 | _ k nm n ar ps gs al bs pk ih1 ih2 ih3 ih4 =>
  intro y σ
  obtain ⟨k', nm', n', ar', ps', gs', al', bs', pk'⟩ := y
  refine calls_a (.cons (.agg (Cr.noId _)) (.cons (.agg (Cr.noId _)) .nil)) (ACalls.mono (K := fun r _ => r = .bool ((Cr.mk k nm n ar ps gs al bs pk).sameB (Cr.mk k' nm' n' ar' ps' gs' al' bs' pk'))) ?_ fun r s h => by rw [h]; exact .bool _ _) σ
  have ha := alike_ok (Cr.mk k nm n ar ps gs al bs pk) (Cr.mk k' nm' n' ar' ps' gs' al' bs' pk')
  rw [Cr.cells_eq, Cr.cells_eq] at ha ⊢
  refine ACalls_len2 (j := 0) (k := 5) rfl rfl fun hm1 => ?_
  refine ACalls_len2 (j := 0) (k := 6) rfl rfl fun hm2 => ?_
  refine ACalls_len2 (j := 0) (k := 7) rfl rfl fun hm3 => ?_
  refine ACalls_len2 (j := 0) (k := 8) rfl rfl fun hm4 => ?_
  simp only [List.length_map, maxLen] at hm1 hm2 hm3 hm4
  refine in34 (by simp) ?_
  unfold c34
  generalize Store.empty = z
  try simp only [YY, ↓reduceIte, Za, Zb, Zc, reduceCtorEq, Zd, Ze, Zf, Zg, Zh, Zi, Zj]
  iterate 2 ((with_reducible refine WW (by decide) ?_); refine unr ?_; try simp only [YY, ↓reduceIte, Za, Zb, Zc, reduceCtorEq, Zd, Ze, Zf, Zg, Zh, Zi, Zj])
  generalize hs1 : Store.push _ _ = s1
  have he : s1.get z.next = some (.cells 28 0 9 [[.int .i64 k, .str nm, .int .i64 n, .int .i64 ar, strs ps, .list (gs.map Cr.cells), .list (al.map altC), .list (bs.map bindC), .list (pk.map pickC)]]) := by rw [← hs1]; simp [Store.push_get, Store.push_next]
  have he2 : s1.get (z.next + 1) = some (.cells 28 0 9 [[.int .i64 k', .str nm', .int .i64 n', .int .i64 ar', strs ps', .list (gs'.map Cr.cells), .list (al'.map altC), .list (bs'.map bindC), .list (pk'.map pickC)]]) := by rw [← hs1]; simp [Store.push_get, Store.push_next]
  clear hs1
  refine raw ?_
  repeat (first | (with_reducible refine unr ?_; try simp only [YY, ↓reduceIte, Za, Zb, Zc, reduceCtorEq, Zd, Ze, Zf, Zg, Zh, Zi, Zj, he, he2]) | (with_reducible refine WW (by decide) ?_))
  refine (ha _).mono ?_
  rintro r s1 ⟨rfl, rfl⟩
  by_cases hal : ¬ (Cr.mk k nm n ar ps gs al bs pk).Alike (Cr.mk k' nm' n' ar' ps' gs' al' bs' pk')
  · rw [alikeB_ne hal]
    refine raw ?_
    repeat (first | (with_reducible refine unr ?_; try simp only [YY, ↓reduceIte, Za, Zb, Zc, reduceCtorEq, Zd, Ze, Zf, Zg, Zh, Zi, Zj, he, he2]) | (with_reducible refine WW (by decide) ?_))
    exact sameB_f fun hc => hal (by rw [hc]; exact ⟨⟨rfl, rfl, rfl, rfl, rfl⟩, ⟨rfl, rfl, rfl, rfl⟩, rfl, rfl⟩)
  have hal := Classical.not_not.1 hal
  rw [alikeB_eq hal]
  obtain ⟨⟨rfl, rfl, rfl, rfl, rfl⟩, ⟨l1, l2, l3, l4⟩, hA, hB⟩ := hal
  refine raw ?_
  repeat (first | (with_reducible refine unr ?_; try simp only [YY, ↓reduceIte, Za, Zb, Zc, reduceCtorEq, Zd, Ze, Zf, Zg, Zh, Zi, Zj, he, he2]) | (with_reducible refine WW (by decide) ?_))
  refine AWP_while [2, 3, 15, 16] (fun i : Nat => gs.length - i) (fun i => [.ptr z.next 0 0 0, .ptr (z.next + 1) 0 0 0, .int .i64 gs.length, .int .i64 i]) (fun i u => s1 = u ∧ i ≤ gs.length ∧ (gs.map fun x => x ).take i = (gs'.map fun x => x ).take i) 0 ⟨rfl, by simp, by simp⟩ ?_ ?_
  · refine raw ?_
    repeat (first | (with_reducible refine unr ?_; try simp only [YY, ↓reduceIte, Za, Zb, Zc, reduceCtorEq, Zd, Ze, Zf, Zg, Zh, Zi, Zj]) | (with_reducible refine WW (by decide) ?_))
    rfl
  rintro i u ⟨rfl, hi, hall⟩
  by_cases hil : i < gs.length
  · have hil' : (i : Int) < (gs.length : Int) := by omega
    have hil2 : (i : Int) < (gs'.length : Int) := by omega
    have hw := wrap_succ (i := i) (by omega)
    obtain ⟨x, hx⟩ : ∃ x, gs[i]? = some x := ⟨_, List.getElem?_eq_getElem hil⟩
    obtain ⟨y, hy⟩ : ∃ y, gs'[i]? = some y := ⟨_, List.getElem?_eq_getElem (by omega)⟩
    have hg : (gs.map Cr.cells)[i]? = some (Cr.cells x) := by simp [hx]
    have hg' : (gs'.map Cr.cells)[i]? = some (Cr.cells y) := by simp [hy]
    have hxm := List.mem_of_getElem? hx
    by_cases hxy : x  = y 
    · refine raw ?_
      repeat (first | (with_reducible refine unr ?_; try simp only [YY, ↓reduceIte, Za, Zb, Zc, reduceCtorEq, Zd, Ze, Zf, Zg, Zh, Zi, Zj, he, he2, hil', hil2, hg, hg', Cr.len, Cr.len, Cr.take9, Cr.drop9, hw]) | (with_reducible refine WW (by decide) ?_))
      refine (ih1 x hxm (y ) _).mono ?_
      rintro r s ⟨rfl, rfl⟩
      rw [sameB_eq hxy]
      refine raw ?_
      repeat (first | (with_reducible refine unr ?_; try simp only [YY, ↓reduceIte, Za, Zb, Zc, reduceCtorEq, Zd, Ze, Zf, Zg, Zh, Zi, Zj, he, he2, hil', hil2, hg, hg', Cr.len, Cr.len, Cr.take9, Cr.drop9, hw]) | (with_reducible refine WW (by decide) ?_))
      exact ⟨i + 1, rfl, ⟨by omega, bodies_eq hx hy hall hxy⟩, by omega⟩
    · refine raw ?_
      repeat (first | (with_reducible refine unr ?_; try simp only [YY, ↓reduceIte, Za, Zb, Zc, reduceCtorEq, Zd, Ze, Zf, Zg, Zh, Zi, Zj, he, he2, hil', hil2, hg, hg', Cr.len, Cr.len, Cr.take9, Cr.drop9, hw]) | (with_reducible refine WW (by decide) ?_))
      refine (ih1 x hxm (y ) _).mono ?_
      rintro r s ⟨rfl, rfl⟩
      rw [sameB_ne hxy]
      refine raw ?_
      repeat (first | (with_reducible refine unr ?_; try simp only [YY, ↓reduceIte, Za, Zb, Zc, reduceCtorEq, Zd, Ze, Zf, Zg, Zh, Zi, Zj, he, he2, hil', hil2, hg, hg', Cr.len, Cr.len, Cr.take9, Cr.drop9, hw]) | (with_reducible refine WW (by decide) ?_))
      exact sameB_f fun hc => hxy (by cases hc; exact bodies_ne (f := fun x => x ) hx hy rfl)
  have q1 : (gs.map fun x => x ) = gs'.map fun x => x  := by
   rw [List.take_of_length_le (by simp; omega), List.take_of_length_le (by simp; omega)] at hall
   exact hall
  have hil' : ¬ (i : Int) < (gs.length : Int) := by omega
  refine raw ?_
  repeat (first | (with_reducible refine unr ?_; try simp only [YY, ↓reduceIte, Za, Zb, Zc, reduceCtorEq, Zd, Ze, Zf, Zg, Zh, Zi, Zj, he, he2, hil']) | (with_reducible refine WW (by decide) ?_))
  clear hall hil hil' hi
  refine AWP_while [2, 3, 34, 35] (fun i : Nat => al.length - i) (fun i => [.ptr z.next 0 0 0, .ptr (z.next + 1) 0 0 0, .int .i64 al.length, .int .i64 i]) (fun i u => s1 = u ∧ i ≤ al.length ∧ (al.map fun x => x.2).take i = (al'.map fun x => x.2).take i) 0 ⟨rfl, by simp, by simp⟩ ?_ ?_
  · refine raw ?_
    repeat (first | (with_reducible refine unr ?_; try simp only [YY, ↓reduceIte, Za, Zb, Zc, reduceCtorEq, Zd, Ze, Zf, Zg, Zh, Zi, Zj]) | (with_reducible refine WW (by decide) ?_))
    rfl
  rintro i u ⟨rfl, hi, hall⟩
  by_cases hil : i < al.length
  · have hil' : (i : Int) < (al.length : Int) := by omega
    have hil2 : (i : Int) < (al'.length : Int) := by omega
    have hw := wrap_succ (i := i) (by omega)
    obtain ⟨x, hx⟩ : ∃ x, al[i]? = some x := ⟨_, List.getElem?_eq_getElem hil⟩
    obtain ⟨y, hy⟩ : ∃ y, al'[i]? = some y := ⟨_, List.getElem?_eq_getElem (by omega)⟩
    have hg : (al.map altC)[i]? = some (altC x) := by simp [hx]
    have hg' : (al'.map altC)[i]? = some (altC y) := by simp [hy]
    have hxm := List.mem_of_getElem? hx
    by_cases hxy : x.2 = y.2
    · refine raw ?_
      repeat (first | (with_reducible refine unr ?_; try simp only [YY, ↓reduceIte, Za, Zb, Zc, reduceCtorEq, Zd, Ze, Zf, Zg, Zh, Zi, Zj, he, he2, hil', hil2, hg, hg', altC, AltH.cells, Cr.len, Cr.take9, Cr.drop9, hw]) | (with_reducible refine WW (by decide) ?_))
      refine (ih2 x hxm (y.2) _).mono ?_
      rintro r s ⟨rfl, rfl⟩
      rw [sameB_eq hxy]
      refine raw ?_
      repeat (first | (with_reducible refine unr ?_; try simp only [YY, ↓reduceIte, Za, Zb, Zc, reduceCtorEq, Zd, Ze, Zf, Zg, Zh, Zi, Zj, he, he2, hil', hil2, hg, hg', altC, AltH.cells, Cr.len, Cr.take9, Cr.drop9, hw]) | (with_reducible refine WW (by decide) ?_))
      exact ⟨i + 1, rfl, ⟨by omega, bodies_eq hx hy hall hxy⟩, by omega⟩
    · refine raw ?_
      repeat (first | (with_reducible refine unr ?_; try simp only [YY, ↓reduceIte, Za, Zb, Zc, reduceCtorEq, Zd, Ze, Zf, Zg, Zh, Zi, Zj, he, he2, hil', hil2, hg, hg', altC, AltH.cells, Cr.len, Cr.take9, Cr.drop9, hw]) | (with_reducible refine WW (by decide) ?_))
      refine (ih2 x hxm (y.2) _).mono ?_
      rintro r s ⟨rfl, rfl⟩
      rw [sameB_ne hxy]
      refine raw ?_
      repeat (first | (with_reducible refine unr ?_; try simp only [YY, ↓reduceIte, Za, Zb, Zc, reduceCtorEq, Zd, Ze, Zf, Zg, Zh, Zi, Zj, he, he2, hil', hil2, hg, hg', altC, AltH.cells, Cr.len, Cr.take9, Cr.drop9, hw]) | (with_reducible refine WW (by decide) ?_))
      exact sameB_f fun hc => hxy (by cases hc; exact bodies_ne (f := fun x => x.2) hx hy rfl)
  have q2 : (al.map fun x => x.2) = al'.map fun x => x.2 := by
   rw [List.take_of_length_le (by simp; omega), List.take_of_length_le (by simp; omega)] at hall
   exact hall
  have hil' : ¬ (i : Int) < (al.length : Int) := by omega
  refine raw ?_
  repeat (first | (with_reducible refine unr ?_; try simp only [YY, ↓reduceIte, Za, Zb, Zc, reduceCtorEq, Zd, Ze, Zf, Zg, Zh, Zi, Zj, he, he2, hil']) | (with_reducible refine WW (by decide) ?_))
  clear hall hil hil' hi
  refine AWP_while [2, 3, 55, 56] (fun i : Nat => bs.length - i) (fun i => [.ptr z.next 0 0 0, .ptr (z.next + 1) 0 0 0, .int .i64 bs.length, .int .i64 i]) (fun i u => s1 = u ∧ i ≤ bs.length ∧ (bs.map fun x => x.2).take i = (bs'.map fun x => x.2).take i) 0 ⟨rfl, by simp, by simp⟩ ?_ ?_
  · refine raw ?_
    repeat (first | (with_reducible refine unr ?_; try simp only [YY, ↓reduceIte, Za, Zb, Zc, reduceCtorEq, Zd, Ze, Zf, Zg, Zh, Zi, Zj]) | (with_reducible refine WW (by decide) ?_))
    rfl
  rintro i u ⟨rfl, hi, hall⟩
  by_cases hil : i < bs.length
  · have hil' : (i : Int) < (bs.length : Int) := by omega
    have hil2 : (i : Int) < (bs'.length : Int) := by omega
    have hw := wrap_succ (i := i) (by omega)
    obtain ⟨x, hx⟩ : ∃ x, bs[i]? = some x := ⟨_, List.getElem?_eq_getElem hil⟩
    obtain ⟨y, hy⟩ : ∃ y, bs'[i]? = some y := ⟨_, List.getElem?_eq_getElem (by omega)⟩
    have hg : (bs.map bindC)[i]? = some (bindC x) := by simp [hx]
    have hg' : (bs'.map bindC)[i]? = some (bindC y) := by simp [hy]
    have hxm := List.mem_of_getElem? hx
    by_cases hxy : x.2 = y.2
    · refine raw ?_
      repeat (first | (with_reducible refine unr ?_; try simp only [YY, ↓reduceIte, Za, Zb, Zc, reduceCtorEq, Zd, Ze, Zf, Zg, Zh, Zi, Zj, he, he2, hil', hil2, hg, hg', bindC, Cr.len, Cr.take9, Cr.drop9, hw]) | (with_reducible refine WW (by decide) ?_))
      refine (ih3 x hxm (y.2) _).mono ?_
      rintro r s ⟨rfl, rfl⟩
      rw [sameB_eq hxy]
      refine raw ?_
      repeat (first | (with_reducible refine unr ?_; try simp only [YY, ↓reduceIte, Za, Zb, Zc, reduceCtorEq, Zd, Ze, Zf, Zg, Zh, Zi, Zj, he, he2, hil', hil2, hg, hg', bindC, Cr.len, Cr.take9, Cr.drop9, hw]) | (with_reducible refine WW (by decide) ?_))
      exact ⟨i + 1, rfl, ⟨by omega, bodies_eq hx hy hall hxy⟩, by omega⟩
    · refine raw ?_
      repeat (first | (with_reducible refine unr ?_; try simp only [YY, ↓reduceIte, Za, Zb, Zc, reduceCtorEq, Zd, Ze, Zf, Zg, Zh, Zi, Zj, he, he2, hil', hil2, hg, hg', bindC, Cr.len, Cr.take9, Cr.drop9, hw]) | (with_reducible refine WW (by decide) ?_))
      refine (ih3 x hxm (y.2) _).mono ?_
      rintro r s ⟨rfl, rfl⟩
      rw [sameB_ne hxy]
      refine raw ?_
      repeat (first | (with_reducible refine unr ?_; try simp only [YY, ↓reduceIte, Za, Zb, Zc, reduceCtorEq, Zd, Ze, Zf, Zg, Zh, Zi, Zj, he, he2, hil', hil2, hg, hg', bindC, Cr.len, Cr.take9, Cr.drop9, hw]) | (with_reducible refine WW (by decide) ?_))
      exact sameB_f fun hc => hxy (by cases hc; exact bodies_ne (f := fun x => x.2) hx hy rfl)
  have q3 : (bs.map fun x => x.2) = bs'.map fun x => x.2 := by
   rw [List.take_of_length_le (by simp; omega), List.take_of_length_le (by simp; omega)] at hall
   exact hall
  have hil' : ¬ (i : Int) < (bs.length : Int) := by omega
  refine raw ?_
  repeat (first | (with_reducible refine unr ?_; try simp only [YY, ↓reduceIte, Za, Zb, Zc, reduceCtorEq, Zd, Ze, Zf, Zg, Zh, Zi, Zj, he, he2, hil']) | (with_reducible refine WW (by decide) ?_))
  clear hall hil hil' hi
  refine AWP_while [2, 3, 76, 77] (fun i : Nat => pk.length - i) (fun i => [.ptr z.next 0 0 0, .ptr (z.next + 1) 0 0 0, .int .i64 pk.length, .int .i64 i]) (fun i u => s1 = u ∧ i ≤ pk.length ∧ (pk.map fun x => x).take i = (pk'.map fun x => x).take i) 0 ⟨rfl, by simp, by simp⟩ ?_ ?_
  · refine raw ?_
    repeat (first | (with_reducible refine unr ?_; try simp only [YY, ↓reduceIte, Za, Zb, Zc, reduceCtorEq, Zd, Ze, Zf, Zg, Zh, Zi, Zj]) | (with_reducible refine WW (by decide) ?_))
    rfl
  rintro i u ⟨rfl, hi, hall⟩
  by_cases hil : i < pk.length
  · have hil' : (i : Int) < (pk.length : Int) := by omega
    have hil2 : (i : Int) < (pk'.length : Int) := by omega
    have hw := wrap_succ (i := i) (by omega)
    obtain ⟨x, hx⟩ : ∃ x, pk[i]? = some x := ⟨_, List.getElem?_eq_getElem hil⟩
    obtain ⟨y, hy⟩ : ∃ y, pk'[i]? = some y := ⟨_, List.getElem?_eq_getElem (by omega)⟩
    have hg : (pk.map pickC)[i]? = some (pickC x) := by simp [hx]
    have hg' : (pk'.map pickC)[i]? = some (pickC y) := by simp [hy]
    have hxm := List.mem_of_getElem? hx
    have no : ¬ x = y → AV.bool false = AV.bool ((Cr.mk k nm n ar ps gs al bs pk).sameB (Cr.mk k nm n ar ps gs' al' bs' pk')) := fun hn => sameB_f fun hc => hn (by cases hc; exact bodies_ne (f := fun x => x) hx hy rfl)
    by_cases hsel : x.1 = y.1
    · refine raw ?_
      repeat (first | (with_reducible refine unr ?_; try simp only [YY, ↓reduceIte, Za, Zb, Zc, reduceCtorEq, Zd, Ze, Zf, Zg, Zh, Zi, Zj, he, he2, hil', hil2, hg, hg', pickC, Cr.len, Cr.take9, Cr.drop9, hw, hsel]) | (with_reducible refine WW (by decide) ?_))
      refine (ih4 x hxm y.2 _).mono ?_
      rintro r s ⟨rfl, rfl⟩
      by_cases hxy : x.2 = y.2
      · rw [sameB_eq hxy]
        refine raw ?_
        repeat (first | (with_reducible refine unr ?_; try simp only [YY, ↓reduceIte, Za, Zb, Zc, reduceCtorEq, Zd, Ze, Zf, Zg, Zh, Zi, Zj, he, he2, hil', hil2, hg, hg', pickC, Cr.len, Cr.take9, Cr.drop9, hw]) | (with_reducible refine WW (by decide) ?_))
        exact ⟨i + 1, rfl, ⟨by omega, bodies_eq (f := fun x => x) hx hy hall (by cases x; cases y; simp_all)⟩, by omega⟩
      · rw [sameB_ne hxy]
        refine raw ?_
        repeat (first | (with_reducible refine unr ?_; try simp only [YY, ↓reduceIte, Za, Zb, Zc, reduceCtorEq, Zd, Ze, Zf, Zg, Zh, Zi, Zj, he, he2, hil', hil2, hg, hg', pickC, Cr.len, Cr.take9, Cr.drop9, hw]) | (with_reducible refine WW (by decide) ?_))
        exact no fun hc => hxy (by rw [hc])
    · refine raw ?_
      repeat (first | (with_reducible refine unr ?_; try simp only [YY, ↓reduceIte, Za, Zb, Zc, reduceCtorEq, Zd, Ze, Zf, Zg, Zh, Zi, Zj, he, he2, hil', hil2, hg, hg', pickC, Cr.len, Cr.take9, Cr.drop9, hw, hsel]) | (with_reducible refine WW (by decide) ?_))
      exact no fun hc => hsel (by rw [hc])
  have q4 : (pk.map fun x => x) = pk'.map fun x => x := by
   rw [List.take_of_length_le (by simp; omega), List.take_of_length_le (by simp; omega)] at hall
   exact hall
  have hil' : ¬ (i : Int) < (pk.length : Int) := by omega
  refine raw ?_
  repeat (first | (with_reducible refine unr ?_; try simp only [YY, ↓reduceIte, Za, Zb, Zc, reduceCtorEq, Zd, Ze, Zf, Zg, Zh, Zi, Zj, he, he2, hil']) | (with_reducible refine WW (by decide) ?_))
  simp only [List.map_id_fun', id] at q1 q4
  exact sameB_t (by rw [q1, zip_eq hA q2, zip_eq hB q3, q4])
end Go.Proofs.YtgjcnkcepdoedaaGreat
set_option linter.unusedVariables false
set_option linter.unusedSimpArgs false
namespace Go.Proofs.YtgjcnkcepdoedaaGreat
open Go.AL
end Go.Proofs.YtgjcnkcepdoedaaGreat
set_option linter.unusedVariables false
set_option linter.unusedSimpArgs false
namespace Go.AL
theorem FrzLL.of {σ : Store} {fl : Nat} : ∀ {l : List (List AV)}, (∀ e, e ∈ l → FrzL σ fl e e) → FrzLL σ fl l l
 | [], _ => .nil fl
 | a :: l, h => .cons (h a (by simp)) (FrzLL.of fun e he => h e (by simp [he]))
theorem FrzL.append {σ : Store} {fl : Nat} : ∀ {a b c d : List AV}, FrzL σ fl a c → FrzL σ fl b d → FrzL σ fl (a ++ b) (c ++ d)
 | _, _, _, _, .nil _, h => h
 | _, _, _, _, .cons h t, k => .cons h (t.append k)
theorem frz_strs (σ : Store) (l : List ByteArray) : Frz σ 2 (strs l) (strs l) := .list2 (.of fun e he => by
 obtain ⟨y, -, rfl⟩ := List.mem_map.1 he
 exact .cons (.str 2 _) (.nil 2))
theorem Cr.frz (σ : Store) (x : Cr) : FrzL σ 2 x.cells x.cells := by
 induction x using Cr.ind with
 | _ k nm n ar ps gs al bs pk h1 h2 h3 h4 =>
  rw [Cr.cells_eq]
  refine .cons (.int 2 _ _) (.cons (.str 2 _) (.cons (.int 2 _ _) (.cons (.int 2 _ _) (.cons (frz_strs σ _) (.cons (.list2 (.of fun e he => ?_)) (.cons (.list2 (.of fun e he => ?_)) (.cons (.list2 (.of fun e he => ?_)) (.cons (.list2 (.of fun e he => ?_)) (.nil 2)))))))))
  · obtain ⟨y, hy, rfl⟩ := List.mem_map.1 he; exact h1 y hy
  · obtain ⟨y, hy, rfl⟩ := List.mem_map.1 he
    exact FrzL.append (.cons (.int 2 _ _) (.cons (.str 2 _) (.cons (.int 2 _ _) (.cons (frz_strs σ _) (.nil 2))))) (h2 y hy)
  · obtain ⟨y, hy, rfl⟩ := List.mem_map.1 he; exact .cons (.str 2 _) (h3 y hy)
  · obtain ⟨y, hy, rfl⟩ := List.mem_map.1 he; exact .cons (.int 2 _ _) (h4 y hy)
theorem Crs.frz (σ : Store) (l : List Cr) : FrzLL σ 2 (l.map Cr.cells) (l.map Cr.cells) := .of fun e he => by obtain ⟨y, -, rfl⟩ := List.mem_map.1 he; exact y.frz σ
theorem Alts.frz (σ : Store) (l : List (AltH × Cr)) : FrzLL σ 2 (l.map altC) (l.map altC) := .of fun e he => by
 obtain ⟨y, -, rfl⟩ := List.mem_map.1 he
 exact FrzL.append (.cons (.int 2 _ _) (.cons (.str 2 _) (.cons (.int 2 _ _) (.cons (frz_strs σ _) (.nil 2))))) (y.2.frz σ)
theorem Binds.frz (σ : Store) (l : List (ByteArray × Cr)) : FrzLL σ 2 (l.map bindC) (l.map bindC) := .of fun e he => by
 obtain ⟨y, -, rfl⟩ := List.mem_map.1 he
 exact .cons (.str 2 _) (y.2.frz σ)
theorem Picks.frz (σ : Store) (l : List (Int × Cr)) : FrzLL σ 2 (l.map pickC) (l.map pickC) := .of fun e he => by
 obtain ⟨y, -, rfl⟩ := List.mem_map.1 he
 exact .cons (.int 2 _ _) (y.2.frz σ)
theorem SliceAt.out {σ : Store} {v : AV} {ty sz : Nat} {es : List (List AV)} (h : SliceAt σ v ty sz es) (hn : FrzLL σ 2 es es) : ∃ r, Le v r ∧ Frz σ 2 r (.list es) := by
 rcases h with ⟨rfl, rfl⟩ | ⟨id, ver, es', rfl, hg⟩
 · exact ⟨_, .nil, .listNil 2⟩
 · refine ⟨_, .refl _, .own hg (by simp) ?_⟩
   simp only [List.drop_zero, List.take_left]
   exact hn
def Cr.partsL : Cr → List Cr
 | .mk k nm n ar ps gs al bs pk => gs ++ al.map (·.2) ++ bs.map (·.2)
theorem grow_eq {σ s : Store} {v : AV} {ty sz : Nat} {a b : List (List AV)} (h : Grow σ s v ty sz a) (e : a = b) : Grow σ s v ty sz b := e ▸ h
end Go.AL
namespace Go.Proofs.YtgjcnkcepdoedaaGreat
open Go.AL
set_option maxHeartbeats 1000000 in
theorem parts_ok (x : Cr) (hx : x.partsL.length ≤ 100000000) (σ : Store) : ACalls Tryz.prog 23 [.agg x.cells] σ fun r σ' => r = .list (x.partsL.map Cr.cells) ∧ σ' = σ := by
 refine calls_a (.cons (.agg (Cr.noId _)) .nil) (ACalls_le ?_) σ
 obtain ⟨k, nm, n, ar, ps, gs, al, bs, pk⟩ := x
 simp only [Cr.partsL, List.length_append, List.length_map] at hx ⊢
 rw [Cr.cells_eq]
 refine in23 (by simp) ?_
 unfold c23
 generalize Store.empty = z
 refine raw ?_
 repeat (first | (with_reducible refine unr ?_; try simp only [YY, ↓reduceIte, Za, Zb, Zc, reduceCtorEq, Zd, Ze, Zf, Zg, Zh, Zi, Zj]) | (with_reducible refine WW (by decide) ?_))
 generalize hs1 : Store.push _ _ = s1
 have he : s1.get z.next = some (.cells 28 0 9 [[.int .i64 k, .str nm, .int .i64 n, .int .i64 ar, strs ps, .list (gs.map Cr.cells), .list (al.map altC), .list (bs.map bindC), .list (pk.map pickC)]]) := by rw [← hs1]; simp [Store.push_get]
 clear hs1
 refine AWP_while [1, 3, 4] (fun y : AV × Nat => gs.length - y.2) (fun y => [.ptr z.next 0 0 0, y.1, .int .i64 y.2]) (fun y t => Grow s1 t y.1 28 9 (([] ++ (gs.take y.2).map (fun x=>x)).map Cr.cells) ∧ y.2 ≤ gs.length) (.nils, 0) ⟨grow_eq (Grow.start s1 28 9) (by simp), by simp⟩ ?_ ?_
 · refine raw ?_
   repeat (first | (with_reducible refine unr ?_; try simp only [YY, ↓reduceIte, Za, Zb, Zc, reduceCtorEq, Zd, Ze, Zf, Zg, Zh, Zi, Zj]) | (with_reducible refine WW (by decide) ?_))
   rfl
 rintro ⟨v, i⟩ t ⟨hG, hi⟩
 simp only at hi hG
 have he1 := hG.kp.get he
 by_cases hil : i < gs.length
 · have hil' : (i : Int) < (gs.length : Int) := by omega
   have hw := wrap_succ (i := i) (by omega)
   obtain ⟨x, hx⟩ : ∃ x, gs[i]? = some x := ⟨_, List.getElem?_eq_getElem hil⟩
   have hg : (gs.map Cr.cells)[i]? = some (Cr.cells x) := by simp [hx]
   refine raw ?_
   repeat (first | (with_reducible refine unr ?_; try simp only [YY, ↓reduceIte, Za, Zb, Zc, reduceCtorEq, Zd, Ze, Zf, Zg, Zh, Zi, Zj, he1, hil', hg, Cr.len, Cr.len, Cr.take9, Cr.drop9]) | (with_reducible refine WW (by decide) ?_))
   refine ok_grow hG (by simp [Cr.len]) (by simp [List.length_take]; omega) (by simp [List.length_take, maxLen]; omega) ?_
   intro v2 s2 hG2 _ _
   refine raw ?_
   repeat (first | (with_reducible refine unr ?_; try simp only [YY, ↓reduceIte, Za, Zb, Zc, reduceCtorEq, Zd, Ze, Zf, Zg, Zh, Zi, Zj, hw]) | (with_reducible refine WW (by decide) ?_))
   exact ⟨(v2, i + 1), rfl, ⟨grow_eq hG2 (by simp [List.take_add_one, hx]), by simp only; omega⟩, by simp only; omega⟩
 have hil' : ¬ (i : Int) < (gs.length : Int) := by omega
 refine raw ?_
 repeat (first | (with_reducible refine unr ?_; try simp only [YY, ↓reduceIte, Za, Zb, Zc, reduceCtorEq, Zd, Ze, Zf, Zg, Zh, Zi, Zj, he1, hil']) | (with_reducible refine WW (by decide) ?_))
 have hG : Grow s1 t v 28 9 (([] ++ gs.map (fun x=>x)).map Cr.cells) := grow_eq hG (by rw [List.take_of_length_le (by omega)])
 rename Grow _ _ _ _ _ _ => hA
 clear hil hil' hi he1
 refine AWP_while [1, 3, 5] (fun y : AV × Nat => al.length - y.2) (fun y => [.ptr z.next 0 0 0, y.1, .int .i64 y.2]) (fun y t => Grow s1 t y.1 28 9 ((([] ++ gs.map (fun x=>x)) ++ (al.take y.2).map (fun x:AltH×Cr=>x.2)).map Cr.cells) ∧ y.2 ≤ al.length) (v, 0) ⟨grow_eq hA (by simp), by simp⟩ ?_ ?_
 · refine raw ?_
   repeat (first | (with_reducible refine unr ?_; try simp only [YY, ↓reduceIte, Za, Zb, Zc, reduceCtorEq, Zd, Ze, Zf, Zg, Zh, Zi, Zj]) | (with_reducible refine WW (by decide) ?_))
   rfl
 rintro ⟨v, i⟩ t ⟨hG, hi⟩
 simp only at hi hG
 have he1 := hG.kp.get he
 by_cases hil : i < al.length
 · have hil' : (i : Int) < (al.length : Int) := by omega
   have hw := wrap_succ (i := i) (by omega)
   obtain ⟨x, hx⟩ : ∃ x, al[i]? = some x := ⟨_, List.getElem?_eq_getElem hil⟩
   have hg : (al.map altC)[i]? = some (altC x) := by simp [hx]
   refine raw ?_
   repeat (first | (with_reducible refine unr ?_; try simp only [YY, ↓reduceIte, Za, Zb, Zc, reduceCtorEq, Zd, Ze, Zf, Zg, Zh, Zi, Zj, he1, hil', hg, altC, AltH.cells, Cr.len, Cr.take9, Cr.drop9]) | (with_reducible refine WW (by decide) ?_))
   refine ok_grow hG (by simp [Cr.len]) (by simp [List.length_take]; omega) (by simp [List.length_take, maxLen]; omega) ?_
   intro v2 s2 hG2 _ _
   refine raw ?_
   repeat (first | (with_reducible refine unr ?_; try simp only [YY, ↓reduceIte, Za, Zb, Zc, reduceCtorEq, Zd, Ze, Zf, Zg, Zh, Zi, Zj, hw]) | (with_reducible refine WW (by decide) ?_))
   exact ⟨(v2, i + 1), rfl, ⟨grow_eq hG2 (by simp [List.take_add_one, hx]), by simp only; omega⟩, by simp only; omega⟩
 have hil' : ¬ (i : Int) < (al.length : Int) := by omega
 refine raw ?_
 repeat (first | (with_reducible refine unr ?_; try simp only [YY, ↓reduceIte, Za, Zb, Zc, reduceCtorEq, Zd, Ze, Zf, Zg, Zh, Zi, Zj, he1, hil']) | (with_reducible refine WW (by decide) ?_))
 have hG : Grow s1 t v 28 9 ((([] ++ gs.map (fun x=>x)) ++ al.map (fun x:AltH×Cr=>x.2)).map Cr.cells) := grow_eq hG (by rw [List.take_of_length_le (by omega)])
 rename Grow _ _ _ _ _ _ => hB
 clear hil hil' hi he1
 refine AWP_while [1, 3, 6] (fun y : AV × Nat => bs.length - y.2) (fun y => [.ptr z.next 0 0 0, y.1, .int .i64 y.2]) (fun y t => Grow s1 t y.1 28 9 ((([] ++ gs.map (fun x=>x) ++ al.map (fun x:AltH×Cr=>x.2)) ++ (bs.take y.2).map (fun x:ByteArray×Cr=>x.2)).map Cr.cells) ∧ y.2 ≤ bs.length) (v, 0) ⟨grow_eq hB (by simp), by simp⟩ ?_ ?_
 · refine raw ?_
   repeat (first | (with_reducible refine unr ?_; try simp only [YY, ↓reduceIte, Za, Zb, Zc, reduceCtorEq, Zd, Ze, Zf, Zg, Zh, Zi, Zj]) | (with_reducible refine WW (by decide) ?_))
   rfl
 rintro ⟨v, i⟩ t ⟨hG, hi⟩
 simp only at hi hG
 have he1 := hG.kp.get he
 by_cases hil : i < bs.length
 · have hil' : (i : Int) < (bs.length : Int) := by omega
   have hw := wrap_succ (i := i) (by omega)
   obtain ⟨x, hx⟩ : ∃ x, bs[i]? = some x := ⟨_, List.getElem?_eq_getElem hil⟩
   have hg : (bs.map bindC)[i]? = some (bindC x) := by simp [hx]
   refine raw ?_
   repeat (first | (with_reducible refine unr ?_; try simp only [YY, ↓reduceIte, Za, Zb, Zc, reduceCtorEq, Zd, Ze, Zf, Zg, Zh, Zi, Zj, he1, hil', hg, bindC, Cr.len, Cr.take9, Cr.drop9]) | (with_reducible refine WW (by decide) ?_))
   refine ok_grow hG (by simp [Cr.len]) (by simp [List.length_take]; omega) (by simp [List.length_take, maxLen]; omega) ?_
   intro v2 s2 hG2 _ _
   refine raw ?_
   repeat (first | (with_reducible refine unr ?_; try simp only [YY, ↓reduceIte, Za, Zb, Zc, reduceCtorEq, Zd, Ze, Zf, Zg, Zh, Zi, Zj, hw]) | (with_reducible refine WW (by decide) ?_))
   exact ⟨(v2, i + 1), rfl, ⟨grow_eq hG2 (by simp [List.take_add_one, hx]), by simp only; omega⟩, by simp only; omega⟩
 have hil' : ¬ (i : Int) < (bs.length : Int) := by omega
 refine raw ?_
 repeat (first | (with_reducible refine unr ?_; try simp only [YY, ↓reduceIte, Za, Zb, Zc, reduceCtorEq, Zd, Ze, Zf, Zg, Zh, Zi, Zj, he1, hil']) | (with_reducible refine WW (by decide) ?_))
 have hG : Grow s1 t v 28 9 ((([] ++ gs.map (fun x=>x) ++ al.map (fun x:AltH×Cr=>x.2)) ++ bs.map (fun x:ByteArray×Cr=>x.2)).map Cr.cells) := grow_eq hG (by rw [List.take_of_length_le (by omega)])
 rename Grow _ _ _ _ _ _ => hC
 clear hil hil' hi he1
 exact (grow_eq hC (by simp)).sl.out (Crs.frz _ _)
end Go.Proofs.YtgjcnkcepdoedaaGreat
set_option linter.unusedVariables false
set_option linter.unusedSimpArgs false
namespace Go.AL
mutual
def Cr.size : Cr → Nat
 | .mk k nm n ar ps gs al bs pk => 1 + sizeL gs + sizeA al + sizeB bs + sizeP pk
def sizeL : List Cr → Nat
 | [] => 0
 | x :: r => x.size + sizeL r
def sizeA : List (AltH × Cr) → Nat
 | [] => 0
 | (_, x) :: r => x.size + sizeA r
def sizeB : List (ByteArray × Cr) → Nat
 | [] => 0
 | (_, x) :: r => x.size + sizeB r
def sizeP : List (Int × Cr) → Nat
 | [] => 0
 | (_, x) :: r => x.size + sizeP r
end
theorem sizeL_eq : ∀ l : List Cr, sizeL l = (l.map fun x => x.size).sum
 | [] => by simp [sizeL]
 | x :: r => by simp [sizeL, sizeL_eq r]
theorem sizeA_eq : ∀ l : List (AltH × Cr), sizeA l = (l.map fun x => x.2.size).sum
 | [] => by simp [sizeA]
 | (h, x) :: r => by simp [sizeA, sizeA_eq r]
theorem sizeB_eq : ∀ l : List (ByteArray × Cr), sizeB l = (l.map fun x => x.2.size).sum
 | [] => by simp [sizeB]
 | (h, x) :: r => by simp [sizeB, sizeB_eq r]
theorem sizeP_eq : ∀ l : List (Int × Cr), sizeP l = (l.map fun x => x.2.size).sum
 | [] => by simp [sizeP]
 | (h, x) :: r => by simp [sizeP, sizeP_eq r]
theorem Cr.size_eq (k : Int) (nm : ByteArray) (n ar : Int) (ps : List ByteArray) (gs : List Cr) (al : List (AltH × Cr)) (bs : List (ByteArray × Cr)) (pk : List (Int × Cr)) :
 (Cr.mk k nm n ar ps gs al bs pk).size = 1 + (gs.map fun x => x.size).sum + (al.map fun x => x.2.size).sum + (bs.map fun x => x.2.size).sum + (pk.map fun x => x.2.size).sum := by
 rw [Cr.size, sizeL_eq, sizeA_eq, sizeB_eq, sizeP_eq]
theorem Cr.size_pos (x : Cr) : 1 ≤ x.size := by cases x; rw [Cr.size_eq]; omega
theorem le_sum {α : Type} {f : α → Nat} {x : α} : ∀ {l : List α}, x ∈ l → f x ≤ (l.map f).sum
 | a :: l, h => by
  rcases List.mem_cons.1 h with rfl | h
  · simp
  · have := le_sum (f := f) h; simp; omega
theorem len_le_sum {α : Type} {f : α → Nat} (hf : ∀ x, 1 ≤ f x) : ∀ l : List α, l.length ≤ (l.map f).sum
 | [] => by simp
 | a :: l => by have := len_le_sum hf l; have := hf a; simp; omega
theorem take_sum {α : Type} {f : α → Nat} {l : List α} {i : Nat} {x : α} (h : l[i]? = some x) : ((l.take (i + 1)).map f).sum = ((l.take i).map f).sum + f x := by
 rw [List.take_add_one, h]; simp
theorem take_sum_le {α : Type} (f : α → Nat) (l : List α) (i : Nat) : ((l.take i).map f).sum ≤ (l.map f).sum := by
 conv => rhs; rw [← List.take_append_drop i l]
 rw [List.map_append, List.sum_append]
 omega
theorem wrap_add {m n k : Nat} (h : m + n = k) (hk : k < 9223372036854775807) : IntKind.i64.wrap ((m : Int) + (n : Int)) = (k : Int) := by rw [wrap_of (by omega) (by omega)]; omega
theorem Cr.parts_le (x : Cr) : x.partsL.length ≤ x.size := by
 cases x with
 | mk k nm n ar ps gs al bs pk =>
  rw [Cr.size_eq, Cr.partsL]
  have h1 := len_le_sum (f := fun x : Cr => x.size) (fun x : Cr => x.size_pos) gs
  have h2 := len_le_sum (fun x : AltH × Cr => x.2.size_pos) al
  have h3 := len_le_sum (fun x : ByteArray × Cr => x.2.size_pos) bs
  simp only [List.length_append, List.length_map]
  omega
end Go.AL
namespace Go.Proofs.YtgjcnkcepdoedaaGreat
open Go.AL
set_option maxHeartbeats 1000000 in
theorem size_ok : ∀ x : Cr, x.size ≤ 1000000000 → ∀ σ : Store, ACalls Tryz.prog 9 [.agg x.cells] σ fun r σ' => r = .int .i64 x.size ∧ σ' = σ := by
 intro x
 induction x using Cr.ind with
 | _ k nm n ar ps gs al bs pk ih1 ih2 ih3 ih4 =>
  intro hz σ
  refine calls_a (.cons (.agg (Cr.noId _)) .nil) (ACalls.mono (K := fun r _ => r = .int .i64 ((Cr.mk k nm n ar ps gs al bs pk).size)) ?_ fun r s h => by rw [h]; exact .int _ _ _) σ
  rw [Cr.cells_eq]
  rw [Cr.size_eq] at hz ⊢
  have hl1 := len_le_sum (f := fun x : Cr => x.size) (fun x : Cr => x.size_pos) gs
  have hl2 := len_le_sum (fun x : AltH × Cr => x.2.size_pos) al
  have hl3 := len_le_sum (fun x : ByteArray × Cr => x.2.size_pos) bs
  have hl4 := len_le_sum (fun x : Int × Cr => x.2.size_pos) pk
  refine in9 (by simp) ?_
  unfold c9
  generalize Store.empty = z
  refine raw ?_
  repeat (first | (with_reducible refine unr ?_; try simp only [YY, ↓reduceIte, Za, Zb, Zc, reduceCtorEq, Zd, Ze, Zf, Zg, Zh, Zi, Zj]) | (with_reducible refine WW (by decide) ?_))
  generalize hs1 : Store.push _ _ = s1
  have he : s1.get z.next = some (.cells 28 0 9 [[.int .i64 k, .str nm, .int .i64 n, .int .i64 ar, strs ps, .list (gs.map Cr.cells), .list (al.map altC), .list (bs.map bindC), .list (pk.map pickC)]]) := by rw [← hs1]; simp [Store.push_get]
  clear hs1
  refine AWP_while [1, 3, 4] (fun i : Nat => gs.length - i) (fun i => [.ptr z.next 0 0 0, .int .i64 ((1 + ((gs.take i).map (fun x:Cr=>x.size)).sum : Nat) : Int), .int .i64 i]) (fun i t => s1 = t ∧ i ≤ gs.length) 0 ⟨rfl, by simp⟩ ?_ ?_
  · refine raw ?_
    repeat (first | (with_reducible refine unr ?_; try simp only [YY, ↓reduceIte, Za, Zb, Zc, reduceCtorEq, Zd, Ze, Zf, Zg, Zh, Zi, Zj]) | (with_reducible refine WW (by decide) ?_))
    simp
  rintro i t ⟨rfl, hi⟩
  by_cases hil : i < gs.length
  · have hil' : (i : Int) < (gs.length : Int) := by omega
    have hw := wrap_succ (i := i) (by omega)
    obtain ⟨x, hx⟩ : ∃ x, gs[i]? = some x := ⟨_, List.getElem?_eq_getElem hil⟩
    have hg : (gs.map Cr.cells)[i]? = some (Cr.cells x) := by simp [hx]
    have hxm := List.mem_of_getElem? hx
    have hle := le_sum (f := (fun x:Cr=>x.size)) hxm
    have hle2 := take_sum_le (fun x:Cr=>x.size) gs (i + 1)
    have hsum := take_sum (f := (fun x:Cr=>x.size)) hx
    try simp only at hle hsum
    refine raw ?_
    repeat (first | (with_reducible refine unr ?_; try simp only [YY, ↓reduceIte, Za, Zb, Zc, reduceCtorEq, Zd, Ze, Zf, Zg, Zh, Zi, Zj, he, hil', hg, Cr.len, Cr.len, Cr.take9, Cr.drop9]) | (with_reducible refine WW (by decide) ?_))
    refine (ih1 x hxm (by omega) _).mono ?_
    rintro _ _ ⟨rfl, rfl⟩
    have hw2 := wrap_add (m := 1 + ((gs.take i).map (fun x:Cr=>x.size)).sum) (n := x.size) (k := 1 + ((gs.take (i + 1)).map (fun x:Cr=>x.size)).sum) (by omega) (by omega)
    refine raw ?_
    repeat (first | (with_reducible refine unr ?_; try simp only [YY, ↓reduceIte, Za, Zb, Zc, reduceCtorEq, Zd, Ze, Zf, Zg, Zh, Zi, Zj, hw, hw2]) | (with_reducible refine WW (by decide) ?_))
    exact ⟨i + 1, rfl, by omega, by omega⟩
  have hil' : ¬ (i : Int) < (gs.length : Int) := by omega
  refine raw ?_
  repeat (first | (with_reducible refine unr ?_; try simp only [YY, ↓reduceIte, Za, Zb, Zc, reduceCtorEq, Zd, Ze, Zf, Zg, Zh, Zi, Zj, he, hil']) | (with_reducible refine WW (by decide) ?_))
  rw [List.take_of_length_le (l := gs) (by omega)]
  all_goals (clear hil hil' hi)
  refine AWP_while [1, 3, 5] (fun i : Nat => al.length - i) (fun i => [.ptr z.next 0 0 0, .int .i64 (((1+(gs.map fun x=>x.size).sum) + ((al.take i).map (fun x:AltH×Cr=>x.2.size)).sum : Nat) : Int), .int .i64 i]) (fun i t => s1 = t ∧ i ≤ al.length) 0 ⟨rfl, by simp⟩ ?_ ?_
  · refine raw ?_
    repeat (first | (with_reducible refine unr ?_; try simp only [YY, ↓reduceIte, Za, Zb, Zc, reduceCtorEq, Zd, Ze, Zf, Zg, Zh, Zi, Zj]) | (with_reducible refine WW (by decide) ?_))
    simp
  rintro i t ⟨rfl, hi⟩
  by_cases hil : i < al.length
  · have hil' : (i : Int) < (al.length : Int) := by omega
    have hw := wrap_succ (i := i) (by omega)
    obtain ⟨x, hx⟩ : ∃ x, al[i]? = some x := ⟨_, List.getElem?_eq_getElem hil⟩
    have hg : (al.map altC)[i]? = some (altC x) := by simp [hx]
    have hxm := List.mem_of_getElem? hx
    have hle := le_sum (f := (fun x:AltH×Cr=>x.2.size)) hxm
    have hle2 := take_sum_le (fun x:AltH×Cr=>x.2.size) al (i + 1)
    have hsum := take_sum (f := (fun x:AltH×Cr=>x.2.size)) hx
    try simp only at hle hsum
    refine raw ?_
    repeat (first | (with_reducible refine unr ?_; try simp only [YY, ↓reduceIte, Za, Zb, Zc, reduceCtorEq, Zd, Ze, Zf, Zg, Zh, Zi, Zj, he, hil', hg, altC, AltH.cells, Cr.len, Cr.take9, Cr.drop9]) | (with_reducible refine WW (by decide) ?_))
    refine (ih2 x hxm (by omega) _).mono ?_
    rintro _ _ ⟨rfl, rfl⟩
    have hw2 := wrap_add (m := (1+(gs.map fun x=>x.size).sum) + ((al.take i).map (fun x:AltH×Cr=>x.2.size)).sum) (n := x.2.size) (k := (1+(gs.map fun x=>x.size).sum) + ((al.take (i + 1)).map (fun x:AltH×Cr=>x.2.size)).sum) (by omega) (by omega)
    refine raw ?_
    repeat (first | (with_reducible refine unr ?_; try simp only [YY, ↓reduceIte, Za, Zb, Zc, reduceCtorEq, Zd, Ze, Zf, Zg, Zh, Zi, Zj, hw, hw2]) | (with_reducible refine WW (by decide) ?_))
    exact ⟨i + 1, rfl, by omega, by omega⟩
  have hil' : ¬ (i : Int) < (al.length : Int) := by omega
  refine raw ?_
  repeat (first | (with_reducible refine unr ?_; try simp only [YY, ↓reduceIte, Za, Zb, Zc, reduceCtorEq, Zd, Ze, Zf, Zg, Zh, Zi, Zj, he, hil']) | (with_reducible refine WW (by decide) ?_))
  rw [List.take_of_length_le (l := al) (by omega)]
  all_goals (clear hil hil' hi)
  refine AWP_while [1, 3, 6] (fun i : Nat => bs.length - i) (fun i => [.ptr z.next 0 0 0, .int .i64 (((1+(gs.map fun x=>x.size).sum+(al.map fun x=>x.2.size).sum) + ((bs.take i).map (fun x:ByteArray×Cr=>x.2.size)).sum : Nat) : Int), .int .i64 i]) (fun i t => s1 = t ∧ i ≤ bs.length) 0 ⟨rfl, by simp⟩ ?_ ?_
  · refine raw ?_
    repeat (first | (with_reducible refine unr ?_; try simp only [YY, ↓reduceIte, Za, Zb, Zc, reduceCtorEq, Zd, Ze, Zf, Zg, Zh, Zi, Zj]) | (with_reducible refine WW (by decide) ?_))
    simp
  rintro i t ⟨rfl, hi⟩
  by_cases hil : i < bs.length
  · have hil' : (i : Int) < (bs.length : Int) := by omega
    have hw := wrap_succ (i := i) (by omega)
    obtain ⟨x, hx⟩ : ∃ x, bs[i]? = some x := ⟨_, List.getElem?_eq_getElem hil⟩
    have hg : (bs.map bindC)[i]? = some (bindC x) := by simp [hx]
    have hxm := List.mem_of_getElem? hx
    have hle := le_sum (f := (fun x:ByteArray×Cr=>x.2.size)) hxm
    have hle2 := take_sum_le (fun x:ByteArray×Cr=>x.2.size) bs (i + 1)
    have hsum := take_sum (f := (fun x:ByteArray×Cr=>x.2.size)) hx
    try simp only at hle hsum
    refine raw ?_
    repeat (first | (with_reducible refine unr ?_; try simp only [YY, ↓reduceIte, Za, Zb, Zc, reduceCtorEq, Zd, Ze, Zf, Zg, Zh, Zi, Zj, he, hil', hg, bindC, Cr.len, Cr.take9, Cr.drop9]) | (with_reducible refine WW (by decide) ?_))
    refine (ih3 x hxm (by omega) _).mono ?_
    rintro _ _ ⟨rfl, rfl⟩
    have hw2 := wrap_add (m := (1+(gs.map fun x=>x.size).sum+(al.map fun x=>x.2.size).sum) + ((bs.take i).map (fun x:ByteArray×Cr=>x.2.size)).sum) (n := x.2.size) (k := (1+(gs.map fun x=>x.size).sum+(al.map fun x=>x.2.size).sum) + ((bs.take (i + 1)).map (fun x:ByteArray×Cr=>x.2.size)).sum) (by omega) (by omega)
    refine raw ?_
    repeat (first | (with_reducible refine unr ?_; try simp only [YY, ↓reduceIte, Za, Zb, Zc, reduceCtorEq, Zd, Ze, Zf, Zg, Zh, Zi, Zj, hw, hw2]) | (with_reducible refine WW (by decide) ?_))
    exact ⟨i + 1, rfl, by omega, by omega⟩
  have hil' : ¬ (i : Int) < (bs.length : Int) := by omega
  refine raw ?_
  repeat (first | (with_reducible refine unr ?_; try simp only [YY, ↓reduceIte, Za, Zb, Zc, reduceCtorEq, Zd, Ze, Zf, Zg, Zh, Zi, Zj, he, hil']) | (with_reducible refine WW (by decide) ?_))
  rw [List.take_of_length_le (l := bs) (by omega)]
  all_goals (clear hil hil' hi)
  refine AWP_while [1, 3, 7] (fun i : Nat => pk.length - i) (fun i => [.ptr z.next 0 0 0, .int .i64 (((1+(gs.map fun x=>x.size).sum+(al.map fun x=>x.2.size).sum+(bs.map fun x=>x.2.size).sum) + ((pk.take i).map (fun x:Int×Cr=>x.2.size)).sum : Nat) : Int), .int .i64 i]) (fun i t => s1 = t ∧ i ≤ pk.length) 0 ⟨rfl, by simp⟩ ?_ ?_
  · refine raw ?_
    repeat (first | (with_reducible refine unr ?_; try simp only [YY, ↓reduceIte, Za, Zb, Zc, reduceCtorEq, Zd, Ze, Zf, Zg, Zh, Zi, Zj]) | (with_reducible refine WW (by decide) ?_))
    simp
  rintro i t ⟨rfl, hi⟩
  by_cases hil : i < pk.length
  · have hil' : (i : Int) < (pk.length : Int) := by omega
    have hw := wrap_succ (i := i) (by omega)
    obtain ⟨x, hx⟩ : ∃ x, pk[i]? = some x := ⟨_, List.getElem?_eq_getElem hil⟩
    have hg : (pk.map pickC)[i]? = some (pickC x) := by simp [hx]
    have hxm := List.mem_of_getElem? hx
    have hle := le_sum (f := (fun x:Int×Cr=>x.2.size)) hxm
    have hle2 := take_sum_le (fun x:Int×Cr=>x.2.size) pk (i + 1)
    have hsum := take_sum (f := (fun x:Int×Cr=>x.2.size)) hx
    try simp only at hle hsum
    refine raw ?_
    repeat (first | (with_reducible refine unr ?_; try simp only [YY, ↓reduceIte, Za, Zb, Zc, reduceCtorEq, Zd, Ze, Zf, Zg, Zh, Zi, Zj, he, hil', hg, pickC, Cr.len, Cr.take9, Cr.drop9]) | (with_reducible refine WW (by decide) ?_))
    refine (ih4 x hxm (by omega) _).mono ?_
    rintro _ _ ⟨rfl, rfl⟩
    have hw2 := wrap_add (m := (1+(gs.map fun x=>x.size).sum+(al.map fun x=>x.2.size).sum+(bs.map fun x=>x.2.size).sum) + ((pk.take i).map (fun x:Int×Cr=>x.2.size)).sum) (n := x.2.size) (k := (1+(gs.map fun x=>x.size).sum+(al.map fun x=>x.2.size).sum+(bs.map fun x=>x.2.size).sum) + ((pk.take (i + 1)).map (fun x:Int×Cr=>x.2.size)).sum) (by omega) (by omega)
    refine raw ?_
    repeat (first | (with_reducible refine unr ?_; try simp only [YY, ↓reduceIte, Za, Zb, Zc, reduceCtorEq, Zd, Ze, Zf, Zg, Zh, Zi, Zj, hw, hw2]) | (with_reducible refine WW (by decide) ?_))
    exact ⟨i + 1, rfl, by omega, by omega⟩
  have hil' : ¬ (i : Int) < (pk.length : Int) := by omega
  refine raw ?_
  repeat (first | (with_reducible refine unr ?_; try simp only [YY, ↓reduceIte, Za, Zb, Zc, reduceCtorEq, Zd, Ze, Zf, Zg, Zh, Zi, Zj, he, hil']) | (with_reducible refine WW (by decide) ?_))
  rw [List.take_of_length_le (l := pk) (by omega)]
  all_goals (clear hil hil' hi)
end Go.Proofs.YtgjcnkcepdoedaaGreat
set_option linter.unusedVariables false
set_option linter.unusedSimpArgs false
namespace Go.AL
def Cr.picksL : Cr → List (Int × Cr)
 | .mk k nm n ar ps gs al bs pk => pk
theorem Cr.ind2 {p : Cr → Prop} (h : ∀ x : Cr, (∀ y, y ∈ x.partsL → p y) → (∀ y, y ∈ x.picksL → p y.2) → p x) (x : Cr) : p x := by
 induction x using Cr.ind with
 | _ k nm n ar ps gs al bs pk h1 h2 h3 h4 =>
  refine h _ (fun y hy => ?_) h4
  simp only [Cr.partsL, List.mem_append, List.mem_map] at hy
  rcases hy with (hy | ⟨z, hz, rfl⟩) | ⟨z, hz, rfl⟩
  · exact h1 y hy
  · exact h2 z hz
  · exact h3 z hz
mutual
def Cr.pts : Cr → Nat
 | .mk k nm n ar ps gs al bs pk => (if k = 11 then 1 else 0) + ptsL gs + ptsA al + ptsB bs + ptsP pk
def ptsL : List Cr → Nat
 | [] => 0
 | x :: r => x.pts + ptsL r
def ptsA : List (AltH × Cr) → Nat
 | [] => 0
 | (_, x) :: r => x.pts + ptsA r
def ptsB : List (ByteArray × Cr) → Nat
 | [] => 0
 | (_, x) :: r => x.pts + ptsB r
def ptsP : List (Int × Cr) → Nat
 | [] => 0
 | (_, x) :: r => x.pts + ptsP r
end
theorem ptsL_eq : ∀ l : List Cr, ptsL l = (l.map fun x => x.pts).sum
 | [] => by simp [ptsL]
 | x :: r => by simp [ptsL, ptsL_eq r]
theorem ptsA_eq : ∀ l : List (AltH × Cr), ptsA l = (l.map fun x => x.2.pts).sum
 | [] => by simp [ptsA]
 | (h, x) :: r => by simp [ptsA, ptsA_eq r]
theorem ptsB_eq : ∀ l : List (ByteArray × Cr), ptsB l = (l.map fun x => x.2.pts).sum
 | [] => by simp [ptsB]
 | (h, x) :: r => by simp [ptsB, ptsB_eq r]
theorem ptsP_eq : ∀ l : List (Int × Cr), ptsP l = (l.map fun x => x.2.pts).sum
 | [] => by simp [ptsP]
 | (h, x) :: r => by simp [ptsP, ptsP_eq r]
theorem Cr.pts_eq (k : Int) (nm : ByteArray) (n ar : Int) (ps : List ByteArray) (gs : List Cr) (al : List (AltH × Cr)) (bs : List (ByteArray × Cr)) (pk : List (Int × Cr)) :
 (Cr.mk k nm n ar ps gs al bs pk).pts = (if k = 11 then 1 else 0) + (gs.map fun x => x.pts).sum + (al.map fun x => x.2.pts).sum + (bs.map fun x => x.2.pts).sum + (pk.map fun x => x.2.pts).sum := by
 rw [Cr.pts, ptsL_eq, ptsA_eq, ptsB_eq, ptsP_eq]
theorem sum_le {α : Type} {f g : α → Nat} : ∀ {l : List α}, (∀ x, x ∈ l → f x ≤ g x) → (l.map f).sum ≤ (l.map g).sum
 | [], _ => by simp
 | a :: l, h => by
  have h1 := h a (by simp)
  have h2 := sum_le (f := f) (g := g) (l := l) fun x hx => h x (by simp [hx])
  simp; omega
theorem Cr.pts_le (x : Cr) : x.pts ≤ x.size := by
 induction x using Cr.ind with
 | _ k nm n ar ps gs al bs pk h1 h2 h3 h4 =>
  rw [Cr.pts_eq, Cr.size_eq]
  have := sum_le (f := fun x : Cr => x.pts) (g := fun x : Cr => x.size) h1
  have := sum_le h2
  have := sum_le h3
  have := sum_le h4
  split <;> omega
theorem Cr.pts_parts (x : Cr) : x.pts = (match x with | .mk k nm n ar ps gs al bs pk => if k = 11 then 1 else 0) + (x.partsL.map fun x => x.pts).sum + (x.picksL.map fun x => x.2.pts).sum := by
 cases x with
 | mk k nm n ar ps gs al bs pk =>
  rw [Cr.pts_eq]
  simp only [Cr.partsL, Cr.picksL, List.map_append, List.sum_append, List.map_map, Function.comp_def]
  omega
theorem Cr.size_parts (x : Cr) : x.size = 1 + (x.partsL.map fun x => x.size).sum + (x.picksL.map fun x => x.2.size).sum := by
 cases x with
 | mk k nm n ar ps gs al bs pk =>
  rw [Cr.size_eq]
  simp only [Cr.partsL, Cr.picksL, List.map_append, List.sum_append, List.map_map, Function.comp_def]
  omega
end Go.AL
namespace Go.Proofs.YtgjcnkcepdoedaaGreat
open Go.AL
set_option maxHeartbeats 1000000 in
theorem points_ok : ∀ x : Cr, x.size ≤ 1000000000 → ∀ σ : Store, ACalls Tryz.prog 22 [.agg x.cells] σ fun r σ' => r = .int .i64 x.pts ∧ σ' = σ := by
 intro x
 induction x using Cr.ind with
 | _ k nm n ar ps gs al bs pk ih1 ih2 ih3 ih4 =>
  intro hz σ
  refine calls_a (.cons (.agg (Cr.noId _)) .nil) (ACalls.mono (K := fun r _ => r = .int .i64 ((Cr.mk k nm n ar ps gs al bs pk).pts)) ?_ fun r s h => by rw [h]; exact .int _ _ _) σ
  have hb := (Cr.mk k nm n ar ps gs al bs pk).pts_le
  rw [Cr.cells_eq]
  rw [Cr.size_eq] at hz hb
  rw [Cr.pts_eq] at hb ⊢
  have hl1 := len_le_sum (f := fun x : Cr => x.size) (fun x : Cr => x.size_pos) gs
  have hl2 := len_le_sum (fun x : AltH × Cr => x.2.size_pos) al
  have hl3 := len_le_sum (fun x : ByteArray × Cr => x.2.size_pos) bs
  have hl4 := len_le_sum (fun x : Int × Cr => x.2.size_pos) pk
  refine in22 (by simp) ?_
  unfold c22
  generalize Store.empty = z
  try simp only [YY, ↓reduceIte, Za, Zb, Zc, reduceCtorEq, Zd, Ze, Zf, Zg, Zh, Zi, Zj]
  iterate 4 ((with_reducible refine WW (by decide) ?_); refine unr ?_; try simp only [YY, ↓reduceIte, Za, Zb, Zc, reduceCtorEq, Zd, Ze, Zf, Zg, Zh, Zi, Zj])
  generalize hs1 : Store.push _ _ = s1
  have he : s1.get z.next = some (.cells 28 0 9 [[.int .i64 k, .str nm, .int .i64 n, .int .i64 ar, strs ps, .list (gs.map Cr.cells), .list (al.map altC), .list (bs.map bindC), .list (pk.map pickC)]]) := by rw [← hs1]; simp [Store.push_get]
  clear hs1
  refine AWP_cut [1, 3] (fun _ : Unit => [.ptr z.next 0 0 0, .int .i64 (((if k = 11 then 1 else 0) : Nat) : Int)]) (fun _ s => s1 = s) ?_ ?_
  · refine raw ?_
    repeat' (first | (with_reducible refine unr ?_; try simp only [YY, ↓reduceIte, Za, Zb, Zc, reduceCtorEq, Zd, Ze, Zf, Zg, Zh, Zi, Zj, he, str_nil, *]) | (with_reducible first | refine WW (by decide) ?_ | refine ok_idx (by first | assumption | omega) (fun b hb => raw ?_) | refine ok_iad (by first | assumption | omega) (fun x hx hxm => raw ?_) | refine And.intro (by omega) (raw ?_) | (refine guardW_b (fun h => raw ?_) (fun h => raw ?_) <;> try simp only [Ty] at h) | (refine ePick_b (fun h => raw ?_) (fun h => raw ?_) <;> try simp only [Ty] at h) | (refine condW_b (fun h => raw ?_) (fun h => raw ?_) <;> try simp only [Ty] at h)))
    all_goals (refine ⟨(), ?_⟩; clear ih1 ih2 ih3 ih4 hz hb hl1 hl2 hl3 hl4; simp_all)
  rintro _ _ rfl
  generalize hn0 : (if k = 11 then 1 else 0) = n0
  rw [hn0] at hb
  refine raw ?_
  repeat (first | (with_reducible refine unr ?_; try simp only [YY, ↓reduceIte, Za, Zb, Zc, reduceCtorEq, Zd, Ze, Zf, Zg, Zh, Zi, Zj, he]) | (with_reducible refine WW (by decide) ?_))
  refine AWP_while [1, 3, 16, 17, 18] (fun i : Nat => gs.length - i) (fun i => [.ptr z.next 0 0 0, .int .i64 ((n0 + ((gs.take i).map (fun x:Cr=>x.pts)).sum : Nat) : Int), .list (gs.map Cr.cells), .int .i64 gs.length, .int .i64 i]) (fun i t => Kp s1 t ∧ i ≤ gs.length) 0 ⟨.refl _, by simp⟩ ?_ ?_
  · refine raw ?_
    repeat (first | (with_reducible refine unr ?_; try simp only [YY, ↓reduceIte, Za, Zb, Zc, reduceCtorEq, Zd, Ze, Zf, Zg, Zh, Zi, Zj]) | (with_reducible refine WW (by decide) ?_))
    simp
  rintro i t ⟨hK, hi⟩
  have he1 := hK.get he
  have hq := lt_ne (t.lt he1)
  by_cases hil : i < gs.length
  · have hil' : (i : Int) < (gs.length : Int) := by omega
    have hw := wrap_succ (i := i) (by omega)
    obtain ⟨x, hx⟩ : ∃ x, gs[i]? = some x := ⟨_, List.getElem?_eq_getElem hil⟩
    have hg : (gs.map Cr.cells)[i]? = some (Cr.cells x) := by simp [hx]
    have hxm := List.mem_of_getElem? hx
    have hle := le_sum (f := (fun x:Cr=>x.pts)) hxm
    have hle2 := take_sum_le (fun x:Cr=>x.pts) gs (i + 1)
    have hsum := take_sum (f := (fun x:Cr=>x.pts)) hx
    have hsz := le_sum (f := (fun x:Cr=>x.size)) hxm
    try simp only at hle hsum hsz
    refine raw ?_
    repeat (first | (with_reducible refine unr ?_; try simp only [YY, ↓reduceIte, Za, Zb, Zc, reduceCtorEq, Zd, Ze, Zf, Zg, Zh, Zi, Zj, he1, hil', hg, Cr.len, Cr.len, Cr.take9, Cr.drop9, hq]) | (with_reducible refine WW (by decide) ?_))
    refine (ih1 x hxm (by omega) _).mono ?_
    rintro _ _ ⟨rfl, rfl⟩
    have hw2 := wrap_add (m := n0 + ((gs.take i).map (fun x:Cr=>x.pts)).sum) (n := x.pts) (k := n0 + ((gs.take (i + 1)).map (fun x:Cr=>x.pts)).sum) (by omega) (by omega)
    refine raw ?_
    repeat (first | (with_reducible refine unr ?_; try simp only [YY, ↓reduceIte, Za, Zb, Zc, reduceCtorEq, Zd, Ze, Zf, Zg, Zh, Zi, Zj, hw, hw2]) | (with_reducible refine WW (by decide) ?_))
    exact ⟨i + 1, rfl, ⟨hK.push _, by omega⟩, by omega⟩
  have hil' : ¬ (i : Int) < (gs.length : Int) := by omega
  refine raw ?_
  repeat (first | (with_reducible refine unr ?_; try simp only [YY, ↓reduceIte, Za, Zb, Zc, reduceCtorEq, Zd, Ze, Zf, Zg, Zh, Zi, Zj, he1, hil']) | (with_reducible refine WW (by decide) ?_))
  rw [List.take_of_length_le (l := gs) (by omega)]
  all_goals (clear hil hil' hi)
  refine AWP_while [1, 3, 28, 29, 30] (fun i : Nat => al.length - i) (fun i => [.ptr z.next 0 0 0, .int .i64 (((n0+(gs.map fun x=>x.pts).sum) + ((al.take i).map (fun x:AltH×Cr=>x.2.pts)).sum : Nat) : Int), .list (al.map altC), .int .i64 al.length, .int .i64 i]) (fun i t => Kp s1 t ∧ i ≤ al.length) 0 ⟨hK, by simp⟩ ?_ ?_
  · refine raw ?_
    repeat (first | (with_reducible refine unr ?_; try simp only [YY, ↓reduceIte, Za, Zb, Zc, reduceCtorEq, Zd, Ze, Zf, Zg, Zh, Zi, Zj]) | (with_reducible refine WW (by decide) ?_))
    simp
  rintro i t ⟨hK, hi⟩
  have he1 := hK.get he
  have hq := lt_ne (t.lt he1)
  by_cases hil : i < al.length
  · have hil' : (i : Int) < (al.length : Int) := by omega
    have hw := wrap_succ (i := i) (by omega)
    obtain ⟨x, hx⟩ : ∃ x, al[i]? = some x := ⟨_, List.getElem?_eq_getElem hil⟩
    have hg : (al.map altC)[i]? = some (altC x) := by simp [hx]
    have hxm := List.mem_of_getElem? hx
    have hle := le_sum (f := (fun x:AltH×Cr=>x.2.pts)) hxm
    have hle2 := take_sum_le (fun x:AltH×Cr=>x.2.pts) al (i + 1)
    have hsum := take_sum (f := (fun x:AltH×Cr=>x.2.pts)) hx
    have hsz := le_sum (f := (fun x:AltH×Cr=>x.2.size)) hxm
    try simp only at hle hsum hsz
    refine raw ?_
    repeat (first | (with_reducible refine unr ?_; try simp only [YY, ↓reduceIte, Za, Zb, Zc, reduceCtorEq, Zd, Ze, Zf, Zg, Zh, Zi, Zj, he1, hil', hg, altC, AltH.cells, Cr.len, Cr.take9, Cr.drop9, hq]) | (with_reducible refine WW (by decide) ?_))
    refine (ih2 x hxm (by omega) _).mono ?_
    rintro _ _ ⟨rfl, rfl⟩
    have hw2 := wrap_add (m := (n0+(gs.map fun x=>x.pts).sum) + ((al.take i).map (fun x:AltH×Cr=>x.2.pts)).sum) (n := x.2.pts) (k := (n0+(gs.map fun x=>x.pts).sum) + ((al.take (i + 1)).map (fun x:AltH×Cr=>x.2.pts)).sum) (by omega) (by omega)
    refine raw ?_
    repeat (first | (with_reducible refine unr ?_; try simp only [YY, ↓reduceIte, Za, Zb, Zc, reduceCtorEq, Zd, Ze, Zf, Zg, Zh, Zi, Zj, hw, hw2]) | (with_reducible refine WW (by decide) ?_))
    exact ⟨i + 1, rfl, ⟨hK.push _, by omega⟩, by omega⟩
  have hil' : ¬ (i : Int) < (al.length : Int) := by omega
  refine raw ?_
  repeat (first | (with_reducible refine unr ?_; try simp only [YY, ↓reduceIte, Za, Zb, Zc, reduceCtorEq, Zd, Ze, Zf, Zg, Zh, Zi, Zj, he1, hil']) | (with_reducible refine WW (by decide) ?_))
  rw [List.take_of_length_le (l := al) (by omega)]
  all_goals (clear hil hil' hi)
  refine AWP_while [1, 3, 41, 42, 43] (fun i : Nat => bs.length - i) (fun i => [.ptr z.next 0 0 0, .int .i64 (((n0+(gs.map fun x=>x.pts).sum+(al.map fun x=>x.2.pts).sum) + ((bs.take i).map (fun x:ByteArray×Cr=>x.2.pts)).sum : Nat) : Int), .list (bs.map bindC), .int .i64 bs.length, .int .i64 i]) (fun i t => Kp s1 t ∧ i ≤ bs.length) 0 ⟨hK, by simp⟩ ?_ ?_
  · refine raw ?_
    repeat (first | (with_reducible refine unr ?_; try simp only [YY, ↓reduceIte, Za, Zb, Zc, reduceCtorEq, Zd, Ze, Zf, Zg, Zh, Zi, Zj]) | (with_reducible refine WW (by decide) ?_))
    simp
  rintro i t ⟨hK, hi⟩
  have he1 := hK.get he
  have hq := lt_ne (t.lt he1)
  by_cases hil : i < bs.length
  · have hil' : (i : Int) < (bs.length : Int) := by omega
    have hw := wrap_succ (i := i) (by omega)
    obtain ⟨x, hx⟩ : ∃ x, bs[i]? = some x := ⟨_, List.getElem?_eq_getElem hil⟩
    have hg : (bs.map bindC)[i]? = some (bindC x) := by simp [hx]
    have hxm := List.mem_of_getElem? hx
    have hle := le_sum (f := (fun x:ByteArray×Cr=>x.2.pts)) hxm
    have hle2 := take_sum_le (fun x:ByteArray×Cr=>x.2.pts) bs (i + 1)
    have hsum := take_sum (f := (fun x:ByteArray×Cr=>x.2.pts)) hx
    have hsz := le_sum (f := (fun x:ByteArray×Cr=>x.2.size)) hxm
    try simp only at hle hsum hsz
    refine raw ?_
    repeat (first | (with_reducible refine unr ?_; try simp only [YY, ↓reduceIte, Za, Zb, Zc, reduceCtorEq, Zd, Ze, Zf, Zg, Zh, Zi, Zj, he1, hil', hg, bindC, Cr.len, Cr.take9, Cr.drop9, hq]) | (with_reducible refine WW (by decide) ?_))
    refine (ih3 x hxm (by omega) _).mono ?_
    rintro _ _ ⟨rfl, rfl⟩
    have hw2 := wrap_add (m := (n0+(gs.map fun x=>x.pts).sum+(al.map fun x=>x.2.pts).sum) + ((bs.take i).map (fun x:ByteArray×Cr=>x.2.pts)).sum) (n := x.2.pts) (k := (n0+(gs.map fun x=>x.pts).sum+(al.map fun x=>x.2.pts).sum) + ((bs.take (i + 1)).map (fun x:ByteArray×Cr=>x.2.pts)).sum) (by omega) (by omega)
    refine raw ?_
    repeat (first | (with_reducible refine unr ?_; try simp only [YY, ↓reduceIte, Za, Zb, Zc, reduceCtorEq, Zd, Ze, Zf, Zg, Zh, Zi, Zj, hw, hw2]) | (with_reducible refine WW (by decide) ?_))
    exact ⟨i + 1, rfl, ⟨hK.push _, by omega⟩, by omega⟩
  have hil' : ¬ (i : Int) < (bs.length : Int) := by omega
  refine raw ?_
  repeat (first | (with_reducible refine unr ?_; try simp only [YY, ↓reduceIte, Za, Zb, Zc, reduceCtorEq, Zd, Ze, Zf, Zg, Zh, Zi, Zj, he1, hil']) | (with_reducible refine WW (by decide) ?_))
  rw [List.take_of_length_le (l := bs) (by omega)]
  all_goals (clear hil hil' hi)
  refine AWP_while [1, 3, 54, 55, 56] (fun i : Nat => pk.length - i) (fun i => [.ptr z.next 0 0 0, .int .i64 (((n0+(gs.map fun x=>x.pts).sum+(al.map fun x=>x.2.pts).sum+(bs.map fun x=>x.2.pts).sum) + ((pk.take i).map (fun x:Int×Cr=>x.2.pts)).sum : Nat) : Int), .list (pk.map pickC), .int .i64 pk.length, .int .i64 i]) (fun i t => Kp s1 t ∧ i ≤ pk.length) 0 ⟨hK, by simp⟩ ?_ ?_
  · refine raw ?_
    repeat (first | (with_reducible refine unr ?_; try simp only [YY, ↓reduceIte, Za, Zb, Zc, reduceCtorEq, Zd, Ze, Zf, Zg, Zh, Zi, Zj]) | (with_reducible refine WW (by decide) ?_))
    simp
  rintro i t ⟨hK, hi⟩
  have he1 := hK.get he
  have hq := lt_ne (t.lt he1)
  by_cases hil : i < pk.length
  · have hil' : (i : Int) < (pk.length : Int) := by omega
    have hw := wrap_succ (i := i) (by omega)
    obtain ⟨x, hx⟩ : ∃ x, pk[i]? = some x := ⟨_, List.getElem?_eq_getElem hil⟩
    have hg : (pk.map pickC)[i]? = some (pickC x) := by simp [hx]
    have hxm := List.mem_of_getElem? hx
    have hle := le_sum (f := (fun x:Int×Cr=>x.2.pts)) hxm
    have hle2 := take_sum_le (fun x:Int×Cr=>x.2.pts) pk (i + 1)
    have hsum := take_sum (f := (fun x:Int×Cr=>x.2.pts)) hx
    have hsz := le_sum (f := (fun x:Int×Cr=>x.2.size)) hxm
    try simp only at hle hsum hsz
    refine raw ?_
    repeat (first | (with_reducible refine unr ?_; try simp only [YY, ↓reduceIte, Za, Zb, Zc, reduceCtorEq, Zd, Ze, Zf, Zg, Zh, Zi, Zj, he1, hil', hg, pickC, Cr.len, Cr.take9, Cr.drop9, hq]) | (with_reducible refine WW (by decide) ?_))
    refine (ih4 x hxm (by omega) _).mono ?_
    rintro _ _ ⟨rfl, rfl⟩
    have hw2 := wrap_add (m := (n0+(gs.map fun x=>x.pts).sum+(al.map fun x=>x.2.pts).sum+(bs.map fun x=>x.2.pts).sum) + ((pk.take i).map (fun x:Int×Cr=>x.2.pts)).sum) (n := x.2.pts) (k := (n0+(gs.map fun x=>x.pts).sum+(al.map fun x=>x.2.pts).sum+(bs.map fun x=>x.2.pts).sum) + ((pk.take (i + 1)).map (fun x:Int×Cr=>x.2.pts)).sum) (by omega) (by omega)
    refine raw ?_
    repeat (first | (with_reducible refine unr ?_; try simp only [YY, ↓reduceIte, Za, Zb, Zc, reduceCtorEq, Zd, Ze, Zf, Zg, Zh, Zi, Zj, hw, hw2]) | (with_reducible refine WW (by decide) ?_))
    exact ⟨i + 1, rfl, ⟨hK.push _, by omega⟩, by omega⟩
  have hil' : ¬ (i : Int) < (pk.length : Int) := by omega
  refine raw ?_
  repeat (first | (with_reducible refine unr ?_; try simp only [YY, ↓reduceIte, Za, Zb, Zc, reduceCtorEq, Zd, Ze, Zf, Zg, Zh, Zi, Zj, he1, hil']) | (with_reducible refine WW (by decide) ?_))
  rw [List.take_of_length_le (l := pk) (by omega)]
  all_goals (clear hil hil' hi)
end Go.Proofs.YtgjcnkcepdoedaaGreat
set_option linter.unusedVariables false
set_option linter.unusedSimpArgs false
namespace Go.AL
end Go.AL
namespace Go.Proofs.YtgjcnkcepdoedaaGreat
open Go.AL
end Go.Proofs.YtgjcnkcepdoedaaGreat
set_option linter.unusedVariables false
set_option linter.unusedSimpArgs false
namespace Go.Proofs.YtgjcnkcepdoedaaGreat
open Go.AL
set_option maxHeartbeats 1000000 in
theorem pointsD_ok : ∀ x : Cr, x.size ≤ 100000000 → ∀ σ : Store, ACalls Tryz.prog 11 [.agg x.cells] σ fun r σ' => r = .int .i64 x.pts ∧ σ' = σ := by
 intro x
 induction x using Cr.ind2 with
 | _ x ih1 ih2 =>
  intro hz σ
  refine calls_a (.cons (.agg (Cr.noId _)) .nil) (ACalls.mono (K := fun r _ => r = .int .i64 x.pts) ?_ fun r s h => by rw [h]; exact .int _ _ _) σ
  have hpl := x.parts_le
  have hp := parts_ok x (by omega)
  have hszp := x.size_parts
  have hb := x.pts_le
  rw [x.pts_parts] at hb ⊢
  generalize hQ : x.partsL = Q at *
  generalize hR : x.picksL = R at *
  obtain ⟨k, nm, n, ar, ps, gs, al, bs, pk⟩ := x
  simp only [Cr.picksL] at hR
  subst hR
  rw [Cr.cells_eq] at hp ⊢
  simp only at hb ⊢
  have hl1 := len_le_sum (f := fun x : Int × Cr => x.2.size) (fun x : Int × Cr => x.2.size_pos) pk
  refine in11 (by simp) ?_
  unfold c11
  generalize Store.empty = z
  try simp only [YY, ↓reduceIte, Za, Zb, Zc, reduceCtorEq, Zd, Ze, Zf, Zg, Zh, Zi, Zj]
  iterate 4 ((with_reducible refine WW (by decide) ?_); refine unr ?_; try simp only [YY, ↓reduceIte, Za, Zb, Zc, reduceCtorEq, Zd, Ze, Zf, Zg, Zh, Zi, Zj])
  generalize hs1 : Store.push _ _ = s1
  have he : s1.get z.next = some (.cells 28 0 9 [[.int .i64 k, .str nm, .int .i64 n, .int .i64 ar, strs ps, .list (gs.map Cr.cells), .list (al.map altC), .list (bs.map bindC), .list (pk.map pickC)]]) := by rw [← hs1]; simp [Store.push_get]
  clear hs1
  refine AWP_cut [1, 3] (fun _ : Unit => [.ptr z.next 0 0 0, .int .i64 (((if k = 11 then 1 else 0) : Nat) : Int)]) (fun _ s => s1 = s) ?_ ?_
  · refine raw ?_
    repeat' (first | (with_reducible refine unr ?_; try simp only [YY, ↓reduceIte, Za, Zb, Zc, reduceCtorEq, Zd, Ze, Zf, Zg, Zh, Zi, Zj, he, str_nil, *]) | (with_reducible first | refine WW (by decide) ?_ | refine ok_idx (by first | assumption | omega) (fun b hb => raw ?_) | refine ok_iad (by first | assumption | omega) (fun x hx hxm => raw ?_) | refine And.intro (by omega) (raw ?_) | (refine guardW_b (fun h => raw ?_) (fun h => raw ?_) <;> try simp only [Ty] at h) | (refine ePick_b (fun h => raw ?_) (fun h => raw ?_) <;> try simp only [Ty] at h) | (refine condW_b (fun h => raw ?_) (fun h => raw ?_) <;> try simp only [Ty] at h)))
    all_goals (refine ⟨(), ?_⟩; clear ih1 ih2 hz hb hl1 hszp hpl hp; simp_all)
  rintro _ _ rfl
  generalize hn0 : (if k = 11 then 1 else 0) = n0
  rw [hn0] at hb
  refine raw ?_
  repeat (first | (with_reducible refine unr ?_; try simp only [YY, ↓reduceIte, Za, Zb, Zc, reduceCtorEq, Zd, Ze, Zf, Zg, Zh, Zi, Zj, he]) | (with_reducible refine WW (by decide) ?_))
  refine (hp _).mono ?_
  rintro _ s1 ⟨rfl, rfl⟩
  refine raw ?_
  repeat (first | (with_reducible refine unr ?_; try simp only [YY, ↓reduceIte, Za, Zb, Zc, reduceCtorEq, Zd, Ze, Zf, Zg, Zh, Zi, Zj]) | (with_reducible refine WW (by decide) ?_))
  refine AWP_while [1, 3, 4, 5] (fun i : Nat => Q.length - i) (fun i => [.ptr z.next 0 0 0, .int .i64 ((n0 + ((Q.take i).map (fun x:Cr=>x.pts)).sum : Nat) : Int), .list (Q.map Cr.cells), .int .i64 i]) (fun i t => s1 = t ∧ i ≤ Q.length) 0 ⟨rfl, by simp⟩ ?_ ?_
  · refine raw ?_
    repeat (first | (with_reducible refine unr ?_; try simp only [YY, ↓reduceIte, Za, Zb, Zc, reduceCtorEq, Zd, Ze, Zf, Zg, Zh, Zi, Zj]) | (with_reducible refine WW (by decide) ?_))
    simp
  rintro i t ⟨rfl, hi⟩
  by_cases hil : i < Q.length
  · have hil' : (i : Int) < (Q.length : Int) := by omega
    have hw := wrap_succ (i := i) (by omega)
    obtain ⟨x, hx⟩ : ∃ x, Q[i]? = some x := ⟨_, List.getElem?_eq_getElem hil⟩
    have hg : (Q.map Cr.cells)[i]? = some (Cr.cells x) := by simp [hx]
    have hxm := List.mem_of_getElem? hx
    have hle := le_sum (f := (fun x:Cr=>x.pts)) hxm
    have hle2 := take_sum_le (fun x:Cr=>x.pts) Q (i + 1)
    have hsum := take_sum (f := (fun x:Cr=>x.pts)) hx
    have hsz := le_sum (f := (fun x:Cr=>x.size)) hxm
    try simp only at hle hsum hsz
    refine raw ?_
    repeat (first | (with_reducible refine unr ?_; try simp only [YY, ↓reduceIte, Za, Zb, Zc, reduceCtorEq, Zd, Ze, Zf, Zg, Zh, Zi, Zj, he, hil', hg, Cr.len, Cr.len, Cr.take9, Cr.drop9]) | (with_reducible refine WW (by decide) ?_))
    refine (ih1 x hxm (by omega) _).mono ?_
    rintro _ _ ⟨rfl, rfl⟩
    have hw2 := wrap_add (m := n0 + ((Q.take i).map (fun x:Cr=>x.pts)).sum) (n := x.pts) (k := n0 + ((Q.take (i + 1)).map (fun x:Cr=>x.pts)).sum) (by omega) (by omega)
    refine raw ?_
    repeat (first | (with_reducible refine unr ?_; try simp only [YY, ↓reduceIte, Za, Zb, Zc, reduceCtorEq, Zd, Ze, Zf, Zg, Zh, Zi, Zj, hw, hw2]) | (with_reducible refine WW (by decide) ?_))
    exact ⟨i + 1, rfl, by omega, by omega⟩
  have hil' : ¬ (i : Int) < (Q.length : Int) := by omega
  refine raw ?_
  repeat (first | (with_reducible refine unr ?_; try simp only [YY, ↓reduceIte, Za, Zb, Zc, reduceCtorEq, Zd, Ze, Zf, Zg, Zh, Zi, Zj, he, hil']) | (with_reducible refine WW (by decide) ?_))
  rw [List.take_of_length_le (l := Q) (by omega)]
  all_goals (clear hil hil' hi)
  refine AWP_while [1, 3, 6] (fun i : Nat => pk.length - i) (fun i => [.ptr z.next 0 0 0, .int .i64 (((n0+(Q.map fun x=>x.pts).sum) + ((pk.take i).map (fun x:Int×Cr=>x.2.pts)).sum : Nat) : Int),  .int .i64 i]) (fun i t => s1 = t ∧ i ≤ pk.length) 0 ⟨rfl, by simp⟩ ?_ ?_
  · refine raw ?_
    repeat (first | (with_reducible refine unr ?_; try simp only [YY, ↓reduceIte, Za, Zb, Zc, reduceCtorEq, Zd, Ze, Zf, Zg, Zh, Zi, Zj]) | (with_reducible refine WW (by decide) ?_))
    simp
  rintro i t ⟨rfl, hi⟩
  by_cases hil : i < pk.length
  · have hil' : (i : Int) < (pk.length : Int) := by omega
    have hw := wrap_succ (i := i) (by omega)
    obtain ⟨x, hx⟩ : ∃ x, pk[i]? = some x := ⟨_, List.getElem?_eq_getElem hil⟩
    have hg : (pk.map pickC)[i]? = some (pickC x) := by simp [hx]
    have hxm := List.mem_of_getElem? hx
    have hle := le_sum (f := (fun x:Int×Cr=>x.2.pts)) hxm
    have hle2 := take_sum_le (fun x:Int×Cr=>x.2.pts) pk (i + 1)
    have hsum := take_sum (f := (fun x:Int×Cr=>x.2.pts)) hx
    have hsz := le_sum (f := (fun x:Int×Cr=>x.2.size)) hxm
    try simp only at hle hsum hsz
    refine raw ?_
    repeat (first | (with_reducible refine unr ?_; try simp only [YY, ↓reduceIte, Za, Zb, Zc, reduceCtorEq, Zd, Ze, Zf, Zg, Zh, Zi, Zj, he, hil', hg, pickC, Cr.len, Cr.take9, Cr.drop9]) | (with_reducible refine WW (by decide) ?_))
    refine (ih2 x hxm (by omega) _).mono ?_
    rintro _ _ ⟨rfl, rfl⟩
    have hw2 := wrap_add (m := (n0+(Q.map fun x=>x.pts).sum) + ((pk.take i).map (fun x:Int×Cr=>x.2.pts)).sum) (n := x.2.pts) (k := (n0+(Q.map fun x=>x.pts).sum) + ((pk.take (i + 1)).map (fun x:Int×Cr=>x.2.pts)).sum) (by omega) (by omega)
    refine raw ?_
    repeat (first | (with_reducible refine unr ?_; try simp only [YY, ↓reduceIte, Za, Zb, Zc, reduceCtorEq, Zd, Ze, Zf, Zg, Zh, Zi, Zj, hw, hw2]) | (with_reducible refine WW (by decide) ?_))
    exact ⟨i + 1, rfl, by omega, by omega⟩
  have hil' : ¬ (i : Int) < (pk.length : Int) := by omega
  refine raw ?_
  repeat (first | (with_reducible refine unr ?_; try simp only [YY, ↓reduceIte, Za, Zb, Zc, reduceCtorEq, Zd, Ze, Zf, Zg, Zh, Zi, Zj, he, hil']) | (with_reducible refine WW (by decide) ?_))
  rw [List.take_of_length_le (l := pk) (by omega)]
  all_goals (clear hil hil' hi)
theorem pointsS_ok (s : ByteArray) (x : Cr) (hz : x.size ≤ 100000000) (σ : Store) : ACalls Tryz.prog 10 [.list [.str s :: x.cells]] σ fun r σ' => r = .int .i64 x.pts ∧ σ' = σ := by
 refine calls_a (.cons (.list (.cons (.cons (.str _) x.noId) .nil)) .nil) (ACalls.mono (K := fun r _ => r = .int .i64 x.pts) ?_ fun r s h => by rw [h]; exact .int _ _ _) σ
 refine in10 (by simp) ?_
 unfold c10
 generalize Store.empty = z
 have hp := points_ok x (by omega)
 have hle := x.pts_le
 refine raw ?_
 repeat (first | (with_reducible refine unr ?_; try simp only [YY, ↓reduceIte, Za, Zb, Zc, reduceCtorEq, Zd, Ze, Zf, Zg, Zh, Zi, Zj]) | (with_reducible refine WW (by decide) ?_))
 refine AWP_while [6, 7, 8, 3] (fun i : Nat => 1 - i) (fun i => [.list [.str s :: x.cells], .int .i64 1, .int .i64 i, .int .i64 ((i * x.pts : Nat) : Int)]) (fun i t => i ≤ 1) 0 (by omega) ?_ ?_
 · refine raw ?_
   repeat (first | (with_reducible refine unr ?_; try simp only [YY, ↓reduceIte, Za, Zb, Zc, reduceCtorEq, Zd, Ze, Zf, Zg, Zh, Zi, Zj]) | (with_reducible refine WW (by decide) ?_))
   simp
 rintro i t hi
 by_cases hil : i < 1
 · have : i = 0 := by omega
   subst this
   have hw := wrap_add (m := 0) (n := x.pts) (k := x.pts) (by omega) (by omega)
   have h01 : ((0 : Nat) : Int) < 1 := by omega
   refine raw ?_
   repeat (first | (with_reducible refine unr ?_; try simp only [YY, ↓reduceIte, Za, Zb, Zc, reduceCtorEq, Zd, Ze, Zf, Zg, Zh, Zi, Zj, h01, Cr.len, Cr.take9, Cr.drop9]) | (with_reducible refine WW (by decide) ?_))
   refine (hp _).mono ?_
   rintro _ _ ⟨rfl, rfl⟩
   have hw' : IntKind.i64.wrap (((0 * x.pts : Nat) : Int) + (x.pts : Int)) = (x.pts : Int) := by simpa using hw
   have hw0 : IntKind.i64.wrap (((0 : Nat) : Int) + 1) = 1 := rfl
   refine raw ?_
   repeat (first | (with_reducible refine unr ?_; try simp only [YY, ↓reduceIte, Za, Zb, Zc, reduceCtorEq, Zd, Ze, Zf, Zg, Zh, Zi, Zj, hw', hw0]) | (with_reducible refine WW (by decide) ?_))
   exact ⟨1, by simp, by omega, by omega⟩
 have : i = 1 := by omega
 subst this
 have h11 : ¬ ((1 : Nat) : Int) < 1 := by omega
 refine raw ?_
 repeat (first | (with_reducible refine unr ?_; try simp only [YY, ↓reduceIte, Za, Zb, Zc, reduceCtorEq, Zd, Ze, Zf, Zg, Zh, Zi, Zj, h11]) | (with_reducible refine WW (by decide) ?_))
 simp
end Go.Proofs.YtgjcnkcepdoedaaGreat
set_option linter.unusedVariables false
set_option linter.unusedSimpArgs false
namespace Go.AL
def Cr.withL : Cr → List Cr → Cr
 | .mk k nm n ar ps gs al bs pk, l => .mk k nm n ar ps (l.take gs.length) (List.zipWith (fun a x => (a.1, x)) al (l.drop gs.length)) (List.zipWith (fun a x => (a.1, x)) bs (l.drop (gs.length + al.length))) pk
end Go.AL
namespace Go.Proofs.YtgjcnkcepdoedaaGreat
open Go.AL
end Go.Proofs.YtgjcnkcepdoedaaGreat
set_option linter.unusedVariables false
set_option linter.unusedSimpArgs false
namespace Go.AL
def Cr.zero : Cr := .mk 0 ⟨#[]⟩ 0 0 [] [] [] [] []
abbrev zeroC : List AV := [.int .i64 0, .str ⟨#[]⟩, .int .i64 0, .int .i64 0, .nils, .nils, .nils, .nils, .nils]
theorem zero_le : LeDL zeroC Cr.zero.cells := by
 rw [Cr.zero, Cr.cells_eq]
 exact .cons (.refl _) (.cons (.refl _) (.cons (.refl _) (.cons (.refl _) (.cons .nil (.cons .nil (.cons .nil (.cons .nil (.cons .nil .nil))))))))
end Go.AL
set_option linter.unusedVariables false
set_option linter.unusedSimpArgs false
namespace Go.Proofs.YtgjcnkcepdoedaaGreat
open Go.AL
end Go.Proofs.YtgjcnkcepdoedaaGreat
set_option linter.unusedVariables false
set_option linter.unusedSimpArgs false
namespace Go.AL
end Go.AL
namespace Go.Proofs.YtgjcnkcepdoedaaGreat
open Go.AL
end Go.Proofs.YtgjcnkcepdoedaaGreat
set_option linter.unusedVariables false
set_option linter.unusedSimpArgs false
namespace Go.AL
theorem SliceAt.outD {σ : Store} {v : AV} {ty sz : Nat} {es : List (List AV)} (h : SliceAt σ v ty sz es) (hn : FrzLL σ 2 es es) : ∃ r, LeD v r ∧ Frz σ 2 r (.list es) := by
 rcases h with ⟨rfl, rfl⟩ | ⟨id, ver, es', rfl, hg⟩
 · exact ⟨_, .nil, .listNil 2⟩
 · refine ⟨_, .refl _, .own hg (by simp) ?_⟩
   simp only [List.drop_zero, List.take_left]
   exact hn
theorem core_outD {σ : Store} {v v' v'' w : AV} {k n ar : Int} {nm : ByteArray} {ps : List ByteArray} {gs : List Cr} {al : List (AltH × Cr)} {bs : List (ByteArray × Cr)} {pk : List (Int × Cr)} (h1 : SliceAt σ v 28 9 (gs.map Cr.cells)) (h2 : SliceAt σ v' 58 13 (al.map altC)) (h3 : SliceAt σ v'' 59 10 (bs.map bindC)) (h4 : LeD w (.list (pk.map pickC))) :
 ∃ r', LeD (.agg [.int .i64 k, .str nm, .int .i64 n, .int .i64 ar, strs ps, v, v', v'', w]) r' ∧ Frz σ 2 r' (.agg (Cr.mk k nm n ar ps gs al bs pk).cells) := by
 obtain ⟨r1, l1, f1⟩ := h1.outD (Crs.frz σ gs)
 obtain ⟨r2, l2, f2⟩ := h2.outD (Alts.frz σ al)
 obtain ⟨r3, l3, f3⟩ := h3.outD (Binds.frz σ bs)
 rw [Cr.cells_eq]
 refine ⟨.agg [.int .i64 k, .str nm, .int .i64 n, .int .i64 ar, strs ps, r1, r2, r3, .list (pk.map pickC)], .agg (.cons (.refl _) (.cons (.refl _) (.cons (.refl _) (.cons (.refl _) (.cons (.refl _) (.cons l1 (.cons l2 (.cons l3 (.cons h4 .nil))))))))), ?_⟩
 exact .agg (.cons (.int _ _ _) (.cons (.str _ _) (.cons (.int _ _ _) (.cons (.int _ _ _) (.cons (frz_strs σ ps) (.cons f1 (.cons f2 (.cons f3 (.cons (.list2 (Picks.frz σ pk)) (.nil _))))))))))
end Go.AL
namespace Go.Proofs.YtgjcnkcepdoedaaGreat
open Go.AL
end Go.Proofs.YtgjcnkcepdoedaaGreat
set_option linter.unusedVariables false
set_option linter.unusedSimpArgs false
namespace Go.AL
noncomputable def near (c : Cr) (l : List (Int × Cr)) : List (Int × Cr) := l.filter fun x => !(c.sameB x.2) && c.alikeB x.2
noncomputable def far (c : Cr) (l : List (Int × Cr)) : List (Int × Cr) := l.filter fun x => !(c.alikeB x.2)
def colN (l : List (Int × Cr)) (i : Nat) : List (Int × Cr) := l.map fun x => (x.1, x.2.partsL.getD i Cr.zero)
noncomputable def inner (f : Cr → List (Int × Cr) → Cr) (c : Cr) (m : List (Int × Cr)) : Cr :=
 if m = [] then c else c.withL ((List.range c.partsL.length).map fun i => f (c.partsL.getD i Cr.zero) (colN m i))
noncomputable def mergeN : Nat → Cr → List (Int × Cr) → Cr
 | 0, c, _ => c
 | n + 1, c, l => if far c l = [] then inner (mergeN n) c (near c l) else .mk 11 ⟨#[]⟩ 0 0 [] [inner (mergeN n) c (near c l)] [] [] (far c l)
theorem same_alike {a b : Cr} (h : a.sameB b = true) : a.alikeB b = true := by
 by_cases e : a = b
 · subst e
   refine alikeB_eq ?_
   obtain ⟨k, nm, n, ar, ps, gs, al, bs, pk⟩ := a
   exact ⟨⟨rfl, rfl, rfl, rfl, rfl⟩, ⟨rfl, rfl, rfl, rfl⟩, rfl, rfl⟩
 · rw [sameB_ne e] at h; cases h
theorem near_near (c : Cr) (l : List (Int × Cr)) : near c (near c l) = near c l := by simp [near, List.filter_filter]
theorem far_near (c : Cr) (l : List (Int × Cr)) : far c (near c l) = [] := by
 simp only [near, far, List.filter_filter, List.filter_eq_nil_iff]
 intro x hx
 cases c.alikeB x.2 <;> simp
theorem near_len (c : Cr) (l : List (Int × Cr)) : (near c l).length ≤ l.length := List.length_filter_le _ _
theorem far_len (c : Cr) (l : List (Int × Cr)) : (far c l).length ≤ l.length := List.length_filter_le _ _
theorem near_mem {c : Cr} {l : List (Int × Cr)} {x : Int × Cr} (h : x ∈ near c l) : x ∈ l ∧ c.alikeB x.2 = true := by
 have := List.mem_filter.1 h
 simp only [Bool.and_eq_true] at this
 exact ⟨this.1, this.2.2⟩
theorem alike_parts {a b : Cr} (h : a.alikeB b = true) : b.partsL.length = a.partsL.length := by
 by_cases e : a.Alike b
 · obtain ⟨k, nm, n, ar, ps, gs, al, bs, pk⟩ := a
   obtain ⟨k', nm', n', ar', ps', gs', al', bs', pk'⟩ := b
   obtain ⟨-, ⟨h1, h2, h3, -⟩, -⟩ := e
   simp [Cr.partsL, h1, h2, h3]
 · rw [alikeB_ne e] at h; cases h
theorem part_size {x : Cr} {i : Nat} (h : i < x.partsL.length) : (x.partsL.getD i Cr.zero).size + 1 ≤ x.size := by
 have hm : x.partsL.getD i Cr.zero ∈ x.partsL := by
  rw [List.getD_eq_getElem?_getD, List.getElem?_eq_getElem h]
  exact List.getElem_mem h
 have := le_sum (f := fun x : Cr => x.size) hm
 have := x.size_parts
 try simp only at *
 omega
theorem getD_of {α : Type} {l : List α} {i : Nat} {x d : α} (h : l[i]? = some x) : l.getD i d = x := by simp [h]
def Bd (c : Cr) (l : List (Int × Cr)) : Prop := c.size ≤ 10000000 ∧ l.length ≤ 10000000 ∧ ∀ x, x ∈ l → x.2.size ≤ 10000000
theorem Bd.near {c : Cr} {l : List (Int × Cr)} (h : Bd c l) : Bd c (near c l) := ⟨h.1, Nat.le_trans (near_len c l) h.2.1, fun x hx => h.2.2 x (near_mem hx).1⟩
theorem Bd.col {c : Cr} {l : List (Int × Cr)} (h : Bd c l) {i : Nat} (hi : i < c.partsL.length) : Bd (c.partsL.getD i Cr.zero) (colN (Go.AL.near c l) i) := by
 have := part_size hi
 refine ⟨by have := h.1; omega, by have := near_len c l; have := h.2.1; simp [colN]; omega, fun x hx => ?_⟩
 obtain ⟨y, hy, rfl⟩ := List.mem_map.1 hx
 have h1 := near_mem hy
 have h2 := h.2.2 y h1.1
 have := part_size (x := y.2) (i := i) (by rw [alike_parts h1.2]; exact hi)
 simp only; omega
end Go.AL
set_option linter.unusedVariables false
set_option linter.unusedSimpArgs false
namespace Go.AL
structure Two (σ t : Store) (v w : AV) (a b : List (List AV)) : Prop where
 ga : Grow σ t v 36 10 a
 gb : Grow σ t w 36 10 b
 dj : ∀ j, j ∈ slIds v → j ∉ slIds w
end Go.AL
namespace Go.Proofs.YtgjcnkcepdoedaaGreat
open Go.AL
abbrev MC (f : FuncId) (n : Nat) : Prop := ∀ (c : Cr) (l : List (Int × Cr)), c.size ≤ n → Bd c l → ∀ σ : Store, ACalls Tryz.prog f [.agg c.cells, .list (l.map pickC)] σ fun r σ' => r = .agg (mergeN n c l).cells ∧ σ' = σ
end Go.Proofs.YtgjcnkcepdoedaaGreat
set_option linter.unusedVariables false
set_option linter.unusedSimpArgs false
namespace Go.AL
theorem cln_cr {n : Nat} (x : Cr) : Cln n (.agg x.cells) := .agg' x.cln
theorem cln_picks {n : Nat} (l : List (Int × Cr)) : Cln n (.list (l.map pickC)) := .list' fun e he c hc => by
 obtain ⟨y, -, rfl⟩ := List.mem_map.1 he
 simp only [pickC, List.mem_cons] at hc
 rcases hc with rfl | hc
 · exact .int _ _
 · exact y.2.cln c hc
theorem pick_t (x : Int × Cr) : List.take 10 (pickC x) = pickC x := List.take_of_length_le (by rw [pickC_len]; omega)
theorem pick_d (x : Int × Cr) : List.drop 10 (pickC x) = [] := List.drop_of_length_le (by rw [pickC_len]; omega)
theorem filter_succ {α : Type} (p : α → Bool) {l : List α} {i : Nat} {x : α} (hx : l[i]? = some x) : (l.take (i + 1)).filter p = (l.take i).filter p ++ (if p x = true then [x] else []) := by
 rw [List.take_add_one, hx, List.filter_append]
 congr 1
 simp [List.filter_cons]
end Go.AL
namespace Go.Proofs.YtgjcnkcepdoedaaGreat
open Go.AL
theorem clo33 (σ : Store) (id : Nat) (c : Cr) (x : Int × Cr) (h : σ.get id = some (.cells 28 0 9 [c.cells])) : ACalls Tryz.prog 33 [.agg (pickC x), .ptr id 0 0 0] σ fun r σ' => r = .bool (!(c.sameB x.2)) ∧ σ' = σ := by
 refine ACalls_fp (p := fun r => r = .bool (!(c.sameB x.2))) ?_
 refine in33 (by simp) ?_
 unfold c33
 have hq := lt_ne (σ.lt h)
 have k := Kp.pushed σ (.cells 36 0 10 [pickC x])
 have hs := same_ok c x.2
 unfold pickC
 refine raw ?_
 repeat (first | (with_reducible refine unr ?_; try simp only [YY, ↓reduceIte, Za, Zb, Zc, reduceCtorEq, Zd, Ze, Zf, Zg, Zh, Zi, Zj, h, hq, Cr.len, Cr.take9, Cr.drop9]) | (with_reducible refine WW (by decide) ?_))
 refine (hs _).mono ?_
 rintro _ _ ⟨rfl, rfl⟩
 refine raw ?_
 repeat (first | (with_reducible refine unr ?_; try simp only [YY, ↓reduceIte, Za, Zb, Zc, reduceCtorEq, Zd, Ze, Zf, Zg, Zh, Zi, Zj]) | (with_reducible refine WW (by decide) ?_))
 exact FP.same k rfl (.bool _)
theorem clo35 (σ : Store) (id : Nat) (c : Cr) (x : Int × Cr) (h : σ.get id = some (.cells 28 0 9 [c.cells])) : ACalls Tryz.prog 35 [.agg (pickC x), .ptr id 0 0 0] σ fun r σ' => r = .bool (c.alikeB x.2) ∧ σ' = σ := by
 refine ACalls_fp (p := fun r => r = .bool (c.alikeB x.2)) ?_
 refine in35 (by simp) ?_
 unfold c35
 have hq := lt_ne (σ.lt h)
 have k := Kp.pushed σ (.cells 36 0 10 [pickC x])
 have hs := alike_ok c x.2
 unfold pickC
 refine raw ?_
 repeat (first | (with_reducible refine unr ?_; try simp only [YY, ↓reduceIte, Za, Zb, Zc, reduceCtorEq, Zd, Ze, Zf, Zg, Zh, Zi, Zj, h, hq, Cr.len, Cr.take9, Cr.drop9]) | (with_reducible refine WW (by decide) ?_))
 refine (hs _).mono ?_
 rintro _ _ ⟨rfl, rfl⟩
 refine raw ?_
 repeat (first | (with_reducible refine unr ?_; try simp only [YY, ↓reduceIte, Za, Zb, Zc, reduceCtorEq, Zd, Ze, Zf, Zg, Zh, Zi, Zj]) | (with_reducible refine WW (by decide) ?_))
 exact FP.same k rfl (.bool _)
theorem clo37 (σ : Store) (id : Nat) (c : Cr) (x : Int × Cr) (h : σ.get id = some (.cells 28 0 9 [c.cells])) : ACalls Tryz.prog 37 [.agg (pickC x), .ptr id 0 0 0] σ fun r σ' => r = .bool (!(c.alikeB x.2)) ∧ σ' = σ := by
 refine ACalls_fp (p := fun r => r = .bool (!(c.alikeB x.2))) ?_
 refine in37 (by simp) ?_
 unfold c37
 have hq := lt_ne (σ.lt h)
 have k := Kp.pushed σ (.cells 36 0 10 [pickC x])
 have hs := alike_ok c x.2
 unfold pickC
 refine raw ?_
 repeat (first | (with_reducible refine unr ?_; try simp only [YY, ↓reduceIte, Za, Zb, Zc, reduceCtorEq, Zd, Ze, Zf, Zg, Zh, Zi, Zj, h, hq, Cr.len, Cr.take9, Cr.drop9]) | (with_reducible refine WW (by decide) ?_))
 refine (hs _).mono ?_
 rintro _ _ ⟨rfl, rfl⟩
 refine raw ?_
 repeat (first | (with_reducible refine unr ?_; try simp only [YY, ↓reduceIte, Za, Zb, Zc, reduceCtorEq, Zd, Ze, Zf, Zg, Zh, Zi, Zj]) | (with_reducible refine WW (by decide) ?_))
 exact FP.same k rfl (.bool _)
theorem kept_ok (σ : Store) (l : List (Int × Cr)) (hl : l.length ≤ 100000000) (g : Nat) (caps : List AV) (p : Int × Cr → Bool)
 (hg : ∀ x, x ∈ l → ∀ s : Store, Kp σ s → ACalls Tryz.prog g ([.agg (pickC x)] ++ caps) s fun r s' => r = .bool (p x) ∧ s' = s) :
 ACalls Tryz.prog 32 [.list (l.map pickC), .fn (.func g) [] caps] σ fun r σ' => r = .list ((l.filter p).map pickC) ∧ σ' = σ := by
 refine ACalls_fp (p := fun r => r = .list ((l.filter p).map pickC)) ?_
 refine in32 (by simp) ?_
 unfold c32
 refine raw ?_
 repeat (first | (with_reducible refine unr ?_; try simp only [YY, ↓reduceIte, Za, Zb, Zc, reduceCtorEq, Zd, Ze, Zf, Zg, Zh, Zi, Zj]) | (with_reducible refine WW (by decide) ?_))
 refine AWP_while [1, 5, 8, 9, 10] (fun y : AV × Nat => l.length - y.2) (fun y => [.fn (.func g) [] caps, y.1, .list (l.map pickC), .int .i64 l.length, .int .i64 y.2])
  (fun y t => y.2 ≤ l.length ∧ Grow σ t y.1 36 10 (((l.take y.2).filter p).map pickC)) (.nils, 0) ⟨by simp, grow_eq (.start _ _ _) (by simp)⟩ ?_ ?_
 · refine raw ?_
   repeat (first | (with_reducible refine unr ?_; try simp only [YY, ↓reduceIte, Za, Zb, Zc, reduceCtorEq, Zd, Ze, Zf, Zg, Zh, Zi, Zj]) | (with_reducible refine WW (by decide) ?_))
   rfl
 rintro ⟨v, i⟩ t ⟨hi, hG⟩
 simp only at hi hG
 by_cases hil : i < l.length
 · have hil' : (i : Int) < (l.length : Int) := by omega
   have hw := wrap_succ (i := i) (by omega)
   obtain ⟨x, hx⟩ : ∃ x, l[i]? = some x := ⟨_, List.getElem?_eq_getElem hil⟩
   have hgx : (l.map pickC)[i]? = some (pickC x) := by simp [hx]
   have hxm := List.mem_of_getElem? hx
   have hf := filter_succ p hx
   have hlen : ((l.take i).filter p).length ≤ l.length := Nat.le_trans (List.length_filter_le _ _) (by rw [List.length_take]; omega)
   have hG1 := hG.push (.cells 36 0 10 [pickC x])
   have hgo := hg x hxm _ hG1.kp
   refine raw ?_
   repeat (first | (with_reducible refine unr ?_; try simp only [YY, ↓reduceIte, Za, Zb, Zc, reduceCtorEq, Zd, Ze, Zf, Zg, Zh, Zi, Zj, hil', hgx, pickC_len, pick_t, pick_d, wp_callv, callvW_fn]) | (with_reducible refine WW (by decide) ?_))
   refine hgo.mono ?_
   rintro _ _ ⟨rfl, rfl⟩
   cases hp : p x with
   | true =>
    rw [hp] at hf
    refine raw ?_
    repeat (first | (with_reducible refine unr ?_; try simp only [YY, ↓reduceIte, Za, Zb, Zc, reduceCtorEq, Zd, Ze, Zf, Zg, Zh, Zi, Zj, hil', hgx, pickC_len, pick_t, pick_d]) | (with_reducible refine WW (by decide) ?_))
    refine ok_grow hG1 (by simp [pickC_len]) (by simp; omega) (by simp [maxLen]; omega) ?_
    intro v' t3 hG3 _ _
    refine raw ?_
    repeat (first | (with_reducible refine unr ?_; try simp only [YY, ↓reduceIte, Za, Zb, Zc, reduceCtorEq, Zd, Ze, Zf, Zg, Zh, Zi, Zj, hw]) | (with_reducible refine WW (by decide) ?_))
    exact ⟨(v', i + 1), rfl, ⟨by simp only; omega, grow_eq hG3 (by rw [hf]; simp)⟩, by simp only; omega⟩
   | false =>
    rw [hp] at hf
    refine raw ?_
    repeat (first | (with_reducible refine unr ?_; try simp only [YY, ↓reduceIte, Za, Zb, Zc, reduceCtorEq, Zd, Ze, Zf, Zg, Zh, Zi, Zj, hw]) | (with_reducible refine WW (by decide) ?_))
    exact ⟨(v, i + 1), rfl, ⟨by simp only; omega, grow_eq hG1 (by rw [hf]; simp)⟩, by simp only; omega⟩
 have : i = l.length := by omega
 subst this
 have hil' : ¬ ((l.length : Nat) : Int) < (l.length : Int) := by omega
 have hG := grow_eq hG (by rw [List.take_of_length_le (by omega)])
 refine raw ?_
 repeat (first | (with_reducible refine unr ?_; try simp only [YY, ↓reduceIte, Za, Zb, Zc, reduceCtorEq, Zd, Ze, Zf, Zg, Zh, Zi, Zj, hil']) | (with_reducible refine WW (by decide) ?_))
 exact FP.mk (.list ((l.filter p).map pickC)) hG.sl .here rfl (cln_picks _) hG.kp hG.fresh
theorem clo39 (σ : Store) (id i : Nat) (x e : Cr) (h : σ.get id = some (.cells 3 0 1 [[.int .i64 i]])) (he : (match x with | .mk k nm n ar ps gs al bs pk => gs)[i]? = some e) :
 ACalls Tryz.prog 39 [.agg x.cells, .ptr id 0 0 0] σ fun r σ' => r = .agg e.cells ∧ σ' = σ := by
 refine ACalls_fp (p := fun r => r = .agg e.cells) ?_
 obtain ⟨k, nm, n, ar, ps, gs, al, bs, pk⟩ := x
 simp only at he
 have hi := (List.getElem?_eq_some_iff.1 he).1
 have hi' : (i : Int) < (gs.length : Int) := by omega
 have hg : (gs.map Cr.cells)[i]? = some e.cells := by simp [he]
 have hq := lt_ne (σ.lt h)
 have hq2 : (id = σ.next + 1) = False := by have := σ.lt h; simp; omega
 rw [Cr.cells_eq]
 refine in39 (by simp) ?_
 unfold c39
 have k := ((Kp.pushed σ (.cells 28 0 9 [[.int .i64 k, .str nm, .int .i64 n, .int .i64 ar, strs ps, .list (gs.map Cr.cells), .list (al.map altC), .list (bs.map bindC), .list (pk.map pickC)]])).push (.cells 28 0 9 [e.cells]))
 refine raw ?_
 repeat (first | (with_reducible refine unr ?_; try simp only [YY, ↓reduceIte, Za, Zb, Zc, reduceCtorEq, Zd, Ze, Zf, Zg, Zh, Zi, Zj, h, hq, hq2, hi', hg, Cr.len, Cr.take9, Cr.drop9]) | (with_reducible refine WW (by decide) ?_))
 exact FP.same k rfl (cln_cr _)
theorem clo40 (σ : Store) (id i : Nat) (x : Cr) (e : AltH × Cr) (h : σ.get id = some (.cells 3 0 1 [[.int .i64 i]])) (he : (match x with | .mk k nm n ar ps gs al bs pk => al)[i]? = some e) :
 ACalls Tryz.prog 40 [.agg x.cells, .ptr id 0 0 0] σ fun r σ' => r = .agg e.2.cells ∧ σ' = σ := by
 refine ACalls_fp (p := fun r => r = .agg e.2.cells) ?_
 obtain ⟨k, nm, n, ar, ps, gs, al, bs, pk⟩ := x
 simp only at he
 have hi := (List.getElem?_eq_some_iff.1 he).1
 have hi' : (i : Int) < (al.length : Int) := by omega
 have hg : (al.map altC)[i]? = some (altC e) := by simp [he]
 have hq := lt_ne (σ.lt h)
 have hq2 : (id = σ.next + 1) = False := by have := σ.lt h; simp; omega
 rw [Cr.cells_eq]
 refine in40 (by simp) ?_
 unfold c40
 have k := ((Kp.pushed σ (.cells 28 0 9 [[.int .i64 k, .str nm, .int .i64 n, .int .i64 ar, strs ps, .list (gs.map Cr.cells), .list (al.map altC), .list (bs.map bindC), .list (pk.map pickC)]])).push (.cells 28 0 9 [e.2.cells]))
 refine raw ?_
 repeat (first | (with_reducible refine unr ?_; try simp only [YY, ↓reduceIte, Za, Zb, Zc, reduceCtorEq, Zd, Ze, Zf, Zg, Zh, Zi, Zj, h, hq, hq2, hi', hg, altC, AltH.cells, Cr.len, Cr.take9, Cr.drop9]) | (with_reducible refine WW (by decide) ?_))
 exact FP.same k rfl (cln_cr _)
theorem clo41 (σ : Store) (id i : Nat) (x : Cr) (e : ByteArray × Cr) (h : σ.get id = some (.cells 3 0 1 [[.int .i64 i]])) (he : (match x with | .mk k nm n ar ps gs al bs pk => bs)[i]? = some e) :
 ACalls Tryz.prog 41 [.agg x.cells, .ptr id 0 0 0] σ fun r σ' => r = .agg e.2.cells ∧ σ' = σ := by
 refine ACalls_fp (p := fun r => r = .agg e.2.cells) ?_
 obtain ⟨k, nm, n, ar, ps, gs, al, bs, pk⟩ := x
 simp only at he
 have hi := (List.getElem?_eq_some_iff.1 he).1
 have hi' : (i : Int) < (bs.length : Int) := by omega
 have hg : (bs.map bindC)[i]? = some (bindC e) := by simp [he]
 have hq := lt_ne (σ.lt h)
 have hq2 : (id = σ.next + 1) = False := by have := σ.lt h; simp; omega
 rw [Cr.cells_eq]
 refine in41 (by simp) ?_
 unfold c41
 have k := ((Kp.pushed σ (.cells 28 0 9 [[.int .i64 k, .str nm, .int .i64 n, .int .i64 ar, strs ps, .list (gs.map Cr.cells), .list (al.map altC), .list (bs.map bindC), .list (pk.map pickC)]])).push (.cells 28 0 9 [e.2.cells]))
 refine raw ?_
 repeat (first | (with_reducible refine unr ?_; try simp only [YY, ↓reduceIte, Za, Zb, Zc, reduceCtorEq, Zd, Ze, Zf, Zg, Zh, Zi, Zj, h, hq, hq2, hi', hg, bindC, Cr.len, Cr.take9, Cr.drop9]) | (with_reducible refine WW (by decide) ?_))
 exact FP.same k rfl (cln_cr _)
end Go.Proofs.YtgjcnkcepdoedaaGreat
set_option linter.unusedVariables false
set_option linter.unusedSimpArgs false
namespace Go.Proofs.YtgjcnkcepdoedaaGreat
open Go.AL
theorem colF_ok (σ : Store) (l : List (Int × Cr)) (hl : l.length ≤ 100000000) (g : Nat) (caps : List AV) (q : Cr → Cr)
 (hg : ∀ x, x ∈ l → ∀ s : Store, Kp σ s → ACalls Tryz.prog g ([.agg x.2.cells] ++ caps) s fun r s' => r = .agg (q x.2).cells ∧ s' = s) :
 ACalls Tryz.prog 38 [.list (l.map pickC), .fn (.func g) [] caps] σ fun r σ' => r = .list ((l.map fun x => (x.1, q x.2)).map pickC) ∧ σ' = σ := by
 refine ACalls_fp (p := fun r => r = .list ((l.map fun x => (x.1, q x.2)).map pickC)) ?_
 refine in38 (by simp) ?_
 unfold c38
 refine raw ?_
 repeat (first | (with_reducible refine unr ?_; try simp only [YY, ↓reduceIte, Za, Zb, Zc, reduceCtorEq, Zd, Ze, Zf, Zg, Zh, Zi, Zj]) | (with_reducible refine WW (by decide) ?_))
 refine AWP_while [1, 5, 8, 9, 10] (fun y : AV × Nat => l.length - y.2) (fun y => [.fn (.func g) [] caps, y.1, .list (l.map pickC), .int .i64 l.length, .int .i64 y.2])
  (fun y t => y.2 ≤ l.length ∧ Grow σ t y.1 36 10 (((l.take y.2).map fun x => (x.1, q x.2)).map pickC)) (.nils, 0) ⟨by simp, grow_eq (.start _ _ _) (by simp)⟩ ?_ ?_
 · refine raw ?_
   repeat (first | (with_reducible refine unr ?_; try simp only [YY, ↓reduceIte, Za, Zb, Zc, reduceCtorEq, Zd, Ze, Zf, Zg, Zh, Zi, Zj]) | (with_reducible refine WW (by decide) ?_))
   rfl
 rintro ⟨v, i⟩ t ⟨hi, hG⟩
 simp only at hi hG
 by_cases hil : i < l.length
 · have hil' : (i : Int) < (l.length : Int) := by omega
   have hw := wrap_succ (i := i) (by omega)
   obtain ⟨x, hx⟩ : ∃ x, l[i]? = some x := ⟨_, List.getElem?_eq_getElem hil⟩
   have hgx : (l.map pickC)[i]? = some (pickC x) := by simp [hx]
   have hxm := List.mem_of_getElem? hx
   have hG1 := hG.push (.cells 36 0 10 [.int .i64 x.1 :: x.2.cells])
   have hgo := hg x hxm _ hG1.kp
   unfold pickC at hgo
   refine raw ?_
   repeat (first | (with_reducible refine unr ?_; try simp only [YY, ↓reduceIte, Za, Zb, Zc, reduceCtorEq, Zd, Ze, Zf, Zg, Zh, Zi, Zj, hil', hgx, pickC, Cr.len, Cr.take9, Cr.drop9, wp_callv, callvW_fn]) | (with_reducible refine WW (by decide) ?_))
   refine hgo.mono ?_
   rintro _ _ ⟨rfl, rfl⟩
   refine raw ?_
   repeat (first | (with_reducible refine unr ?_; try simp only [YY, ↓reduceIte, Za, Zb, Zc, reduceCtorEq, Zd, Ze, Zf, Zg, Zh, Zi, Zj, hil', hgx, pickC, Cr.len, Cr.take9, Cr.drop9]) | (with_reducible refine WW (by decide) ?_))
   refine ok_grow hG1 (by simp [Cr.len]) (by simp [List.length_take]; omega) (by simp [List.length_take, maxLen]; omega) ?_
   intro v' t3 hG3 _ _
   refine raw ?_
   repeat (first | (with_reducible refine unr ?_; try simp only [YY, ↓reduceIte, Za, Zb, Zc, reduceCtorEq, Zd, Ze, Zf, Zg, Zh, Zi, Zj, hw]) | (with_reducible refine WW (by decide) ?_))
   exact ⟨(v', i + 1), rfl, ⟨by simp only; omega, grow_eq hG3 (by simp [List.take_add_one, hx, pickC])⟩, by simp only; omega⟩
 have : i = l.length := by omega
 subst this
 have hil' : ¬ ((l.length : Nat) : Int) < (l.length : Int) := by omega
 have hG := grow_eq hG (by rw [List.take_of_length_le (by omega)])
 refine raw ?_
 repeat (first | (with_reducible refine unr ?_; try simp only [YY, ↓reduceIte, Za, Zb, Zc, reduceCtorEq, Zd, Ze, Zf, Zg, Zh, Zi, Zj, hil']) | (with_reducible refine WW (by decide) ?_))
 exact FP.mk (.list ((l.map fun x => (x.1, q x.2)).map pickC)) hG.sl .here rfl (cln_picks _) hG.kp hG.fresh
end Go.Proofs.YtgjcnkcepdoedaaGreat
set_option linter.unusedVariables false
set_option linter.unusedSimpArgs false
namespace Go.AL
noncomputable def diff (c : Cr) (l : List (Int × Cr)) : List (Int × Cr) := l.filter fun x => !(c.sameB x.2)
theorem diff_near (c : Cr) (l : List (Int × Cr)) : ((diff c l).filter fun x => c.alikeB x.2) = near c l := by
 rw [diff, near, List.filter_filter]
 congr 1
 funext x
 exact Bool.and_comm _ _
theorem diff_far (c : Cr) (l : List (Int × Cr)) : ((diff c l).filter fun x => !(c.alikeB x.2)) = far c l := by
 rw [diff, far, List.filter_filter]
 congr 1
 funext x
 cases hs : c.sameB x.2 with
 | true => rw [same_alike hs]; rfl
 | false => cases c.alikeB x.2 <;> rfl
theorem filter_len {α : Type} (p : α → Bool) : ∀ l : List α, (l.filter p).length + (l.filter fun x => !(p x)).length = l.length
 | [] => rfl
 | a :: l => by
  have := filter_len p l
  cases h : p a <;> simp [h] <;> omega
theorem diff_len (c : Cr) (l : List (Int × Cr)) : (near c l).length + (far c l).length = (diff c l).length := by
 rw [← diff_near, ← diff_far]
 exact filter_len _ _
theorem filter_none {α : Type} (p : α → Bool) {l : List α} (h : (l.filter fun x => !(p x)) = []) : l.filter p = l := by
 rw [List.filter_eq_self]
 intro x hx
 have := List.filter_eq_nil_iff.1 h x hx
 simpa using this
theorem diff_eq {c : Cr} {l : List (Int × Cr)} (h : far c l = []) : diff c l = near c l := by
 rw [← diff_far] at h
 rw [← diff_near]
 exact (filter_none _ h).symm
theorem parts_gs {k : Int} {nm : ByteArray} {n ar : Int} {ps : List ByteArray} {gs : List Cr} {al : List (AltH × Cr)} {bs : List (ByteArray × Cr)} {pk : List (Int × Cr)} {i : Nat} {x : Cr} (h : gs[i]? = some x) : (Cr.mk k nm n ar ps gs al bs pk).partsL.getD i Cr.zero = x := by
 refine getD_of ?_
 have hi := (List.getElem?_eq_some_iff.1 h).1
 rw [Cr.partsL, List.append_assoc, List.getElem?_append_left hi]; exact h
theorem parts_al {k : Int} {nm : ByteArray} {n ar : Int} {ps : List ByteArray} {gs : List Cr} {al : List (AltH × Cr)} {bs : List (ByteArray × Cr)} {pk : List (Int × Cr)} {i : Nat} {x : AltH × Cr} (h : al[i]? = some x) : (Cr.mk k nm n ar ps gs al bs pk).partsL.getD (gs.length + i) Cr.zero = x.2 := by
 refine getD_of ?_
 have hi := (List.getElem?_eq_some_iff.1 h).1
 rw [Cr.partsL, List.append_assoc, List.getElem?_append_right (by omega), List.getElem?_append_left (by simp; omega), Nat.add_sub_cancel_left, List.getElem?_map, h]; rfl
theorem parts_bs {k : Int} {nm : ByteArray} {n ar : Int} {ps : List ByteArray} {gs : List Cr} {al : List (AltH × Cr)} {bs : List (ByteArray × Cr)} {pk : List (Int × Cr)} {i : Nat} {x : ByteArray × Cr} (h : bs[i]? = some x) : (Cr.mk k nm n ar ps gs al bs pk).partsL.getD (gs.length + al.length + i) Cr.zero = x.2 := by
 refine getD_of ?_
 have hi := (List.getElem?_eq_some_iff.1 h).1
 rw [Cr.partsL, List.getElem?_append_right (by simp), List.length_append, List.length_map, Nat.add_sub_cancel_left, List.getElem?_map, h]; rfl
theorem inner_eq (f : Cr → List (Int × Cr) → Cr) (k : Int) (nm : ByteArray) (n ar : Int) (ps : List ByteArray) (gs : List Cr) (al : List (AltH × Cr)) (bs : List (ByteArray × Cr)) (pk : List (Int × Cr)) (m : List (Int × Cr)) (hm : ¬ m = []) :
 inner f (.mk k nm n ar ps gs al bs pk) m = .mk k nm n ar ps (gs.mapIdx fun i x => f x (colN m i)) (al.mapIdx fun i x => (x.1, f x.2 (colN m (gs.length + i)))) (bs.mapIdx fun i x => (x.1, f x.2 (colN m (gs.length + al.length + i)))) pk := by
 have hl : (Cr.mk k nm n ar ps gs al bs pk).partsL.length = gs.length + al.length + bs.length := by simp [Cr.partsL]; omega
 rw [inner, if_neg hm, hl, Cr.withL]
 congr 1
 · apply List.ext_getElem
   · simp; omega
   · intro i h1 h2
     have h2 : i < gs.length := by simpa using h2
     simp only [List.getElem_take, List.getElem_map, List.getElem_range, List.getElem_mapIdx]
     rw [parts_gs (List.getElem?_eq_getElem h2)]
 · apply List.ext_getElem
   · simp; omega
   · intro i h1 h2
     have h2 : i < al.length := by simpa using h2
     simp only [List.getElem_zipWith, List.getElem_drop, List.getElem_map, List.getElem_range, List.getElem_mapIdx]
     rw [parts_al (List.getElem?_eq_getElem h2)]
 · apply List.ext_getElem
   · simp
   · intro i h1 h2
     have h2 : i < bs.length := by simpa using h2
     simp only [List.getElem_zipWith, List.getElem_drop, List.getElem_map, List.getElem_range, List.getElem_mapIdx]
     rw [parts_bs (List.getElem?_eq_getElem h2)]
theorem at39 {k : Int} {nm : ByteArray} {n ar : Int} {ps : List ByteArray} {gs : List Cr} {al : List (AltH × Cr)} {bs : List (ByteArray × Cr)} {pk : List (Int × Cr)} {y : Cr} (h : (Cr.mk k nm n ar ps gs al bs pk).alikeB y = true) {i : Nat} (hi : i < gs.length) :
 ∃ e, (match y with | .mk k nm n ar ps gs al bs pk => gs)[i]? = some e ∧ y.partsL.getD i Cr.zero = e := by
 by_cases e : (Cr.mk k nm n ar ps gs al bs pk).Alike y
 · obtain ⟨k', nm', n', ar', ps', gs', al', bs', pk'⟩ := y
   obtain ⟨-, ⟨h1, h2, h3, -⟩, -⟩ := e
   rw [h1] at hi
   exact ⟨gs'[i], List.getElem?_eq_getElem hi, parts_gs (List.getElem?_eq_getElem hi)⟩
 · rw [alikeB_ne e] at h; cases h
theorem at40 {k : Int} {nm : ByteArray} {n ar : Int} {ps : List ByteArray} {gs : List Cr} {al : List (AltH × Cr)} {bs : List (ByteArray × Cr)} {pk : List (Int × Cr)} {y : Cr} (h : (Cr.mk k nm n ar ps gs al bs pk).alikeB y = true) {i : Nat} (hi : i < al.length) :
 ∃ e : AltH × Cr, (match y with | .mk k nm n ar ps gs al bs pk => al)[i]? = some e ∧ y.partsL.getD (gs.length + i) Cr.zero = e.2 := by
 by_cases e : (Cr.mk k nm n ar ps gs al bs pk).Alike y
 · obtain ⟨k', nm', n', ar', ps', gs', al', bs', pk'⟩ := y
   obtain ⟨-, ⟨h1, h2, h3, -⟩, -⟩ := e
   rw [h2] at hi
   rw [h1]
   exact ⟨al'[i], List.getElem?_eq_getElem hi, parts_al (List.getElem?_eq_getElem hi)⟩
 · rw [alikeB_ne e] at h; cases h
theorem at41 {k : Int} {nm : ByteArray} {n ar : Int} {ps : List ByteArray} {gs : List Cr} {al : List (AltH × Cr)} {bs : List (ByteArray × Cr)} {pk : List (Int × Cr)} {y : Cr} (h : (Cr.mk k nm n ar ps gs al bs pk).alikeB y = true) {i : Nat} (hi : i < bs.length) :
 ∃ e : ByteArray × Cr, (match y with | .mk k nm n ar ps gs al bs pk => bs)[i]? = some e ∧ y.partsL.getD (gs.length + al.length + i) Cr.zero = e.2 := by
 by_cases e : (Cr.mk k nm n ar ps gs al bs pk).Alike y
 · obtain ⟨k', nm', n', ar', ps', gs', al', bs', pk'⟩ := y
   obtain ⟨-, ⟨h1, h2, h3, -⟩, -⟩ := e
   rw [h3] at hi
   rw [h1, h2]
   exact ⟨bs'[i], List.getElem?_eq_getElem hi, parts_bs (List.getElem?_eq_getElem hi)⟩
 · rw [alikeB_ne e] at h; cases h
end Go.AL
set_option linter.unusedVariables false
set_option linter.unusedSimpArgs false
namespace Go.Proofs.YtgjcnkcepdoedaaGreat
open Go.AL
theorem pick_outL {σ : Store} {c : Cr} {pk : List (Int × Cr)} :
 ∃ r', LeD (.agg [.int .i64 11, .str ⟨#[]⟩, .int .i64 0, .int .i64 0, .nils, .list [c.cells], .nils, .nils, .list (pk.map pickC)]) r' ∧ Frz σ 2 r' (.agg (Cr.mk 11 ⟨#[]⟩ 0 0 [] [c] [] [] pk).cells) := by
 refine ⟨_, ?_, .agg (Cr.frz _ _)⟩
 rw [Cr.cells_eq]
 exact .agg (.cons (.refl _) (.cons (.refl _) (.cons (.refl _) (.cons (.refl _) (.cons .nil (.cons (.refl _) (.cons .nil (.cons .nil (.cons (.refl _) .nil)))))))))
set_option maxHeartbeats 4000000 in
theorem merge_step (n : Nat) (ih : MC 21 n) (c : Cr) (l : List (Int × Cr)) (hc : c.size ≤ n + 1) (hb : Bd c l)
 (hrec : far c l ≠ [] → ∀ σ : Store, ACalls Tryz.prog 21 [.agg c.cells, .list ((near c l).map pickC)] σ fun r σ' => r = .agg (inner (mergeN n) c (near c l)).cells ∧ σ' = σ) (σ : Store) :
 ACalls Tryz.prog 21 [.agg c.cells, .list (l.map pickC)] σ fun r σ' => r = .agg (mergeN (n + 1) c l).cells ∧ σ' = σ := by
 refine calls_a (.cons (.agg (Cr.noId _)) (.cons (.list (.of fun e he => by obtain ⟨y, -, rfl⟩ := List.mem_map.1 he; exact .cons (.int _ _) y.2.noId)) .nil)) (ACalls_leD ?_) σ
 obtain ⟨hb1, hb2, hb3⟩ := id hb
 have hnl := near_len c l
 have hfl := far_len c l
 have hdl := diff_len c l
 have hdl2 : (diff c l).length ≤ l.length := List.length_filter_le _ _
 refine in21 (by simp) ?_
 unfold c21
 generalize Store.empty = z
 try simp only [YY, ↓reduceIte, Za, Zb, Zc, reduceCtorEq, Zd, Ze, Zf, Zg, Zh, Zi, Zj, Cr.len]
 iterate 2 ((with_reducible refine WW (by decide) ?_); refine unr ?_; try simp only [YY, ↓reduceIte, Za, Zb, Zc, reduceCtorEq, Zd, Ze, Zf, Zg, Zh, Zi, Zj, Cr.len])
 generalize hs1 : Store.push _ _ = s1
 have he : s1.get z.next = some (.cells 28 0 9 [c.cells]) := by rw [← hs1]; simp [Store.push_get, Store.push_next]
 have he2 : s1.get (z.next + 1) = some (.cells 28 0 9 [zeroC]) := by rw [← hs1]; simp [Store.push_get, Store.push_next]
 have hn1 : s1.next = z.next + 2 := by rw [← hs1]; rfl
 clear hs1
 have k1 := kept_ok s1 l (by omega) 33 [.ptr z.next 0 0 0] (fun x => !(c.sameB x.2)) (fun x _ s hs => clo33 s _ c x (hs.get he))
 have k2 := kept_ok s1 (diff c l) (by omega) 35 [.ptr z.next 0 0 0] (fun x => c.alikeB x.2) (fun x _ s hs => clo35 s _ c x (hs.get he))
 have k3 := kept_ok s1 (diff c l) (by omega) 37 [.ptr z.next 0 0 0] (fun x => !(c.alikeB x.2)) (fun x _ s hs => clo37 s _ c x (hs.get he))
 rw [diff_near] at k2
 rw [diff_far] at k3
 rw [show (l.filter fun x => !(c.sameB x.2)) = diff c l from rfl] at k1
 have u1 : ∀ o, (s1.upd (z.next + 1) o).get (z.next + 1) = some o := fun o => Store.get_upd_self _ _ (s1.lt he2)
 refine raw ?_
 repeat (first | (with_reducible refine unr ?_; try simp only [YY, ↓reduceIte, Za, Zb, Zc, reduceCtorEq, Zd, Ze, Zf, Zg, Zh, Zi, Zj]) | (with_reducible refine WW (by decide) ?_))
 refine k1.mono ?_
 rintro _ _ ⟨rfl, rfl⟩
 rw [mergeN]
 by_cases hd0 : diff c l = []
 · have hn0 : near c l = [] := by rw [← diff_near, hd0]; rfl
   have hf0 : far c l = [] := by rw [← diff_far, hd0]; rfl
   rw [if_pos hf0, inner, if_pos hn0]
   have hd0' : (((diff c l).length : Nat) : Int) = 0 := by simp [hd0]
   refine raw ?_
   repeat (first | (with_reducible refine unr ?_; try simp only [YY, ↓reduceIte, Za, Zb, Zc, reduceCtorEq, Zd, Ze, Zf, Zg, Zh, Zi, Zj, hd0', he, he2, u1, Cr.len, Cr.take9, Cr.drop9]) | (with_reducible refine WW (by decide) ?_))
   exact ⟨_, .refl _, .agg (Cr.frz _ _)⟩
 have hd0' : ¬ (((diff c l).length : Nat) : Int) = 0 := by
  have := List.length_pos_iff.2 hd0
  omega
 refine raw ?_
 repeat (first | (with_reducible refine unr ?_; try simp only [YY, ↓reduceIte, Za, Zb, Zc, reduceCtorEq, Zd, Ze, Zf, Zg, Zh, Zi, Zj, hd0']) | (with_reducible refine WW (by decide) ?_))
 refine k2.mono ?_
 rintro _ s1 ⟨rfl, rfl⟩
 by_cases hfar : far c l = []
 · rw [if_pos hfar]
   have hlt : ¬ (((near c l).length : Nat) : Int) < (((diff c l).length : Nat) : Int) := by rw [hfar] at hdl; simp at hdl; omega
   have hde := diff_eq hfar
   rw [hde] at hd0
   have hB := fun i hi => Bd.col hb (i := i) hi
   have hNm : ∀ x, x ∈ near c l → c.alikeB x.2 = true ∧ x.2.size ≤ 10000000 := fun x hx => ⟨(near_mem hx).2, hb3 x (near_mem hx).1⟩
   rw [hde] at hlt ⊢
   clear hde k1 k2 k3 hdl hdl2 hd0' hrec hfar hb hb3 hfl
   generalize near c l = N at *
   have hsz : ∀ k nm n ar ps gs al bs pk, c = Cr.mk k nm n ar ps gs al bs pk → c.size = 1 + (gs.map fun x => x.size).sum + (al.map fun x => x.2.size).sum + (bs.map fun x => x.2.size).sum + (pk.map fun x => x.2.size).sum := fun _ _ _ _ _ _ _ _ _ e => by rw [e, Cr.size_eq]
   obtain ⟨k, nm, m, ar, ps, gs, al, bs, pk⟩ := c
   have hpl : (Cr.mk k nm m ar ps gs al bs pk).partsL.length = gs.length + al.length + bs.length := by simp [Cr.partsL]; omega
   rw [hpl] at hB
   have hsz := hsz _ _ _ _ _ _ _ _ _ rfl
   rw [inner_eq _ _ _ _ _ _ _ _ _ _ _ hd0]
   rw [Cr.cells_eq] at he
   have hl1 := len_le_sum (f := fun x : Cr => x.size) (fun x : Cr => x.size_pos) gs
   have hl2 := len_le_sum (f := fun x : AltH × Cr => x.2.size) (fun x : AltH × Cr => x.2.size_pos) al
   have hl3 := len_le_sum (f := fun x : ByteArray × Cr => x.2.size) (fun x : ByteArray × Cr => x.2.size_pos) bs
   have e1 : ∀ {t : Nat}, t ≤ (gs.map fun x => x.size).sum → t + 1 ≤ (Cr.mk k nm m ar ps gs al bs pk).size := fun h => by omega
   have e2 : ∀ {t : Nat}, t ≤ (al.map fun x => x.2.size).sum → t + 1 ≤ (Cr.mk k nm m ar ps gs al bs pk).size := fun h => by omega
   have e3 : ∀ {t : Nat}, t ≤ (bs.map fun x => x.2.size).sum → t + 1 ≤ (Cr.mk k nm m ar ps gs al bs pk).size := fun h => by omega
   refine raw ?_
   repeat (first | (with_reducible refine unr ?_; try simp only [YY, ↓reduceIte, Za, Zb, Zc, reduceCtorEq, Zd, Ze, Zf, Zg, Zh, Zi, Zj, hlt, he]) | (with_reducible refine WW (by decide) ?_))
   refine AWP_while [1, 2, 4, 7, 41, 42, 43] (fun y : AV × Nat => gs.length - y.2) (fun y => [.list (N.map pickC), .ptr z.next 0 0 0, .ptr (z.next + 1) 0 0 0, y.1, .list (gs.map Cr.cells), .int .i64 gs.length, .int .i64 y.2]) (fun y t => Grow s1 t y.1 28 9 (((gs.mapIdx fun i x => mergeN n x (colN N i)).take y.2).map Cr.cells) ∧ y.2 ≤ gs.length) (.nils, 0) ⟨grow_eq (Grow.start _ _ _) (by simp), by simp⟩ ?_ ?_
   · refine raw ?_
     repeat (first | (with_reducible refine unr ?_; try simp only [YY, ↓reduceIte, Za, Zb, Zc, reduceCtorEq, Zd, Ze, Zf, Zg, Zh, Zi, Zj]) | (with_reducible refine WW (by decide) ?_))
     rfl
   rintro ⟨v, i⟩ t ⟨hG, hi⟩
   simp only at hi hG
   have he1 := hG.kp.get he
   have he3 := hG.kp.get he2
   by_cases hil : i < gs.length
   · have hil' : (i : Int) < (gs.length : Int) := by omega
     have hw := wrap_succ (i := i) (by omega)
     obtain ⟨x, hx⟩ : ∃ x, gs[i]? = some x := ⟨_, List.getElem?_eq_getElem hil⟩
     have hg : (gs.map Cr.cells)[i]? = some (Cr.cells x) := by simp [hx]
     have hxm := List.mem_of_getElem? hx
     have hps : x.size + 1 ≤ (Cr.mk k nm m ar ps gs al bs pk).size := e1 (le_sum (f := (fun x:Cr=>x.size)) hxm)
     have hbx := hB (i) (by omega)
     rw [parts_gs hx] at hbx
     have hih := ih x (colN N (i)) (by omega) hbx
     have hG1 := (hG.push (.cells 3 0 1 [[.int .i64 i]])).push (.cells 28 0 9 [Cr.cells x])
     have hp : ((t.push (.cells 3 0 1 [[.int .i64 i]])).push (.cells 28 0 9 [Cr.cells x])).get t.next = some (.cells 3 0 1 [[.int .i64 i]]) := by simp [Store.push_get, Store.push_next]
     have hcol := colF_ok ((t.push (.cells 3 0 1 [[.int .i64 i]])).push (.cells 28 0 9 [Cr.cells x])) N (by omega) 39 [.ptr t.next 0 0 0] (fun y => y.partsL.getD (i) Cr.zero) (fun y hy s hs => by
      obtain ⟨e, h1, h2⟩ := at39 (hNm y hy).1 hil
      rw [h2]
      exact clo39 s t.next i y.2 e (hs.get hp) h1)
     have hqq : (t.next + 1 = t.next) = False := by simp
     have hqq2 : (t.next = t.next + 1) = False := by simp
     refine raw ?_
     repeat (first | (with_reducible refine unr ?_; try simp only [YY, ↓reduceIte, Za, Zb, Zc, reduceCtorEq, Zd, Ze, Zf, Zg, Zh, Zi, Zj, he1, hil', hg, Cr.len, Cr.len, Cr.take9, Cr.drop9, hqq, hqq2]) | (with_reducible refine WW (by decide) ?_))
     refine hcol.mono ?_
     rintro _ _ ⟨rfl, rfl⟩
     refine raw ?_
     repeat (first | (with_reducible refine unr ?_; try simp only [YY, ↓reduceIte, Za, Zb, Zc, reduceCtorEq, Zd, Ze, Zf, Zg, Zh, Zi, Zj, he1, hil', hg, Cr.len, Cr.len, Cr.take9, Cr.drop9, hqq, hqq2]) | (with_reducible refine WW (by decide) ?_))
     refine (hih _).mono ?_
     rintro _ _ ⟨rfl, rfl⟩
     refine raw ?_
     repeat (first | (with_reducible refine unr ?_; try simp only [YY, ↓reduceIte, Za, Zb, Zc, reduceCtorEq, Zd, Ze, Zf, Zg, Zh, Zi, Zj, hqq, hqq2, Cr.len, Cr.len, Cr.take9, Cr.drop9]) | (with_reducible refine WW (by decide) ?_))
     refine ok_grow ((hG.push _).push _) (by simp [Cr.len]) (by simp [List.length_take]; omega) (by simp [List.length_take, maxLen]; omega) ?_
     intro v2 s2 hG2 _ _
     refine raw ?_
     repeat (first | (with_reducible refine unr ?_; try simp only [YY, ↓reduceIte, Za, Zb, Zc, reduceCtorEq, Zd, Ze, Zf, Zg, Zh, Zi, Zj, hw]) | (with_reducible refine WW (by decide) ?_))
     exact ⟨(v2, i + 1), rfl, ⟨grow_eq hG2 (by simp [List.take_add_one, hx, Cr.len]), by simp only; omega⟩, by simp only; omega⟩
   have : i = gs.length := by omega
   subst this
   have hil' : ¬ ((gs.length : Nat) : Int) < (gs.length : Int) := by omega
   have hR := grow_eq hG (by rw [List.take_of_length_le (by simp)])
   have hA := hR
   have v1 : ∀ o, (t.upd z.next o).get z.next = some o := fun o => Store.get_upd_self _ _ (t.lt he1)
   refine raw ?_
   repeat (first | (with_reducible refine unr ?_; try simp only [YY, ↓reduceIte, Za, Zb, Zc, reduceCtorEq, Zd, Ze, Zf, Zg, Zh, Zi, Zj, he1, hil', hA.sl.co, v1]) | (with_reducible refine WW (by decide) ?_))
   generalize hs2 : Store.upd t _ _ = s2
   have g1 : s2.get z.next = some (.cells 28 0 9 [[.int .i64 k, .str nm, .int .i64 m, .int .i64 ar, strs ps, v, .list (al.map altC), .list (bs.map bindC), .list (pk.map pickC)]]) := by rw [← hs2]; exact v1 _
   have g2 : s2.get (z.next + 1) = some (.cells 28 0 9 [zeroC]) := by rw [← hs2, Store.get_upd_ne _ _ (by omega)]; exact he3
   have n2 : s2.next = t.next := by rw [← hs2]; rfl
   have hA2 : SliceAt s2 v 28 9 ((gs.mapIdx fun i x => mergeN n x (colN N i)).map Cr.cells) := hA.sl.keep fun j hj => by rw [← hs2]; exact Store.get_upd_ne _ _ (by have := hA.fresh j hj; omega)
   have fA : ∀ j, j ∈ slIds v → z.next + 1 < j := fun j hj => by have := hA.fresh j hj; omega
   have hn2 : z.next + 1 < s2.next := by have := hA.kp.next; omega
   clear hs2 hA hR hG he he2 he1 he3 v1 n2 hil hil' hi
   have he := g1
   have he2 := g2
   refine AWP_while [1, 2, 4, 10, 60, 61, 62] (fun y : AV × Nat => al.length - y.2) (fun y => [.list (N.map pickC), .ptr z.next 0 0 0, .ptr (z.next + 1) 0 0 0, y.1, .list (al.map altC), .int .i64 al.length, .int .i64 y.2]) (fun y t => Grow s2 t y.1 58 13 (((al.mapIdx fun i x => (x.1, mergeN n x.2 (colN N (gs.length+i)))).take y.2).map altC) ∧ y.2 ≤ al.length) (.nils, 0) ⟨grow_eq (Grow.start _ _ _) (by simp), by simp⟩ ?_ ?_
   · refine raw ?_
     repeat (first | (with_reducible refine unr ?_; try simp only [YY, ↓reduceIte, Za, Zb, Zc, reduceCtorEq, Zd, Ze, Zf, Zg, Zh, Zi, Zj]) | (with_reducible refine WW (by decide) ?_))
     rfl
   rintro ⟨v', i⟩ u ⟨hG, hi⟩
   simp only at hi hG
   have he1 := hG.kp.get he
   have he3 := hG.kp.get he2
   by_cases hil : i < al.length
   · have hil' : (i : Int) < (al.length : Int) := by omega
     have hw := wrap_succ (i := i) (by omega)
     obtain ⟨x, hx⟩ : ∃ x, al[i]? = some x := ⟨_, List.getElem?_eq_getElem hil⟩
     have hg : (al.map altC)[i]? = some (altC x) := by simp [hx]
     have hxm := List.mem_of_getElem? hx
     have hps : x.2.size + 1 ≤ (Cr.mk k nm m ar ps gs al bs pk).size := e2 (le_sum (f := (fun x:AltH×Cr=>x.2.size)) hxm)
     have hbx := hB (gs.length+i) (by omega)
     rw [parts_al hx] at hbx
     have hih := ih x.2 (colN N (gs.length+i)) (by omega) hbx
     have hG1 := (hG.push (.cells 3 0 1 [[.int .i64 i]])).push (.cells 58 0 13 [altC x])
     have hp : ((u.push (.cells 3 0 1 [[.int .i64 i]])).push (.cells 58 0 13 [altC x])).get u.next = some (.cells 3 0 1 [[.int .i64 i]]) := by simp [Store.push_get, Store.push_next]
     have hcol := colF_ok ((u.push (.cells 3 0 1 [[.int .i64 i]])).push (.cells 58 0 13 [altC x])) N (by omega) 40 [.ptr u.next 0 0 0] (fun y => y.partsL.getD (gs.length+i) Cr.zero) (fun y hy s hs => by
      obtain ⟨e, h1, h2⟩ := at40 (hNm y hy).1 hil
      rw [h2]
      exact clo40 s u.next i y.2 e (hs.get hp) h1)
     have hqq : (u.next + 1 = u.next) = False := by simp
     have hqq2 : (u.next = u.next + 1) = False := by simp
     refine raw ?_
     repeat (first | (with_reducible refine unr ?_; try simp only [YY, ↓reduceIte, Za, Zb, Zc, reduceCtorEq, Zd, Ze, Zf, Zg, Zh, Zi, Zj, he1, hil', hg, altC, AltH.cells, Cr.len, Cr.take9, Cr.drop9, hqq, hqq2]) | (with_reducible refine WW (by decide) ?_))
     refine hcol.mono ?_
     rintro _ _ ⟨rfl, rfl⟩
     refine raw ?_
     repeat (first | (with_reducible refine unr ?_; try simp only [YY, ↓reduceIte, Za, Zb, Zc, reduceCtorEq, Zd, Ze, Zf, Zg, Zh, Zi, Zj, he1, hil', hg, altC, AltH.cells, Cr.len, Cr.take9, Cr.drop9, hqq, hqq2]) | (with_reducible refine WW (by decide) ?_))
     refine (hih _).mono ?_
     rintro _ _ ⟨rfl, rfl⟩
     refine raw ?_
     repeat (first | (with_reducible refine unr ?_; try simp only [YY, ↓reduceIte, Za, Zb, Zc, reduceCtorEq, Zd, Ze, Zf, Zg, Zh, Zi, Zj, hqq, hqq2, altC, AltH.cells, Cr.len, Cr.take9, Cr.drop9]) | (with_reducible refine WW (by decide) ?_))
     refine ok_grow ((hG.push _).push _) (by simp [Cr.len]) (by simp [List.length_take]; omega) (by simp [List.length_take, maxLen]; omega) ?_
     intro v2 s2 hG2 _ _
     refine raw ?_
     repeat (first | (with_reducible refine unr ?_; try simp only [YY, ↓reduceIte, Za, Zb, Zc, reduceCtorEq, Zd, Ze, Zf, Zg, Zh, Zi, Zj, hw]) | (with_reducible refine WW (by decide) ?_))
     exact ⟨(v2, i + 1), rfl, ⟨grow_eq hG2 (by simp [List.take_add_one, hx, altC, AltH.cells]), by simp only; omega⟩, by simp only; omega⟩
   have : i = al.length := by omega
   subst this
   have hil' : ¬ ((al.length : Nat) : Int) < (al.length : Int) := by omega
   have hR := grow_eq hG (by rw [List.take_of_length_le (by simp)])
   have hB' := hR
   have v1 : ∀ o, (u.upd z.next o).get z.next = some o := fun o => Store.get_upd_self _ _ (u.lt he1)
   refine raw ?_
   repeat (first | (with_reducible refine unr ?_; try simp only [YY, ↓reduceIte, Za, Zb, Zc, reduceCtorEq, Zd, Ze, Zf, Zg, Zh, Zi, Zj, he1, hil', hB'.sl.co, v1]) | (with_reducible refine WW (by decide) ?_))
   generalize hs3 : Store.upd u _ _ = s3
   have g1 : s3.get z.next = some (.cells 28 0 9 [[.int .i64 k, .str nm, .int .i64 m, .int .i64 ar, strs ps, v, v', .list (bs.map bindC), .list (pk.map pickC)]]) := by rw [← hs3]; exact v1 _
   have g2 : s3.get (z.next + 1) = some (.cells 28 0 9 [zeroC]) := by rw [← hs3, Store.get_upd_ne _ _ (by omega)]; exact he3
   have n3 : s3.next = u.next := by rw [← hs3]; rfl
   have kB := hB'.kp.next
   have hA3 : SliceAt s3 v 28 9 ((gs.mapIdx fun i x => mergeN n x (colN N i)).map Cr.cells) := hA2.keep fun j hj => by rw [← hs3, Store.get_upd_ne _ _ (by have := fA j hj; omega)]; exact hB'.kp.keep j (hA2.lt hj)
   have hB3 : SliceAt s3 v' 58 13 ((al.mapIdx fun i x => (x.1, mergeN n x.2 (colN N (gs.length+i)))).map altC) := hB'.sl.keep fun j hj => by rw [← hs3]; exact Store.get_upd_ne _ _ (by have := hB'.fresh j hj; omega)
   have fB : ∀ j, j ∈ slIds v' → z.next + 1 < j := fun j hj => by have := hB'.fresh j hj; omega
   have hn3 : z.next + 1 < s3.next := by omega
   clear hs3 hB' hR hG he he2 he1 he3 v1 n3 hil hil' hi hA2 kB
   have he := g1
   have he2 := g2
   refine AWP_while [1, 2, 4, 13, 82, 83, 84] (fun y : AV × Nat => bs.length - y.2) (fun y => [.list (N.map pickC), .ptr z.next 0 0 0, .ptr (z.next + 1) 0 0 0, y.1, .list (bs.map bindC), .int .i64 bs.length, .int .i64 y.2]) (fun y t => Grow s3 t y.1 59 10 (((bs.mapIdx fun i x => (x.1, mergeN n x.2 (colN N (gs.length+al.length+i)))).take y.2).map bindC) ∧ y.2 ≤ bs.length) (.nils, 0) ⟨grow_eq (Grow.start _ _ _) (by simp), by simp⟩ ?_ ?_
   · refine raw ?_
     repeat (first | (with_reducible refine unr ?_; try simp only [YY, ↓reduceIte, Za, Zb, Zc, reduceCtorEq, Zd, Ze, Zf, Zg, Zh, Zi, Zj]) | (with_reducible refine WW (by decide) ?_))
     rfl
   rintro ⟨v'', i⟩ w ⟨hG, hi⟩
   simp only at hi hG
   have he1 := hG.kp.get he
   have he3 := hG.kp.get he2
   by_cases hil : i < bs.length
   · have hil' : (i : Int) < (bs.length : Int) := by omega
     have hw := wrap_succ (i := i) (by omega)
     obtain ⟨x, hx⟩ : ∃ x, bs[i]? = some x := ⟨_, List.getElem?_eq_getElem hil⟩
     have hg : (bs.map bindC)[i]? = some (bindC x) := by simp [hx]
     have hxm := List.mem_of_getElem? hx
     have hps : x.2.size + 1 ≤ (Cr.mk k nm m ar ps gs al bs pk).size := e3 (le_sum (f := (fun x:ByteArray×Cr=>x.2.size)) hxm)
     have hbx := hB (gs.length+al.length+i) (by omega)
     rw [parts_bs hx] at hbx
     have hih := ih x.2 (colN N (gs.length+al.length+i)) (by omega) hbx
     have hG1 := (hG.push (.cells 3 0 1 [[.int .i64 i]])).push (.cells 59 0 10 [bindC x])
     have hp : ((w.push (.cells 3 0 1 [[.int .i64 i]])).push (.cells 59 0 10 [bindC x])).get w.next = some (.cells 3 0 1 [[.int .i64 i]]) := by simp [Store.push_get, Store.push_next]
     have hcol := colF_ok ((w.push (.cells 3 0 1 [[.int .i64 i]])).push (.cells 59 0 10 [bindC x])) N (by omega) 41 [.ptr w.next 0 0 0] (fun y => y.partsL.getD (gs.length+al.length+i) Cr.zero) (fun y hy s hs => by
      obtain ⟨e, h1, h2⟩ := at41 (hNm y hy).1 hil
      rw [h2]
      exact clo41 s w.next i y.2 e (hs.get hp) h1)
     have hqq : (w.next + 1 = w.next) = False := by simp
     have hqq2 : (w.next = w.next + 1) = False := by simp
     refine raw ?_
     repeat (first | (with_reducible refine unr ?_; try simp only [YY, ↓reduceIte, Za, Zb, Zc, reduceCtorEq, Zd, Ze, Zf, Zg, Zh, Zi, Zj, he1, hil', hg, bindC, Cr.len, Cr.take9, Cr.drop9, hqq, hqq2]) | (with_reducible refine WW (by decide) ?_))
     refine hcol.mono ?_
     rintro _ _ ⟨rfl, rfl⟩
     refine raw ?_
     repeat (first | (with_reducible refine unr ?_; try simp only [YY, ↓reduceIte, Za, Zb, Zc, reduceCtorEq, Zd, Ze, Zf, Zg, Zh, Zi, Zj, he1, hil', hg, bindC, Cr.len, Cr.take9, Cr.drop9, hqq, hqq2]) | (with_reducible refine WW (by decide) ?_))
     refine (hih _).mono ?_
     rintro _ _ ⟨rfl, rfl⟩
     refine raw ?_
     repeat (first | (with_reducible refine unr ?_; try simp only [YY, ↓reduceIte, Za, Zb, Zc, reduceCtorEq, Zd, Ze, Zf, Zg, Zh, Zi, Zj, hqq, hqq2, bindC, Cr.len, Cr.take9, Cr.drop9]) | (with_reducible refine WW (by decide) ?_))
     refine ok_grow ((hG.push _).push _) (by simp [Cr.len]) (by simp [List.length_take]; omega) (by simp [List.length_take, maxLen]; omega) ?_
     intro v2 s2 hG2 _ _
     refine raw ?_
     repeat (first | (with_reducible refine unr ?_; try simp only [YY, ↓reduceIte, Za, Zb, Zc, reduceCtorEq, Zd, Ze, Zf, Zg, Zh, Zi, Zj, hw]) | (with_reducible refine WW (by decide) ?_))
     exact ⟨(v2, i + 1), rfl, ⟨grow_eq hG2 (by simp [List.take_add_one, hx, bindC]), by simp only; omega⟩, by simp only; omega⟩
   have : i = bs.length := by omega
   subst this
   have hil' : ¬ ((bs.length : Nat) : Int) < (bs.length : Int) := by omega
   have hR := grow_eq hG (by rw [List.take_of_length_le (by simp)])
   have hC := hR
   have v1 : ∀ o, (w.upd z.next o).get z.next = some o := fun o => Store.get_upd_self _ _ (w.lt he1)
   have v2 : ∀ o, (w.upd z.next o).get (z.next + 1) = some (.cells 28 0 9 [zeroC]) := fun o => by rw [Store.get_upd_ne _ _ (by omega)]; exact he3
   have v3 : ∀ o o2, ((w.upd z.next o).upd (z.next + 1) o2).get (z.next + 1) = some o2 := fun o o2 => Store.get_upd_self _ _ (w.lt he3)
   refine raw ?_
   repeat (first | (with_reducible refine unr ?_; try simp only [YY, ↓reduceIte, Za, Zb, Zc, reduceCtorEq, Zd, Ze, Zf, Zg, Zh, Zi, Zj, he1, hil', hC.sl.co, v1, v2, v3]) | (with_reducible refine WW (by decide) ?_))
   have kC := hC.kp.next
   have kp : ∀ (o o2 : AObj) (i : Nat), z.next + 1 < i → ((w.upd z.next o).upd (z.next + 1) o2).get i = w.get i := fun o o2 i h => by rw [Store.get_upd_ne _ _ (by omega), Store.get_upd_ne _ _ (by omega)]
   exact core_outD (hA3.keep fun j hj => by rw [kp _ _ _ (fA j hj)]; exact hC.kp.keep j (hA3.lt hj)) (hB3.keep fun j hj => by rw [kp _ _ _ (fB j hj)]; exact hC.kp.keep j (hB3.lt hj)) (hC.sl.keep fun j hj => kp _ _ _ (by have := hC.fresh j hj; omega)) (.refl _)
 · rw [if_neg hfar]
   have hlt : (((near c l).length : Nat) : Int) < (((diff c l).length : Nat) : Int) := by
    have := List.length_pos_iff.2 hfar
    omega
   have hr := hrec hfar
   refine raw ?_
   repeat (first | (with_reducible refine unr ?_; try simp only [YY, ↓reduceIte, Za, Zb, Zc, reduceCtorEq, Zd, Ze, Zf, Zg, Zh, Zi, Zj, hlt]) | (with_reducible refine WW (by decide) ?_))
   refine k3.mono ?_
   rintro _ s1 ⟨rfl, rfl⟩
   refine raw ?_
   repeat (first | (with_reducible refine unr ?_; try simp only [YY, ↓reduceIte, Za, Zb, Zc, reduceCtorEq, Zd, Ze, Zf, Zg, Zh, Zi, Zj, he, Cr.len, Cr.take9, Cr.drop9]) | (with_reducible refine WW (by decide) ?_))
   refine (hr _).mono ?_
   rintro _ s1 ⟨rfl, rfl⟩
   refine raw ?_
   repeat (first | (with_reducible refine unr ?_; try simp only [YY, ↓reduceIte, Za, Zb, Zc, reduceCtorEq, Zd, Ze, Zf, Zg, Zh, Zi, Zj, he2, u1, Cr.len, Cr.take9, Cr.drop9]) | (with_reducible refine WW (by decide) ?_))
   exact pick_outL
theorem merge_ok : ∀ n : Nat, MC 21 n
 | 0, c, _, hc, _, _ => by have := c.size_pos; omega
 | n + 1, c, l, hc, hb, σ => by
  refine merge_step n (merge_ok n) c l hc hb (fun _ σ => ?_) σ
  have := merge_step n (merge_ok n) c (near c l) hc hb.near (fun h => absurd (far_near c l) h) σ
  rwa [mergeN, if_pos (far_near c l), near_near] at this
end Go.Proofs.YtgjcnkcepdoedaaGreat
set_option linter.unusedVariables false
set_option linter.unusedSimpArgs false
namespace Go.AL
def Good (c : Cr) (l : List (Int × Cr)) : Prop := c.plain = true ∧ (l.map (·.1)).Nodup ∧ ∀ x, x ∈ l → x.2.plain = true
noncomputable def mergeOut (c : Cr) (l : List (Int × Cr)) : Cr × Int := @ite _ (Good c l) (Classical.propDecidable _) (mergeN c.size c l, 0) (Cr.zero, 1)
theorem mergeOut_t {c : Cr} {l : List (Int × Cr)} (h : Good c l) : mergeOut c l = (mergeN c.size c l, 0) := by rw [mergeOut, if_pos h]
theorem mergeOut_f {c : Cr} {l : List (Int × Cr)} (h : ¬ Good c l) : mergeOut c l = (Cr.zero, 1) := by rw [mergeOut, if_neg h]
def outA (p : Cr × Int) : AV := .tuple [.agg p.1.cells, .int .i64 p.2]
theorem outA_f {σ : Store} {c : Cr} {l : List (Int × Cr)} (h : ¬ Good c l) : ∃ r', LeD (.tuple [.agg zeroC, .int .i64 1]) r' ∧ Frz σ 2 r' (outA (mergeOut c l)) := by
 rw [mergeOut_f h]
 exact ⟨_, .tuple (.cons (.agg zero_le) (.cons (.refl _) .nil)), .tuple (.cons (.agg (Cr.frz _ _)) (.cons (.int _ _ _) (.nil _)))⟩
theorem outA_t {σ : Store} {c : Cr} {l : List (Int × Cr)} (h : Good c l) : ∃ r', LeD (.tuple [.agg (mergeN c.size c l).cells, .int .i64 0]) r' ∧ Frz σ 2 r' (outA (mergeOut c l)) := by
 rw [mergeOut_t h]
 exact ⟨_, .refl _, .tuple (.cons (.agg (Cr.frz _ _)) (.cons (.int _ _ _) (.nil _)))⟩
theorem nodup_succ {l : List (Int × Cr)} {i : Nat} {x : Int × Cr} (hx : l[i]? = some x) (h : ((l.take i).map (·.1)).Nodup) (hn : ∀ y, y ∈ l.take i → y.1 ≠ x.1) : ((l.take (i + 1)).map (·.1)).Nodup := by
 rw [List.take_add_one, hx, List.map_append, List.nodup_append]
 refine ⟨h, by simp, ?_⟩
 intro a ha b hb
 obtain ⟨y, hy, rfl⟩ := List.mem_map.1 ha
 simp at hb
 subst hb
 exact hn y hy
theorem nodup_no {l : List (Int × Cr)} {i k : Nat} {x y : Int × Cr} (hx : l[i]? = some x) (hy : l[k]? = some y) (hk : k < i) (he : y.1 = x.1) : ¬ (l.map (·.1)).Nodup := by
 intro h
 have hi := (List.getElem?_eq_some_iff.1 hx).1
 have h1 : (l.map (·.1))[i]? = some x.1 := by simp [hx]
 have h2 : (l.map (·.1))[k]? = some x.1 := by simp [hy, he]
 obtain ⟨q1, e1⟩ := List.getElem?_eq_some_iff.1 h1
 obtain ⟨q2, e2⟩ := List.getElem?_eq_some_iff.1 h2
 exact (List.pairwise_iff_getElem.1 h k i q2 q1 hk) (by rw [e1, e2])
end Go.AL
namespace Go.Proofs.YtgjcnkcepdoedaaGreat
open Go.AL
end Go.Proofs.YtgjcnkcepdoedaaGreat

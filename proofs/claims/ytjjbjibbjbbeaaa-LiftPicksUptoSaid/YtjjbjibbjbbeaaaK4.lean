/- A part of the proof of the claim: the abstract layer, the contracts of the functions, the law (no condition of its own). -/
import Derived.Test.YtjjbjibbjbbeaaaK3
import Derived.Test.YtjjbjibbjbbeaaaProg
import Derived.KernelRfl
open Nat renaming reduceEqDiff → Za, reduceAdd → Zb, reduceLeDiff → Zc
open Int renaming reduceEq → Zd, reduceLT → Ze, reduceLE → Zf, reduceNeg → Zg, reduceAdd → Zh, reduceSub → Zi, reduceToNat → Zj
/- The resolved code of some functions. -/
set_option linter.unusedVariables false
namespace Go.Proofs.Ytjjbjibbjbbeaaa
open Go.AL
/-- changeling/changelinglaw15.LiftAlone -/
def c5 : ACode :=
(.seq
 (.reg [oo 3 (.new 58 (.t 1)),
 oo 4 (.move (.c (.bool false)))])
 (.seq
 (.seq
 (.reg [mv 11 0,
 oo 12 (.call 16 [(.t 11)]),
 oo 13 (.not (.t 12)),
 mv 14 13,
 og 15 14 false (.load (some 10) (.t 3)),
 og 16 14 false (.lit false 58 10 [(.t 15)]),
 og 17 14 false (.call 16 [(.t 16)]),
 og 18 14 false (.not (.t 17)),
 oo 19 (.pick (.t 14) (.c (.bool true)) (.t 18))])
 (.cond (.t 19)
 (.seq
 (.reg [oo 20 (.call 18 []),
 mv 4 20])
 .ret)
 .skip))
 (.seq
 (.reg [mv 22 0,
 oo 23 (.call 19 [(.t 22)]),
 mv 21 23,
 oo 24 (.extract (.t 21) 0),
 oo 25 (.extract (.t 21) 1),
 mv 5 24,
 mv 6 25])
 (.seq
 (.reg [oo 7 (.move (.c .nils))])
 (.seq
 (.seq
 (.reg [oo 8 (.move (.c (.int .i64 0)))])
 (.block 0
 (.loop
 (.seq
 (.seq
 (.reg [mv 26 8,
 mv 27 0,
 oo 28 (.len .slice (.t 27)),
 oo 29 (.bin .int .lss (.t 26) (.t 28))])
 (.cond (.t 29)
 .skip
 (.exit 0)))
 (.seq
 (.block 1
 (.reg [mv 32 7,
 mv 33 0,
 mv 34 8,
 oo 35 (.iaddr 10 (.t 33) (.t 34)),
 oo 36 (.load (some 10) (.t 35)),
 oo 37 (.lit false 58 10 [(.t 36)]),
 oo 38 (.append 58 10 176 (.t 32) (.t 37)),
 mv 7 38]))
 (.reg [mv 30 8,
 oo 31 (.bin .int .add (.t 30) (.c (.int .i64 1))),
 mv 8 31]))))))
 (.seq
 (.reg [mv 40 7,
 oo 41 (.load (some 10) (.t 3)),
 oo 42 (.lit false 58 10 [(.t 41)]),
 oo 43 (.append 58 10 176 (.t 40) (.t 42)),
 oo 44 (.call 19 [(.t 43)]),
 mv 39 44,
 oo 45 (.extract (.t 39) 0),
 oo 46 (.extract (.t 39) 1),
 mv 9 45,
 mv 10 46])
 (.seq
 (.seq
 (.reg [mv 47 6,
 oo 48 (.bin .int .neq (.t 47) (.c (.int .i64 0))),
 mv 49 48,
 og 50 49 false (.move (.t 10)),
 og 51 49 false (.bin .int .neq (.t 50) (.c (.int .i64 0))),
 oo 52 (.pick (.t 49) (.c (.bool true)) (.t 51))])
 (.cond (.t 52)
 (.seq
 (.reg [oo 53 (.call 18 []),
 mv 4 53])
 .ret)
 .skip))
 (.seq
 (.reg [mv 54 9,
 oo 55 (.len .slice (.t 54)),
 mv 56 5,
 oo 57 (.len .slice (.t 56)),
 oo 58 (.bin .int .gtr (.t 55) (.t 57)),
 mv 59 58,
 og 60 59 true (.move (.t 9)),
 og 61 59 true (.move (.t 5)),
 og 62 59 true (.len .slice (.t 61)),
 og 63 59 true (.cut .slice 11 (.t 60) none (some (.t 62))),
 og 65 59 true (.move (.t 5)),
 og 64 59 true (.call 22 [(.t 63)]),
 og 66 59 true (.call 22 [(.t 65)]),
 og 67 59 true (.call 24 [(.t 64), (.t 66)]),
 oo 68 (.pick (.t 59) (.t 67) (.c (.bool false))),
 mv 69 68,
 og 70 69 true (.move (.t 9)),
 og 71 69 true (.move (.t 5)),
 og 72 69 true (.len .slice (.t 71)),
 og 73 69 true (.iaddr 11 (.t 70) (.t 72)),
 og 74 69 true (.faddr 0 (.t 73)),
 og 75 69 true (.load none (.t 74)),
 og 76 69 true (.faddr 0 (.t 3)),
 og 77 69 true (.load none (.t 76)),
 og 78 69 true (.bin .str .eql (.t 75) (.t 77)),
 oo 79 (.pick (.t 69) (.t 78) (.c (.bool false))),
 mv 80 79,
 og 81 80 true (.call 18 []),
 oo 82 (.pick (.t 80) (.t 81) (.c (.bool false))),
 mv 4 82])
 .ret))))))))
/-- changeling/changelinglaw15.small -/
def c16 : ACode :=
(.seq
 (.reg [oo 2 (.move (.c (.bool false)))])
 (.seq
 (.reg [oo 3 (.move (.c (.int .i64 0)))])
 (.seq
 (.seq
 (.reg [oo 4 (.move (.c (.int .i64 0)))])
 (.block 0
 (.loop
 (.seq
 (.seq
 (.reg [mv 5 4,
 mv 6 0,
 oo 7 (.len .slice (.t 6)),
 oo 8 (.bin .int .lss (.t 5) (.t 7))])
 (.cond (.t 8)
 .skip
 (.exit 0)))
 (.seq
 (.block 1
 (.seq
 (.seq
 (.reg [mv 11 4,
 oo 12 (.bin .int .gtr (.t 11) (.c (.int .i64 200))),
 mv 13 12,
 og 14 13 false (.move (.t 3)),
 og 15 13 false (.bin .int .gtr (.t 14) (.c (.int .i64 3000))),
 oo 16 (.pick (.t 13) (.c (.bool true)) (.t 15))])
 (.cond (.t 16)
 (.seq
 (.reg [oo 2 (.move (.c (.bool false)))])
 .ret)
 .skip))
 (.reg [mv 17 3,
 mv 18 0,
 mv 19 4,
 oo 20 (.iaddr 10 (.t 18) (.t 19)),
 oo 21 (.faddr 1 (.t 20)),
 oo 22 (.load (some 9) (.t 21)),
 oo 23 (.call 17 [(.t 22)]),
 oo 24 (.bin .int .add (.t 17) (.t 23)),
 mv 3 24])))
 (.reg [mv 9 4,
 oo 10 (.bin .int .add (.t 9) (.c (.int .i64 1))),
 mv 4 10]))))))
 (.seq
 (.reg [mv 25 3,
 oo 26 (.bin .int .leq (.t 25) (.c (.int .i64 3000))),
 mv 2 26])
 .ret))))
theorem in16 {args : List AV} {σ : Store} {K : AV → Store → Prop} (hargs : args.length ≤ 27 := by simp) (h : AWP Try.prog Try.f16.ntmps c16 (fun e t s => match e with | .exit _ => False | _ => Res [.slot 2] K t s) (env (argList 0 args)) σ) : ACalls Try.prog 16 args σ K :=
 enter (own := []) Try.func16 (by kernel_rfl) (by kernel_rfl) (by kernel_rfl) hargs h
/-- changeling/changelingref14.Size -/
def c17 : ACode :=
(.seq
 (.reg [oo 1 (.new 54 (.t 0)),
 oo 2 (.move (.c (.int .i64 0)))])
 (.seq
 (.reg [oo 3 (.move (.c (.int .i64 1)))])
 (.seq
 (.seq
 (.reg [oo 4 (.move (.c (.int .i64 0)))])
 (.block 0
 (.loop
 (.seq
 (.seq
 (.reg [mv 8 4,
 oo 9 (.faddr 5 (.t 1)),
 oo 10 (.load none (.t 9)),
 oo 11 (.len .slice (.t 10)),
 oo 12 (.bin .int .lss (.t 8) (.t 11))])
 (.cond (.t 12)
 .skip
 (.exit 0)))
 (.seq
 (.block 1
 (.reg [mv 15 3,
 oo 16 (.faddr 5 (.t 1)),
 oo 17 (.load none (.t 16)),
 mv 18 4,
 oo 19 (.iaddr 9 (.t 17) (.t 18)),
 oo 20 (.load (some 9) (.t 19)),
 oo 21 (.call 17 [(.t 20)]),
 oo 22 (.bin .int .add (.t 15) (.t 21)),
 mv 3 22]))
 (.reg [mv 13 4,
 oo 14 (.bin .int .add (.t 13) (.c (.int .i64 1))),
 mv 4 14]))))))
 (.seq
 (.seq
 (.reg [oo 5 (.move (.c (.int .i64 0)))])
 (.block 2
 (.loop
 (.seq
 (.seq
 (.reg [mv 23 5,
 oo 24 (.faddr 6 (.t 1)),
 oo 25 (.load none (.t 24)),
 oo 26 (.len .slice (.t 25)),
 oo 27 (.bin .int .lss (.t 23) (.t 26))])
 (.cond (.t 27)
 .skip
 (.exit 2)))
 (.seq
 (.block 3
 (.reg [mv 30 3,
 oo 31 (.faddr 6 (.t 1)),
 oo 32 (.load none (.t 31)),
 mv 33 5,
 oo 34 (.iaddr 13 (.t 32) (.t 33)),
 oo 35 (.faddr 4 (.t 34)),
 oo 36 (.load (some 9) (.t 35)),
 oo 37 (.call 17 [(.t 36)]),
 oo 38 (.bin .int .add (.t 30) (.t 37)),
 mv 3 38]))
 (.reg [mv 28 5,
 oo 29 (.bin .int .add (.t 28) (.c (.int .i64 1))),
 mv 5 29]))))))
 (.seq
 (.seq
 (.reg [oo 6 (.move (.c (.int .i64 0)))])
 (.block 4
 (.loop
 (.seq
 (.seq
 (.reg [mv 39 6,
 oo 40 (.faddr 7 (.t 1)),
 oo 41 (.load none (.t 40)),
 oo 42 (.len .slice (.t 41)),
 oo 43 (.bin .int .lss (.t 39) (.t 42))])
 (.cond (.t 43)
 .skip
 (.exit 4)))
 (.seq
 (.block 5
 (.reg [mv 46 3,
 oo 47 (.faddr 7 (.t 1)),
 oo 48 (.load none (.t 47)),
 mv 49 6,
 oo 50 (.iaddr 10 (.t 48) (.t 49)),
 oo 51 (.faddr 1 (.t 50)),
 oo 52 (.load (some 9) (.t 51)),
 oo 53 (.call 17 [(.t 52)]),
 oo 54 (.bin .int .add (.t 46) (.t 53)),
 mv 3 54]))
 (.reg [mv 44 6,
 oo 45 (.bin .int .add (.t 44) (.c (.int .i64 1))),
 mv 6 45]))))))
 (.seq
 (.seq
 (.reg [oo 7 (.move (.c (.int .i64 0)))])
 (.block 6
 (.loop
 (.seq
 (.seq
 (.reg [mv 55 7,
 oo 56 (.faddr 8 (.t 1)),
 oo 57 (.load none (.t 56)),
 oo 58 (.len .slice (.t 57)),
 oo 59 (.bin .int .lss (.t 55) (.t 58))])
 (.cond (.t 59)
 .skip
 (.exit 6)))
 (.seq
 (.block 7
 (.reg [mv 62 3,
 oo 63 (.faddr 8 (.t 1)),
 oo 64 (.load none (.t 63)),
 mv 65 7,
 oo 66 (.iaddr 10 (.t 64) (.t 65)),
 oo 67 (.faddr 1 (.t 66)),
 oo 68 (.load (some 9) (.t 67)),
 oo 69 (.call 17 [(.t 68)]),
 oo 70 (.bin .int .add (.t 62) (.t 69)),
 mv 3 70]))
 (.reg [mv 60 7,
 oo 61 (.bin .int .add (.t 60) (.c (.int .i64 1))),
 mv 7 61]))))))
 (.seq
 (.reg [mv 71 3,
 mv 2 71])
 .ret)))))))
theorem in17 {args : List AV} {σ : Store} {K : AV → Store → Prop} (hargs : args.length ≤ 72 := by simp) (h : AWP Try.prog Try.f17.ntmps c17 (fun e t s => match e with | .exit _ => False | _ => Res [.slot 2] K t s) (env (argList 0 args)) σ) : ACalls Try.prog 17 args σ K :=
 enter (own := []) Try.func17 (by kernel_rfl) (by kernel_rfl) (by kernel_rfl) hargs h
/-- changeling/lift.Lift -/
def c19 : ACode :=
(.seq
 (.reg [oo 2 (.move (.c .nils)),
 oo 3 (.move (.c (.int .i64 0)))])
 (.seq
 (.seq
 (.reg [mv 10 0,
 oo 11 (.call 47 [(.t 10)]),
 oo 12 (.not (.t 11))])
 (.cond (.t 12)
 (.seq
 (.reg [oo 2 (.move (.c .nils)),
 oo 3 (.move (.c (.int .i64 1)))])
 .ret)
 .skip))
 (.seq
 (.reg [oo 4 (.move (.c .nils))])
 (.seq
 (.seq
 (.reg [mv 13 0,
 oo 14 (.len .slice (.t 13)),
 oo 15 (.move (.c (.int .i64 0)))])
 (.block 0
 (.loop
 (.seq
 (.reg [oo 16 (.bin .int .lss (.t 15) (.t 14))])
 (.seq
 (.cond (.t 16)
 .skip
 (.exit 0))
 (.seq
 (.block 1
 (.seq
 (.reg [oo 17 (.iaddr 10 (.t 13) (.t 15)),
 oo 18 (.load (some 10) (.t 17)),
 oo 6 (.new 58 (.c (.agg [(.str ⟨#[]⟩), (.int .i64 0), (.str ⟨#[]⟩), (.int .i64 0), (.int .i64 0), .nils, .nils, .nils, .nils, .nils]))),
 ⟨none, .store 10 (.t 6) (.t 18), none⟩])
 (.seq
 (.reg [oo 19 (.faddr 0 (.t 6)),
 oo 20 (.load none (.t 19)),
 oo 21 (.build [(.str ⟨#[]⟩), .nils] [(0, 1, (.t 20))]),
 oo 22 (.new 120 (.t 21)),
 mv 7 22])
 (.seq
 (.reg [oo 23 (.faddr 0 (.t 6)),
 oo 24 (.load none (.t 23)),
 oo 25 (.build [(.str ⟨#[]⟩), .nils, (.int .i64 0), (.str ⟨#[]⟩), (.int .i64 0), (.int .i64 0), .nils, .nils, .nils, .nils, .nils] [(0, 1, (.t 24))]),
 oo 8 (.new 71 (.c (.agg [(.str ⟨#[]⟩), .nils, (.int .i64 0), (.str ⟨#[]⟩), (.int .i64 0), (.int .i64 0), .nils, .nils, .nils, .nils, .nils]))),
 ⟨none, .store 11 (.t 8) (.t 25), none⟩])
 (.seq
 (.reg [oo 26 (.faddr 1 (.t 6)),
 oo 27 (.load (some 9) (.t 26)),
 oo 9 (.new 54 (.c (.agg [(.int .i64 0), (.str ⟨#[]⟩), (.int .i64 0), (.int .i64 0), .nils, .nils, .nils, .nils, .nils]))),
 ⟨none, .store 9 (.t 9) (.t 27), none⟩])
 (.seq
 (.seq
 (.reg [oo 28 (.faddr 0 (.t 9)),
 oo 29 (.load none (.t 28)),
 oo 30 (.bin .int .eql (.t 29) (.c (.int .i64 6)))])
 (.cond (.t 30)
 (.seq
 (.reg [oo 31 (.faddr 1 (.t 8)),
 oo 32 (.load none (.t 31)),
 oo 33 (.faddr 4 (.t 9)),
 oo 34 (.load none (.t 33)),
 oo 35 (.append 9 1 16 (.t 32) (.t 34)),
 oo 36 (.faddr 1 (.t 8)),
 ⟨none, .store 1 (.t 36) (.t 35), none⟩])
 (.reg [oo 37 (.faddr 5 (.t 9)),
 oo 38 (.load none (.t 37)),
 oo 39 (.iaddr 9 (.t 38) (.c (.int .i64 0))),
 oo 40 (.load (some 9) (.t 39)),
 ⟨none, .store 9 (.t 9) (.t 40), none⟩]))
 .skip))
 (.seq
 (.reg [mv 41 7,
 oo 42 (.load (some 9) (.t 9)),
 oo 43 (.call 48 [(.t 41), (.t 42)]),
 oo 44 (.faddr 2 (.t 8)),
 ⟨none, .store 9 (.t 44) (.t 43), none⟩])
 (.seq
 (.reg [mv 45 4,
 oo 46 (.load (some 11) (.t 8)),
 oo 47 (.lit false 71 11 [(.t 46)]),
 oo 48 (.append 71 11 200 (.t 45) (.t 47)),
 mv 4 48])
 (.reg [mv 49 4,
 mv 50 7,
 oo 51 (.nilck (.t 50)),
 oo 52 (.faddr 1 (.t 51)),
 oo 53 (.load none (.t 52)),
 oo 54 (.append 71 11 200 (.t 49) (.t 53)),
 mv 4 54])))))))))
 (.reg [oo 55 (.bin .int .add (.t 15) (.c (.int .i64 1))),
 mv 15 55])))))))
 (.seq
 (.reg [mv 56 4,
 mv 2 56,
 oo 3 (.move (.c (.int .i64 0)))])
 .ret)))))
theorem in19 {args : List AV} {σ : Store} {K : AV → Store → Prop} (hargs : args.length ≤ 57 := by simp) (h : AWP Try.prog Try.f19.ntmps c19 (fun e t s => match e with | .exit _ => False | _ => Res [.slot 2, .slot 3] K t s) (env (argList 0 args)) σ) : ACalls Try.prog 19 args σ K :=
 enter (own := []) Try.func19 (by kernel_rfl) (by kernel_rfl) (by kernel_rfl) hargs h
/-- changeling/lift.Right -/
def c47 : ACode :=
(.seq
 (.reg [oo 2 (.move (.c (.bool false)))])
 (.seq
 (.reg [oo 8 (.build [.nils] []),
 oo 9 (.new 196 (.t 8)),
 mv 3 9])
 (.seq
 (.seq
 (.reg [mv 10 0,
 oo 11 (.len .slice (.t 10)),
 oo 12 (.move (.c (.int .i64 0)))])
 (.block 0
 (.loop
 (.seq
 (.reg [oo 13 (.bin .int .lss (.t 12) (.t 11))])
 (.seq
 (.cond (.t 13)
 .skip
 (.exit 0))
 (.seq
 (.block 1
 (.seq
 (.reg [oo 14 (.iaddr 10 (.t 10) (.t 12)),
 oo 15 (.load (some 10) (.t 14)),
 oo 5 (.new 58 (.c (.agg [(.str ⟨#[]⟩), (.int .i64 0), (.str ⟨#[]⟩), (.int .i64 0), (.int .i64 0), .nils, .nils, .nils, .nils, .nils]))),
 ⟨none, .store 10 (.t 5) (.t 15), none⟩])
 (.seq
 (.seq
 (.reg [oo 16 (.faddr 0 (.t 5)),
 oo 17 (.load none (.t 16)),
 oo 18 (.bin .str .eql (.t 17) (.c (.str ⟨#[]⟩))),
 mv 19 18,
 og 20 19 false (.faddr 0 (.t 5)),
 og 21 19 false (.load none (.t 20)),
 og 22 19 false (.call 83 [(.t 21)]),
 og 23 19 false (.bin .int .gtr (.t 22) (.c (.int .i64 0))),
 oo 24 (.pick (.t 19) (.c (.bool true)) (.t 23)),
 mv 25 24,
 og 26 25 false (.faddr 0 (.t 5)),
 og 27 25 false (.load none (.t 26)),
 og 28 25 false (.call 84 [(.t 27)]),
 oo 29 (.pick (.t 25) (.c (.bool true)) (.t 28)),
 mv 30 29,
 og 31 30 false (.move (.t 3)),
 og 32 30 false (.nilck (.t 31)),
 og 33 30 false (.faddr 0 (.t 32)),
 og 34 30 false (.load none (.t 33)),
 og 35 30 false (.faddr 0 (.t 5)),
 og 36 30 false (.load none (.t 35)),
 og 37 30 false (.call 85 [(.t 34), (.t 36)]),
 oo 38 (.pick (.t 30) (.c (.bool true)) (.t 37))])
 (.cond (.t 38)
 (.seq
 (.reg [oo 2 (.move (.c (.bool false)))])
 .ret)
 .skip))
 (.reg [mv 39 3,
 mv 40 3,
 oo 41 (.nilck (.t 40)),
 oo 42 (.faddr 0 (.t 41)),
 oo 43 (.load none (.t 42)),
 oo 44 (.faddr 0 (.t 5)),
 oo 45 (.load none (.t 44)),
 oo 46 (.lit false 9 1 [(.t 45)]),
 oo 47 (.append 9 1 16 (.t 43) (.t 46)),
 oo 48 (.nilck (.t 39)),
 oo 49 (.faddr 0 (.t 48)),
 ⟨none, .store 1 (.t 49) (.t 47), none⟩]))))
 (.reg [oo 50 (.bin .int .add (.t 12) (.c (.int .i64 1))),
 mv 12 50])))))))
 (.seq
 (.seq
 (.reg [mv 51 0,
 oo 52 (.len .slice (.t 51)),
 oo 53 (.move (.c (.int .i64 0)))])
 (.block 2
 (.loop
 (.seq
 (.reg [oo 54 (.bin .int .lss (.t 53) (.t 52))])
 (.seq
 (.cond (.t 54)
 .skip
 (.exit 2))
 (.seq
 (.block 3
 (.seq
 (.reg [oo 55 (.iaddr 10 (.t 51) (.t 53)),
 oo 56 (.load (some 10) (.t 55)),
 oo 7 (.new 58 (.c (.agg [(.str ⟨#[]⟩), (.int .i64 0), (.str ⟨#[]⟩), (.int .i64 0), (.int .i64 0), .nils, .nils, .nils, .nils, .nils]))),
 ⟨none, .store 10 (.t 7) (.t 56), none⟩])
 (.seq
 (.reg [mv 57 3,
 oo 58 (.faddr 1 (.t 7)),
 oo 59 (.load (some 9) (.t 58)),
 oo 60 (.call 86 [(.t 57), (.t 59), (.c .nils)]),
 oo 61 (.not (.t 60))])
 (.cond (.t 61)
 (.seq
 (.reg [oo 2 (.move (.c (.bool false)))])
 .ret)
 .skip))))
 (.reg [oo 62 (.bin .int .add (.t 53) (.c (.int .i64 1))),
 mv 53 62])))))))
 (.seq
 (.reg [oo 2 (.move (.c (.bool true)))])
 .ret)))))
theorem in47 {args : List AV} {σ : Store} {K : AV → Store → Prop} (hargs : args.length ≤ 63 := by simp) (h : AWP Try.prog Try.f47.ntmps c47 (fun e t s => match e with | .exit _ => False | _ => Res [.slot 2] K t s) (env (argList 0 args)) σ) : ACalls Try.prog 47 args σ K :=
 enter (own := []) Try.func47 (by kernel_rfl) (by kernel_rfl) (by kernel_rfl) hargs h
/-- changeling/num.Op -/
def c83 : ACode :=
(.seq
 (.reg [oo 2 (.move (.c (.int .i64 0)))])
 (.seq
 (.seq
 (.reg [mv 4 0,
 oo 5 (.bin .str .eql (.t 4) (.c (.str ⟨#[]⟩)))])
 (.cond (.t 5)
 (.seq
 (.reg [oo 2 (.move (.c (.int .i64 0)))])
 .ret)
 .skip))
 (.seq
 (.seq
 (.reg [oo 3 (.move (.c (.int .i64 1)))])
 (.block 0
 (.loop
 (.seq
 (.seq
 (.reg [mv 6 3,
 oo 7 (.bin .int .leq (.t 6) (.c (.int .i64 11)))])
 (.cond (.t 7)
 .skip
 (.exit 0)))
 (.seq
 (.block 1
 (.seq
 (.reg [mv 10 3,
 oo 11 (.call 110 [(.t 10)]),
 mv 12 0,
 oo 13 (.bin .str .eql (.t 11) (.t 12))])
 (.cond (.t 13)
 (.seq
 (.reg [mv 14 3,
 mv 2 14])
 .ret)
 .skip)))
 (.reg [mv 8 3,
 oo 9 (.bin .int .add (.t 8) (.c (.int .i64 1))),
 mv 3 9]))))))
 (.seq
 (.reg [oo 2 (.move (.c (.int .i64 0)))])
 .ret))))
theorem in83 {args : List AV} {σ : Store} {K : AV → Store → Prop} (hargs : args.length ≤ 15 := by simp) (h : AWP Try.prog Try.f83.ntmps c83 (fun e t s => match e with | .exit _ => False | _ => Res [.slot 2] K t s) (env (argList 0 args)) σ) : ACalls Try.prog 83 args σ K :=
 enter (own := []) Try.func83 (by kernel_rfl) (by kernel_rfl) (by kernel_rfl) hargs h
/-- changeling/num.Name -/
def c110 : ACode :=
(.seq
 (.reg [oo 2 (.move (.c (.str ⟨#[]⟩)))])
 (.seq
 (.seq
 (.reg [mv 3 0])
 (.block 0
 (.seq
 (.reg [oo 5 (.bin .int .eql (.t 3) (.c (.int .i64 1))),
 mv 4 5])
 (.cond (.t 4)
 (.seq
 (.reg [oo 2 (.move (.c (.str ⟨#[43]⟩)))])
 .ret)
 (.seq
 (.reg [oo 7 (.bin .int .eql (.t 3) (.c (.int .i64 2))),
 mv 6 7])
 (.cond (.t 6)
 (.seq
 (.reg [oo 2 (.move (.c (.str ⟨#[45]⟩)))])
 .ret)
 (.seq
 (.reg [oo 9 (.bin .int .eql (.t 3) (.c (.int .i64 3))),
 mv 8 9])
 (.cond (.t 8)
 (.seq
 (.reg [oo 2 (.move (.c (.str ⟨#[42]⟩)))])
 .ret)
 (.seq
 (.reg [oo 11 (.bin .int .eql (.t 3) (.c (.int .i64 4))),
 mv 10 11])
 (.cond (.t 10)
 (.seq
 (.reg [oo 2 (.move (.c (.str ⟨#[47]⟩)))])
 .ret)
 (.seq
 (.reg [oo 13 (.bin .int .eql (.t 3) (.c (.int .i64 5))),
 mv 12 13])
 (.cond (.t 12)
 (.seq
 (.reg [oo 2 (.move (.c (.str ⟨#[37]⟩)))])
 .ret)
 (.seq
 (.reg [oo 15 (.bin .int .eql (.t 3) (.c (.int .i64 6))),
 mv 14 15])
 (.cond (.t 14)
 (.seq
 (.reg [oo 2 (.move (.c (.str ⟨#[61, 61]⟩)))])
 .ret)
 (.seq
 (.reg [oo 17 (.bin .int .eql (.t 3) (.c (.int .i64 7))),
 mv 16 17])
 (.cond (.t 16)
 (.seq
 (.reg [oo 2 (.move (.c (.str ⟨#[47, 61]⟩)))])
 .ret)
 (.seq
 (.reg [oo 19 (.bin .int .eql (.t 3) (.c (.int .i64 8))),
 mv 18 19])
 (.cond (.t 18)
 (.seq
 (.reg [oo 2 (.move (.c (.str ⟨#[60]⟩)))])
 .ret)
 (.seq
 (.reg [oo 21 (.bin .int .eql (.t 3) (.c (.int .i64 9))),
 mv 20 21])
 (.cond (.t 20)
 (.seq
 (.reg [oo 2 (.move (.c (.str ⟨#[60, 61]⟩)))])
 .ret)
 (.seq
 (.reg [oo 23 (.bin .int .eql (.t 3) (.c (.int .i64 10))),
 mv 22 23])
 (.cond (.t 22)
 (.seq
 (.reg [oo 2 (.move (.c (.str ⟨#[62]⟩)))])
 .ret)
 (.seq
 (.reg [oo 25 (.bin .int .eql (.t 3) (.c (.int .i64 11))),
 mv 24 25])
 (.cond (.t 24)
 (.seq
 (.reg [oo 2 (.move (.c (.str ⟨#[62, 61]⟩)))])
 .ret)
 .skip))))))))))))))))))))))))
 (.seq
 (.reg [oo 2 (.move (.c (.str ⟨#[]⟩)))])
 .ret)))
theorem in110 {args : List AV} {σ : Store} {K : AV → Store → Prop} (hargs : args.length ≤ 26 := by simp) (h : AWP Try.prog Try.f110.ntmps c110 (fun e t s => match e with | .exit _ => False | _ => Res [.slot 2] K t s) (env (argList 0 args)) σ) : ACalls Try.prog 110 args σ K :=
 enter (own := []) Try.func110 (by kernel_rfl) (by kernel_rfl) (by kernel_rfl) hargs h
/-- changeling/lift.numbered -/
def c84 : ACode :=
(.seq
 (.reg [oo 2 (.move (.c (.bool false)))])
 (.seq
 (.reg [mv 6 0,
 oo 7 (.call 140 [(.t 6), (.c (.str ⟨#[35]⟩))]),
 mv 3 7])
 (.seq
 (.seq
 (.reg [mv 8 3,
 oo 9 (.bin .int .lss (.t 8) (.c (.int .i64 0)))])
 (.cond (.t 9)
 (.seq
 (.reg [oo 2 (.move (.c (.bool false)))])
 .ret)
 .skip))
 (.seq
 (.reg [mv 11 0,
 mv 12 3,
 oo 13 (.bin .int .add (.t 12) (.c (.int .i64 1))),
 oo 14 (.cut .str 1 (.t 11) (some (.t 13)) none),
 oo 15 (.call 141 [(.t 14)]),
 mv 10 15,
 oo 16 (.extract (.t 10) 0),
 oo 17 (.extract (.t 10) 1),
 mv 4 16,
 mv 5 17])
 (.seq
 (.reg [mv 18 5,
 oo 19 (.bin .int .eql (.t 18) (.c (.int .i64 0))),
 mv 2 19])
 .ret)))))
theorem in84 {args : List AV} {σ : Store} {K : AV → Store → Prop} (hargs : args.length ≤ 20 := by simp) (h : AWP Try.prog Try.f84.ntmps c84 (fun e t s => match e with | .exit _ => False | _ => Res [.slot 2] K t s) (env (argList 0 args)) σ) : ACalls Try.prog 84 args σ K :=
 enter (own := []) Try.func84 (by kernel_rfl) (by kernel_rfl) (by kernel_rfl) hargs h
/-- strings.LastIndex -/
def c140 : ACode :=
(.seq
 (.reg [oo 4 (.move (.c (.int .i64 0)))])
 (.seq
 (.reg [mv 6 1,
 oo 7 (.len .str (.t 6)),
 mv 5 7])
 (.seq
 (.block 0
 (.seq
 (.reg [mv 9 5,
 oo 10 (.bin .int .eql (.t 9) (.c (.int .i64 0))),
 mv 8 10])
 (.cond (.t 8)
 (.seq
 (.reg [mv 11 0,
 oo 12 (.len .str (.t 11)),
 mv 4 12])
 .ret)
 (.seq
 (.reg [mv 14 5,
 oo 15 (.bin .int .eql (.t 14) (.c (.int .i64 1))),
 mv 13 15])
 (.cond (.t 13)
 (.seq
 (.reg [mv 16 0,
 mv 17 1,
 oo 18 (.index (.t 17) (.c (.int .i64 0))),
 oo 19 (.call 158 [(.t 16), (.t 18)]),
 mv 4 19])
 .ret)
 (.seq
 (.reg [mv 21 5,
 mv 22 0,
 oo 23 (.len .str (.t 22)),
 oo 24 (.bin .int .eql (.t 21) (.t 23)),
 mv 20 24])
 (.cond (.t 20)
 (.seq
 (.seq
 (.reg [mv 25 1,
 mv 26 0,
 oo 27 (.bin .str .eql (.t 25) (.t 26))])
 (.cond (.t 27)
 (.seq
 (.reg [oo 4 (.move (.c (.int .i64 0)))])
 .ret)
 .skip))
 (.seq
 (.reg [oo 4 (.move (.c (.int .i64 (-1))))])
 .ret))
 (.seq
 (.reg [mv 29 5,
 mv 30 0,
 oo 31 (.len .str (.t 30)),
 oo 32 (.bin .int .gtr (.t 29) (.t 31)),
 mv 28 32])
 (.cond (.t 28)
 (.seq
 (.reg [oo 4 (.move (.c (.int .i64 (-1))))])
 .ret)
 .skip)))))))))
 (.seq
 (.reg [mv 33 0,
 mv 34 1,
 oo 35 (.call 159 [(.t 33), (.t 34)]),
 mv 4 35])
 .ret))))
theorem in140 {args : List AV} {σ : Store} {K : AV → Store → Prop} (hargs : args.length ≤ 36 := by simp) (h : AWP Try.prog Try.f140.ntmps c140 (fun e t s => match e with | .exit _ => False | _ => Res [.slot 4] K t s) (env (argList 0 args)) σ) : ACalls Try.prog 140 args σ K :=
 enter (own := []) Try.func140 (by kernel_rfl) (by kernel_rfl) (by kernel_rfl) hargs h
/-- internal/bytealg.LastIndexByteString -/
def c158 : ACode :=
(.seq
 (.reg [oo 4 (.move (.c (.int .i64 0)))])
 (.seq
 (.seq
 (.reg [mv 6 0,
 oo 7 (.len .str (.t 6)),
 oo 8 (.bin .int .sub (.t 7) (.c (.int .i64 1))),
 mv 5 8])
 (.block 0
 (.loop
 (.seq
 (.seq
 (.reg [mv 9 5,
 oo 10 (.bin .int .geq (.t 9) (.c (.int .i64 0)))])
 (.cond (.t 10)
 .skip
 (.exit 0)))
 (.seq
 (.block 1
 (.seq
 (.reg [mv 13 0,
 mv 14 5,
 oo 15 (.index (.t 13) (.t 14)),
 mv 16 1,
 oo 17 (.bin .int .eql (.t 15) (.t 16))])
 (.cond (.t 17)
 (.seq
 (.reg [mv 18 5,
 mv 4 18])
 .ret)
 .skip)))
 (.reg [mv 11 5,
 oo 12 (.bin .int .sub (.t 11) (.c (.int .i64 1))),
 mv 5 12]))))))
 (.seq
 (.reg [oo 4 (.move (.c (.int .i64 (-1))))])
 .ret)))
theorem in158 {args : List AV} {σ : Store} {K : AV → Store → Prop} (hargs : args.length ≤ 19 := by simp) (h : AWP Try.prog Try.f158.ntmps c158 (fun e t s => match e with | .exit _ => False | _ => Res [.slot 4] K t s) (env (argList 0 args)) σ) : ACalls Try.prog 158 args σ K :=
 enter (own := []) Try.func158 (by kernel_rfl) (by kernel_rfl) (by kernel_rfl) hargs h
/-- changeling/num.Parse -/
def c141 : ACode :=
(.seq
 (.reg [oo 2 (.move (.c (.int .i64 0))),
 oo 3 (.move (.c (.int .i64 0)))])
 (.scope
 (.seq
 (.reg [mv 10 0,
 mv 4 10])
 (.seq
 (.reg [mv 11 0,
 oo 12 (.len .str (.t 11)),
 oo 13 (.bin .int .gtr (.t 12) (.c (.int .i64 0))),
 mv 14 13,
 og 15 14 true (.move (.t 0)),
 og 16 14 true (.index (.t 15) (.c (.int .i64 0))),
 og 17 14 true (.bin .int .eql (.t 16) (.c (.int .u8 45))),
 oo 18 (.pick (.t 14) (.t 17) (.c (.bool false))),
 mv 5 18])
 (.seq
 (.seq
 (.reg [mv 19 5])
 (.cond (.t 19)
 (.reg [mv 20 0,
 oo 21 (.cut .str 1 (.t 20) (some (.c (.int .i64 1))) none),
 mv 4 21])
 .skip))
 (.seq
 (.seq
 (.reg [mv 22 4,
 oo 23 (.bin .str .eql (.t 22) (.c (.str ⟨#[]⟩))),
 mv 24 23,
 og 25 24 false (.move (.t 4)),
 og 26 24 false (.len .str (.t 25)),
 og 27 24 false (.bin .int .gtr (.t 26) (.c (.int .i64 19))),
 oo 28 (.pick (.t 24) (.c (.bool true)) (.t 27)),
 mv 29 28,
 og 30 29 false (.move (.t 4)),
 og 31 29 false (.index (.t 30) (.c (.int .i64 0))),
 og 32 29 false (.bin .int .eql (.t 31) (.c (.int .u8 48))),
 og 33 29 false (.move (.t 32)),
 og 34 33 true (.move (.t 0)),
 og 35 33 true (.len .str (.t 34)),
 og 36 33 true (.bin .int .gtr (.t 35) (.c (.int .i64 1))),
 og 37 29 false (.pick (.t 33) (.t 36) (.c (.bool false))),
 oo 38 (.pick (.t 29) (.c (.bool true)) (.t 37))])
 (.cond (.t 38)
 (.seq
 (.reg [oo 2 (.move (.c (.int .i64 0))),
 oo 3 (.move (.c (.int .i64 11)))])
 .ret)
 .skip))
 (.seq
 (.reg [oo 6 (.move (.c (.int .u64 0)))])
 (.seq
 (.reg [oo 7 (.move (.c (.bool true)))])
 (.seq
 .skip
 (.seq
 (.seq
 (.reg [oo 8 (.move (.c (.int .i64 0)))])
 (.block 0
 (.loop
 (.seq
 (.seq
 (.reg [mv 39 8,
 mv 40 4,
 oo 41 (.len .str (.t 40)),
 oo 42 (.bin .int .lss (.t 39) (.t 41))])
 (.cond (.t 42)
 .skip
 (.exit 0)))
 (.seq
 (.block 1
 (.seq
 (.reg [mv 45 4,
 mv 46 8,
 oo 47 (.index (.t 45) (.t 46)),
 mv 9 47])
 (.seq
 (.seq
 (.reg [mv 48 9,
 oo 49 (.bin .int .lss (.t 48) (.c (.int .u8 48))),
 mv 50 49,
 og 51 50 false (.move (.t 9)),
 og 52 50 false (.bin .int .gtr (.t 51) (.c (.int .u8 57))),
 oo 53 (.pick (.t 50) (.c (.bool true)) (.t 52))])
 (.cond (.t 53)
 (.seq
 (.reg [oo 7 (.move (.c (.bool false)))])
 (.exit 0))
 .skip))
 (.reg [mv 54 6,
 oo 55 (.bin .int .mul (.t 54) (.c (.int .u64 10))),
 mv 56 9,
 oo 57 (.bin .int .sub (.t 56) (.c (.int .u8 48))),
 oo 58 (.conv .u64 (.t 57)),
 oo 59 (.bin .int .add (.t 55) (.t 58)),
 mv 6 59]))))
 (.reg [mv 43 8,
 oo 44 (.bin .int .add (.t 43) (.c (.int .i64 1))),
 mv 8 44]))))))
 (.seq
 (.seq
 (.reg [mv 60 7,
 oo 61 (.not (.t 60)),
 mv 62 61,
 og 63 62 false (.move (.t 6)),
 og 64 62 false (.bin .int .gtr (.t 63) (.c (.int .u64 9223372036854775808))),
 oo 65 (.pick (.t 62) (.c (.bool true)) (.t 64)),
 mv 66 65,
 og 67 66 false (.move (.t 6)),
 og 68 66 false (.bin .int .eql (.t 67) (.c (.int .u64 9223372036854775808))),
 og 69 66 false (.move (.t 68)),
 og 70 69 true (.move (.t 5)),
 og 71 69 true (.not (.t 70)),
 og 72 66 false (.pick (.t 69) (.t 71) (.c (.bool false))),
 oo 73 (.pick (.t 66) (.c (.bool true)) (.t 72))])
 (.cond (.t 73)
 (.seq
 (.reg [oo 2 (.move (.c (.int .i64 0))),
 oo 3 (.move (.c (.int .i64 11)))])
 .ret)
 .skip))
 (.seq
 (.seq
 (.reg [mv 74 5])
 (.cond (.t 74)
 (.reg [mv 75 6,
 oo 76 (.neg (.t 75)),
 mv 6 76])
 .skip))
 (.seq
 (.reg [mv 77 6,
 oo 78 (.conv .i64 (.t 77)),
 mv 2 78,
 oo 3 (.move (.c (.int .i64 0)))])
 .ret)))))))))))))
theorem in141 {args : List AV} {σ : Store} {K : AV → Store → Prop} (hargs : args.length ≤ 79 := by simp) (h : AWP Try.prog Try.f141.ntmps c141 (fun e t s => match e with | .exit _ => False | _ => Res [.slot 2, .slot 3] K t s) (env (argList 0 args)) σ) : ACalls Try.prog 141 args σ K :=
 enter (own := []) Try.func141 (by kernel_rfl) (by kernel_rfl) (by kernel_rfl) hargs h
/-- slices.Contains[[]string,string] -/
def c85 : ACode :=
(.seq
 (.reg [oo 4 (.move (.c (.bool false)))])
 (.seq
 (.reg [mv 5 0,
 mv 6 1,
 oo 7 (.call 142 [(.t 5), (.t 6)]),
 oo 8 (.bin .int .geq (.t 7) (.c (.int .i64 0))),
 mv 4 8])
 .ret))
theorem in85 {args : List AV} {σ : Store} {K : AV → Store → Prop} (hargs : args.length ≤ 9 := by simp) (h : AWP Try.prog Try.f85.ntmps c85 (fun e t s => match e with | .exit _ => False | _ => Res [.slot 4] K t s) (env (argList 0 args)) σ) : ACalls Try.prog 85 args σ K :=
 enter (own := []) Try.func85 (by kernel_rfl) (by kernel_rfl) (by kernel_rfl) hargs h
/-- slices.Index[[]string,string] -/
def c142 : ACode :=
(.seq
 (.reg [oo 4 (.move (.c (.int .i64 0)))])
 (.seq
 (.seq
 (.reg [mv 6 0,
 oo 7 (.len .slice (.t 6)),
 oo 8 (.move (.c (.int .i64 0)))])
 (.block 0
 (.loop
 (.seq
 (.reg [oo 9 (.bin .int .lss (.t 8) (.t 7))])
 (.seq
 (.cond (.t 9)
 .skip
 (.exit 0))
 (.seq
 (.block 1
 (.seq
 (.reg [mv 10 8,
 mv 5 10])
 (.seq
 (.reg [mv 11 1,
 mv 12 0,
 mv 13 5,
 oo 14 (.iaddr 1 (.t 12) (.t 13)),
 oo 15 (.load none (.t 14)),
 oo 16 (.bin .str .eql (.t 11) (.t 15))])
 (.cond (.t 16)
 (.seq
 (.reg [mv 17 5,
 mv 4 17])
 .ret)
 .skip))))
 (.reg [oo 18 (.bin .int .add (.t 8) (.c (.int .i64 1))),
 mv 8 18])))))))
 (.seq
 (.reg [oo 4 (.move (.c (.int .i64 (-1))))])
 .ret)))
theorem in142 {args : List AV} {σ : Store} {K : AV → Store → Prop} (hargs : args.length ≤ 19 := by simp) (h : AWP Try.prog Try.f142.ntmps c142 (fun e t s => match e with | .exit _ => False | _ => Res [.slot 4] K t s) (env (argList 0 args)) σ) : ACalls Try.prog 142 args σ K :=
 enter (own := []) Try.func142 (by kernel_rfl) (by kernel_rfl) (by kernel_rfl) hargs h
/-- (*changeling/lift.checker).right -/
def c86 : ACode :=
(.seq
 (.reg [oo 4 (.new 54 (.t 1)),
 oo 6 (.move (.c (.bool false)))])
 (.seq
 (.reg [oo 15 (.faddr 0 (.t 4)),
 oo 16 (.load none (.t 15)),
 oo 17 (.bin .int .eql (.t 16) (.c (.int .i64 1))),
 mv 18 17,
 og 19 18 false (.faddr 0 (.t 4)),
 og 20 18 false (.load none (.t 19)),
 og 21 18 false (.bin .int .eql (.t 20) (.c (.int .i64 2))),
 oo 22 (.pick (.t 18) (.c (.bool true)) (.t 21)),
 mv 23 22,
 og 24 23 false (.faddr 0 (.t 4)),
 og 25 23 false (.load none (.t 24)),
 og 26 23 false (.bin .int .eql (.t 25) (.c (.int .i64 4))),
 oo 27 (.pick (.t 23) (.c (.bool true)) (.t 26)),
 mv 7 27])
 (.seq
 (.reg [oo 28 (.faddr 0 (.t 4)),
 oo 29 (.load none (.t 28)),
 oo 30 (.bin .int .eql (.t 29) (.c (.int .i64 3))),
 mv 31 30,
 og 32 31 false (.faddr 0 (.t 4)),
 og 33 31 false (.load none (.t 32)),
 og 34 31 false (.bin .int .eql (.t 33) (.c (.int .i64 4))),
 oo 35 (.pick (.t 31) (.c (.bool true)) (.t 34)),
 mv 36 35,
 og 37 36 false (.faddr 0 (.t 4)),
 og 38 36 false (.load none (.t 37)),
 og 39 36 false (.bin .int .eql (.t 38) (.c (.int .i64 9))),
 oo 40 (.pick (.t 36) (.c (.bool true)) (.t 39)),
 mv 8 40])
 (.seq
 (.seq
 (.reg [mv 41 7,
 oo 42 (.not (.t 41)),
 mv 43 42,
 og 44 43 true (.faddr 1 (.t 4)),
 og 45 43 true (.load none (.t 44)),
 og 46 43 true (.bin .str .neq (.t 45) (.c (.str ⟨#[]⟩))),
 oo 47 (.pick (.t 43) (.t 46) (.c (.bool false))),
 mv 48 47,
 og 49 48 false (.move (.t 8)),
 og 50 48 false (.not (.t 49)),
 og 51 48 false (.move (.t 50)),
 og 52 51 true (.faddr 2 (.t 4)),
 og 53 51 true (.load none (.t 52)),
 og 54 51 true (.bin .int .neq (.t 53) (.c (.int .i64 0))),
 og 55 48 false (.pick (.t 51) (.t 54) (.c (.bool false))),
 oo 56 (.pick (.t 48) (.c (.bool true)) (.t 55)),
 mv 57 56,
 og 58 57 false (.faddr 0 (.t 4)),
 og 59 57 false (.load none (.t 58)),
 og 60 57 false (.bin .int .neq (.t 59) (.c (.int .i64 4))),
 og 61 57 false (.move (.t 60)),
 og 62 61 true (.faddr 3 (.t 4)),
 og 63 61 true (.load none (.t 62)),
 og 64 61 true (.bin .int .neq (.t 63) (.c (.int .i64 0))),
 og 65 57 false (.pick (.t 61) (.t 64) (.c (.bool false))),
 oo 66 (.pick (.t 57) (.c (.bool true)) (.t 65))])
 (.cond (.t 66)
 (.seq
 (.reg [oo 6 (.move (.c (.bool false)))])
 .ret)
 .skip))
 (.seq
 (.reg [oo 67 (.faddr 4 (.t 4)),
 oo 68 (.load none (.t 67)),
 oo 69 (.len .slice (.t 68)),
 oo 70 (.faddr 5 (.t 4)),
 oo 71 (.load none (.t 70)),
 oo 72 (.len .slice (.t 71)),
 oo 73 (.faddr 6 (.t 4)),
 oo 74 (.load none (.t 73)),
 oo 75 (.len .slice (.t 74)),
 oo 76 (.faddr 7 (.t 4)),
 oo 77 (.load none (.t 76)),
 oo 78 (.len .slice (.t 77)),
 oo 79 (.faddr 8 (.t 4)),
 oo 80 (.load none (.t 79)),
 oo 81 (.len .slice (.t 80)),
 oo 82 (.build [(.int .i64 0), (.int .i64 0), (.int .i64 0), (.int .i64 0), (.int .i64 0)] [(0, 1, (.t 69)), (1, 1, (.t 72)), (2, 1, (.t 75)), (3, 1, (.t 78)), (4, 1, (.t 81))]),
 oo 9 (.new 246 (.c (.agg [(.int .i64 0), (.int .i64 0), (.int .i64 0), (.int .i64 0), (.int .i64 0)]))),
 ⟨none, .store 5 (.t 9) (.t 82), none⟩])
 (.seq
 (.reg [mv 83 2,
 mv 10 83])
 (.seq
 (.seq
 (.reg [oo 84 (.faddr 0 (.t 4)),
 oo 85 (.load none (.t 84))])
 (.block 0
 (.seq
 (.reg [oo 87 (.bin .int .eql (.t 85) (.c (.int .i64 1))),
 mv 86 87])
 (.cond (.t 86)
 (.seq
 (.reg [oo 88 (.load (some 5) (.t 9)),
 oo 89 (.build [(.int .i64 0), (.int .i64 0), (.int .i64 0), (.int .i64 0), (.int .i64 0)] []),
 oo 90 (.bin (.row [.int, .int, .int, .int, .int]) .eql (.t 88) (.t 89)),
 mv 91 90,
 og 92 91 true (.move (.t 2)),
 og 93 91 true (.faddr 1 (.t 4)),
 og 94 91 true (.load none (.t 93)),
 og 95 91 true (.call 85 [(.t 92), (.t 94)]),
 oo 96 (.pick (.t 91) (.t 95) (.c (.bool false))),
 mv 6 96])
 .ret)
 (.seq
 (.reg [oo 98 (.bin .int .eql (.t 85) (.c (.int .i64 2))),
 mv 97 98])
 (.cond (.t 97)
 (.seq
 (.reg [oo 99 (.load (some 5) (.t 9)),
 oo 100 (.build [(.int .i64 0), (.int .i64 0), (.int .i64 0), (.int .i64 0), (.int .i64 0)] []),
 oo 101 (.bin (.row [.int, .int, .int, .int, .int]) .eql (.t 99) (.t 100)),
 mv 102 101,
 og 103 102 true (.move (.t 0)),
 og 104 102 true (.nilck (.t 103)),
 og 105 102 true (.faddr 0 (.t 104)),
 og 106 102 true (.load none (.t 105)),
 og 107 102 true (.faddr 1 (.t 4)),
 og 108 102 true (.load none (.t 107)),
 og 109 102 true (.call 85 [(.t 106), (.t 108)]),
 og 110 102 true (.move (.t 109)),
 og 111 110 false (.faddr 1 (.t 4)),
 og 112 110 false (.load none (.t 111)),
 og 113 110 false (.call 83 [(.t 112)]),
 og 114 110 false (.bin .int .gtr (.t 113) (.c (.int .i64 0))),
 og 115 102 true (.pick (.t 110) (.c (.bool true)) (.t 114)),
 oo 116 (.pick (.t 102) (.t 115) (.c (.bool false))),
 mv 6 116])
 .ret)
 (.seq
 (.seq
 (.reg [oo 118 (.bin .int .eql (.t 85) (.c (.int .i64 3))),
 mv 117 118])
 (.cond (.t 117)
 .skip
 (.reg [oo 119 (.bin .int .eql (.t 85) (.c (.int .i64 10))),
 mv 117 119])))
 (.cond (.t 117)
 (.seq
 (.reg [oo 120 (.load (some 5) (.t 9)),
 oo 121 (.build [(.int .i64 0), (.int .i64 0), (.int .i64 0), (.int .i64 0), (.int .i64 0)] []),
 oo 122 (.bin (.row [.int, .int, .int, .int, .int]) .eql (.t 120) (.t 121)),
 mv 6 122])
 .ret)
 (.seq
 (.reg [oo 124 (.bin .int .eql (.t 85) (.c (.int .i64 4))),
 mv 123 124])
 (.cond (.t 123)
 (.seq
 (.reg [oo 125 (.load (some 5) (.t 9)),
 oo 126 (.build [(.int .i64 0), (.int .i64 0), (.int .i64 0), (.int .i64 0), (.int .i64 0)] []),
 oo 127 (.bin (.row [.int, .int, .int, .int, .int]) .eql (.t 125) (.t 126)),
 mv 128 127,
 og 129 128 true (.faddr 1 (.t 4)),
 og 130 128 true (.load none (.t 129)),
 og 131 128 true (.bin .str .neq (.t 130) (.c (.str ⟨#[]⟩))),
 oo 132 (.pick (.t 128) (.t 131) (.c (.bool false))),
 mv 133 132,
 og 134 133 true (.faddr 2 (.t 4)),
 og 135 133 true (.load none (.t 134)),
 og 136 133 true (.bin .int .geq (.t 135) (.c (.int .i64 0))),
 oo 137 (.pick (.t 133) (.t 136) (.c (.bool false))),
 mv 138 137,
 og 139 138 true (.faddr 3 (.t 4)),
 og 140 138 true (.load none (.t 139)),
 og 141 138 true (.bin .int .geq (.t 140) (.c (.int .i64 0))),
 oo 142 (.pick (.t 138) (.t 141) (.c (.bool false))),
 mv 6 142])
 .ret)
 (.seq
 (.reg [oo 144 (.bin .int .eql (.t 85) (.c (.int .i64 5))),
 mv 143 144])
 (.cond (.t 143)
 (.seq
 (.reg [oo 145 (.load (some 5) (.t 9)),
 oo 146 (.build [(.int .i64 0), (.int .i64 0), (.int .i64 0), (.int .i64 0), (.int .i64 0)] [(1, 1, (.c (.int .i64 2)))]),
 oo 147 (.bin (.row [.int, .int, .int, .int, .int]) .neq (.t 145) (.t 146))])
 (.cond (.t 147)
 (.seq
 (.reg [oo 6 (.move (.c (.bool false)))])
 .ret)
 .skip))
 (.seq
 (.reg [oo 149 (.bin .int .eql (.t 85) (.c (.int .i64 9))),
 mv 148 149])
 (.cond (.t 148)
 (.seq
 (.reg [oo 150 (.load (some 5) (.t 9)),
 oo 151 (.build [(.int .i64 0), (.int .i64 0), (.int .i64 0), (.int .i64 0), (.int .i64 0)] [(1, 1, (.c (.int .i64 2)))]),
 oo 152 (.bin (.row [.int, .int, .int, .int, .int]) .neq (.t 150) (.t 151)),
 mv 153 152,
 og 154 153 false (.faddr 2 (.t 4)),
 og 155 153 false (.load none (.t 154)),
 og 156 153 false (.bin .int .lss (.t 155) (.c (.int .i64 1))),
 oo 157 (.pick (.t 153) (.c (.bool true)) (.t 156)),
 mv 158 157,
 og 159 158 false (.faddr 2 (.t 4)),
 og 160 158 false (.load none (.t 159)),
 og 161 158 false (.bin .int .gtr (.t 160) (.c (.int .i64 11))),
 oo 162 (.pick (.t 158) (.c (.bool true)) (.t 161))])
 (.cond (.t 162)
 (.seq
 (.reg [oo 6 (.move (.c (.bool false)))])
 .ret)
 .skip))
 (.seq
 (.reg [oo 164 (.bin .int .eql (.t 85) (.c (.int .i64 6))),
 mv 163 164])
 (.cond (.t 163)
 (.seq
 (.seq
 (.reg [oo 165 (.load (some 5) (.t 9)),
 oo 166 (.faddr 0 (.t 9)),
 oo 167 (.load none (.t 166)),
 oo 168 (.build [(.int .i64 0), (.int .i64 0), (.int .i64 0), (.int .i64 0), (.int .i64 0)] [(0, 1, (.t 167)), (1, 1, (.c (.int .i64 1)))]),
 oo 169 (.bin (.row [.int, .int, .int, .int, .int]) .neq (.t 165) (.t 168)),
 mv 170 169,
 og 171 170 false (.faddr 0 (.t 9)),
 og 172 170 false (.load none (.t 171)),
 og 173 170 false (.bin .int .eql (.t 172) (.c (.int .i64 0))),
 oo 174 (.pick (.t 170) (.c (.bool true)) (.t 173)),
 mv 175 174,
 og 176 175 false (.faddr 4 (.t 4)),
 og 177 175 false (.load none (.t 176)),
 og 178 175 false (.call 111 [(.t 177)]),
 og 179 175 false (.not (.t 178)),
 oo 180 (.pick (.t 175) (.c (.bool true)) (.t 179))])
 (.cond (.t 180)
 (.seq
 (.reg [oo 6 (.move (.c (.bool false)))])
 .ret)
 .skip))
 (.reg [mv 181 2,
 oo 182 (.faddr 4 (.t 4)),
 oo 183 (.load none (.t 182)),
 oo 184 (.call 143 [(.t 181), (.t 183)]),
 mv 10 184]))
 (.seq
 (.reg [oo 186 (.bin .int .eql (.t 85) (.c (.int .i64 7))),
 mv 185 186])
 (.cond (.t 185)
 (.seq
 (.seq
 (.reg [oo 187 (.load (some 5) (.t 9)),
 oo 188 (.faddr 3 (.t 9)),
 oo 189 (.load none (.t 188)),
 oo 190 (.build [(.int .i64 0), (.int .i64 0), (.int .i64 0), (.int .i64 0), (.int .i64 0)] [(1, 1, (.c (.int .i64 1))), (3, 1, (.t 189))]),
 oo 191 (.bin (.row [.int, .int, .int, .int, .int]) .neq (.t 187) (.t 190)),
 mv 192 191,
 og 193 192 false (.faddr 3 (.t 9)),
 og 194 192 false (.load none (.t 193)),
 og 195 192 false (.bin .int .eql (.t 194) (.c (.int .i64 0))),
 oo 196 (.pick (.t 192) (.c (.bool true)) (.t 195)),
 mv 197 196,
 og 198 197 false (.faddr 7 (.t 4)),
 og 199 197 false (.load none (.t 198)),
 og 200 197 false (.call 136 [(.t 199)]),
 og 201 197 false (.call 111 [(.t 200)]),
 og 202 197 false (.not (.t 201)),
 oo 203 (.pick (.t 197) (.c (.bool true)) (.t 202))])
 (.cond (.t 203)
 (.seq
 (.reg [oo 6 (.move (.c (.bool false)))])
 .ret)
 .skip))
 (.reg [mv 204 2,
 oo 205 (.faddr 7 (.t 4)),
 oo 206 (.load none (.t 205)),
 oo 207 (.call 136 [(.t 206)]),
 oo 208 (.call 143 [(.t 204), (.t 207)]),
 mv 10 208]))
 (.seq
 (.reg [oo 210 (.bin .int .eql (.t 85) (.c (.int .i64 8))),
 mv 209 210])
 (.cond (.t 209)
 (.seq
 (.reg [oo 211 (.load (some 5) (.t 9)),
 oo 212 (.faddr 2 (.t 9)),
 oo 213 (.load none (.t 212)),
 oo 214 (.build [(.int .i64 0), (.int .i64 0), (.int .i64 0), (.int .i64 0), (.int .i64 0)] [(1, 1, (.c (.int .i64 1))), (2, 1, (.t 213))]),
 oo 215 (.bin (.row [.int, .int, .int, .int, .int]) .neq (.t 211) (.t 214)),
 mv 216 215,
 og 217 216 false (.move (.t 0)),
 og 218 216 false (.faddr 6 (.t 4)),
 og 219 216 false (.load none (.t 218)),
 og 220 216 false (.move (.t 2)),
 og 221 216 false (.call 144 [(.t 217), (.t 219), (.t 220)]),
 og 222 216 false (.not (.t 221)),
 oo 223 (.pick (.t 216) (.c (.bool true)) (.t 222))])
 (.cond (.t 223)
 (.seq
 (.reg [oo 6 (.move (.c (.bool false)))])
 .ret)
 .skip))
 (.seq
 (.reg [oo 225 (.bin .int .eql (.t 85) (.c (.int .i64 11))),
 mv 224 225])
 (.cond (.t 224)
 (.seq
 (.reg [oo 226 (.load (some 5) (.t 9)),
 oo 227 (.faddr 4 (.t 9)),
 oo 228 (.load none (.t 227)),
 oo 229 (.build [(.int .i64 0), (.int .i64 0), (.int .i64 0), (.int .i64 0), (.int .i64 0)] [(1, 1, (.c (.int .i64 1))), (4, 1, (.t 228))]),
 oo 230 (.bin (.row [.int, .int, .int, .int, .int]) .neq (.t 226) (.t 229)),
 mv 231 230,
 og 232 231 false (.move (.t 0)),
 og 233 231 false (.faddr 8 (.t 4)),
 og 234 231 false (.load none (.t 233)),
 og 235 231 false (.move (.t 2)),
 og 236 231 false (.call 145 [(.t 232), (.t 234), (.t 235)]),
 og 237 231 false (.not (.t 236)),
 oo 238 (.pick (.t 231) (.c (.bool true)) (.t 237))])
 (.cond (.t 238)
 (.seq
 (.reg [oo 6 (.move (.c (.bool false)))])
 .ret)
 .skip))
 (.seq
 (.reg [oo 6 (.move (.c (.bool false)))])
 .ret)))))))))))))))))))))))
 (.seq
 (.seq
 (.reg [oo 239 (.faddr 5 (.t 4)),
 oo 240 (.load none (.t 239)),
 oo 241 (.len .slice (.t 240)),
 oo 242 (.move (.c (.int .i64 0)))])
 (.block 1
 (.loop
 (.seq
 (.reg [oo 243 (.bin .int .lss (.t 242) (.t 241))])
 (.seq
 (.cond (.t 243)
 .skip
 (.exit 1))
 (.seq
 (.block 2
 (.seq
 (.reg [oo 244 (.iaddr 9 (.t 240) (.t 242)),
 oo 245 (.load (some 9) (.t 244)),
 oo 12 (.new 54 (.c (.agg [(.int .i64 0), (.str ⟨#[]⟩), (.int .i64 0), (.int .i64 0), .nils, .nils, .nils, .nils, .nils]))),
 ⟨none, .store 9 (.t 12) (.t 245), none⟩])
 (.seq
 (.reg [mv 246 0,
 oo 247 (.load (some 9) (.t 12)),
 mv 248 10,
 oo 249 (.call 86 [(.t 246), (.t 247), (.t 248)]),
 oo 250 (.not (.t 249))])
 (.cond (.t 250)
 (.seq
 (.reg [oo 6 (.move (.c (.bool false)))])
 .ret)
 .skip))))
 (.reg [oo 251 (.bin .int .add (.t 242) (.c (.int .i64 1))),
 mv 242 251])))))))
 (.seq
 (.seq
 (.reg [oo 252 (.faddr 7 (.t 4)),
 oo 253 (.load none (.t 252)),
 oo 254 (.len .slice (.t 253)),
 oo 255 (.move (.c (.int .i64 0)))])
 (.block 3
 (.loop
 (.seq
 (.reg [oo 256 (.bin .int .lss (.t 255) (.t 254))])
 (.seq
 (.cond (.t 256)
 .skip
 (.exit 3))
 (.seq
 (.block 4
 (.seq
 (.reg [oo 257 (.iaddr 10 (.t 253) (.t 255)),
 oo 258 (.load (some 10) (.t 257)),
 oo 14 (.new 114 (.c (.agg [(.str ⟨#[]⟩), (.int .i64 0), (.str ⟨#[]⟩), (.int .i64 0), (.int .i64 0), .nils, .nils, .nils, .nils, .nils]))),
 ⟨none, .store 10 (.t 14) (.t 258), none⟩])
 (.seq
 (.reg [mv 259 0,
 oo 260 (.faddr 1 (.t 14)),
 oo 261 (.load (some 9) (.t 260)),
 mv 262 10,
 oo 263 (.call 86 [(.t 259), (.t 261), (.t 262)]),
 oo 264 (.not (.t 263))])
 (.cond (.t 264)
 (.seq
 (.reg [oo 6 (.move (.c (.bool false)))])
 .ret)
 .skip))))
 (.reg [oo 265 (.bin .int .add (.t 255) (.c (.int .i64 1))),
 mv 255 265])))))))
 (.seq
 (.reg [oo 6 (.move (.c (.bool true)))])
 .ret))))))))))
theorem in86 {args : List AV} {σ : Store} {K : AV → Store → Prop} (hargs : args.length ≤ 266 := by simp) (h : AWP Try.prog Try.f86.ntmps c86 (fun e t s => match e with | .exit _ => False | _ => Res [.slot 6] K t s) (env (argList 0 args)) σ) : ACalls Try.prog 86 args σ K :=
 enter (own := []) Try.func86 (by kernel_rfl) (by kernel_rfl) (by kernel_rfl) hargs h
/-- changeling/lift.locals -/
def c111 : ACode :=
(.seq
 (.reg [oo 2 (.move (.c (.bool false)))])
 (.seq
 (.seq
 (.reg [mv 5 0,
 oo 6 (.len .slice (.t 5)),
 oo 7 (.move (.c (.int .i64 0)))])
 (.block 0
 (.loop
 (.seq
 (.reg [oo 8 (.bin .int .lss (.t 7) (.t 6))])
 (.seq
 (.cond (.t 8)
 .skip
 (.exit 0))
 (.seq
 (.block 1
 (.seq
 (.reg [mv 9 7,
 oo 10 (.iaddr 1 (.t 5) (.t 7)),
 oo 11 (.load none (.t 10)),
 mv 3 9,
 mv 4 11])
 (.seq
 (.reg [mv 12 4,
 oo 13 (.call 154 [(.t 12)]),
 oo 14 (.not (.t 13)),
 mv 15 14,
 og 16 15 false (.move (.t 0)),
 og 17 15 false (.move (.t 3)),
 og 18 15 false (.cut .slice 1 (.t 16) none (some (.t 17))),
 og 19 15 false (.move (.t 4)),
 og 20 15 false (.call 85 [(.t 18), (.t 19)]),
 oo 21 (.pick (.t 15) (.c (.bool true)) (.t 20))])
 (.cond (.t 21)
 (.seq
 (.reg [oo 2 (.move (.c (.bool false)))])
 .ret)
 .skip))))
 (.reg [oo 22 (.bin .int .add (.t 7) (.c (.int .i64 1))),
 mv 7 22])))))))
 (.seq
 (.reg [oo 2 (.move (.c (.bool true)))])
 .ret)))
theorem in111 {args : List AV} {σ : Store} {K : AV → Store → Prop} (hargs : args.length ≤ 23 := by simp) (h : AWP Try.prog Try.f111.ntmps c111 (fun e t s => match e with | .exit _ => False | _ => Res [.slot 2] K t s) (env (argList 0 args)) σ) : ACalls Try.prog 111 args σ K :=
 enter (own := []) Try.func111 (by kernel_rfl) (by kernel_rfl) (by kernel_rfl) hargs h
/-- changeling/lift.local -/
def c154 : ACode :=
(.seq
 (.reg [oo 2 (.move (.c (.bool false)))])
 (.seq
 (.seq
 (.reg [mv 5 0,
 oo 6 (.call 169 [(.t 5), (.c (.str ⟨#[35]⟩))]),
 oo 7 (.not (.t 6)),
 mv 8 7,
 og 9 8 false (.move (.t 0)),
 og 10 8 false (.call 169 [(.t 9), (.c (.str ⟨#[35, 45]⟩))]),
 oo 11 (.pick (.t 8) (.c (.bool true)) (.t 10))])
 (.cond (.t 11)
 (.seq
 (.reg [oo 2 (.move (.c (.bool false)))])
 .ret)
 .skip))
 (.seq
 (.reg [mv 13 0,
 oo 14 (.cut .str 1 (.t 13) (some (.c (.int .i64 1))) none),
 oo 15 (.call 141 [(.t 14)]),
 mv 12 15,
 oo 16 (.extract (.t 12) 0),
 oo 17 (.extract (.t 12) 1),
 mv 3 16,
 mv 4 17])
 (.seq
 (.reg [mv 18 4,
 oo 19 (.bin .int .eql (.t 18) (.c (.int .i64 0))),
 mv 2 19])
 .ret))))
theorem in154 {args : List AV} {σ : Store} {K : AV → Store → Prop} (hargs : args.length ≤ 20 := by simp) (h : AWP Try.prog Try.f154.ntmps c154 (fun e t s => match e with | .exit _ => False | _ => Res [.slot 2] K t s) (env (argList 0 args)) σ) : ACalls Try.prog 154 args σ K :=
 enter (own := []) Try.func154 (by kernel_rfl) (by kernel_rfl) (by kernel_rfl) hargs h
/-- strings.HasPrefix -/
def c169 : ACode :=
(.seq
 (.reg [oo 4 (.move (.c (.bool false)))])
 (.seq
 (.reg [mv 5 0,
 mv 6 1,
 oo 7 (.call 173 [(.t 5), (.t 6)]),
 mv 4 7])
 .ret))
theorem in169 {args : List AV} {σ : Store} {K : AV → Store → Prop} (hargs : args.length ≤ 8 := by simp) (h : AWP Try.prog Try.f169.ntmps c169 (fun e t s => match e with | .exit _ => False | _ => Res [.slot 4] K t s) (env (argList 0 args)) σ) : ACalls Try.prog 169 args σ K :=
 enter (own := []) Try.func169 (by kernel_rfl) (by kernel_rfl) (by kernel_rfl) hargs h
/-- internal/stringslite.HasPrefix -/
def c173 : ACode :=
(.seq
 (.reg [oo 4 (.move (.c (.bool false)))])
 (.seq
 (.reg [mv 5 0,
 oo 6 (.len .str (.t 5)),
 mv 7 1,
 oo 8 (.len .str (.t 7)),
 oo 9 (.bin .int .geq (.t 6) (.t 8)),
 mv 10 9,
 og 11 10 true (.move (.t 0)),
 og 12 10 true (.move (.t 1)),
 og 13 10 true (.len .str (.t 12)),
 og 14 10 true (.cut .str 1 (.t 11) none (some (.t 13))),
 og 15 10 true (.move (.t 1)),
 og 16 10 true (.bin .str .eql (.t 14) (.t 15)),
 oo 17 (.pick (.t 10) (.t 16) (.c (.bool false))),
 mv 4 17])
 .ret))
theorem in173 {args : List AV} {σ : Store} {K : AV → Store → Prop} (hargs : args.length ≤ 18 := by simp) (h : AWP Try.prog Try.f173.ntmps c173 (fun e t s => match e with | .exit _ => False | _ => Res [.slot 4] K t s) (env (argList 0 args)) σ) : ACalls Try.prog 173 args σ K :=
 enter (own := []) Try.func173 (by kernel_rfl) (by kernel_rfl) (by kernel_rfl) hargs h
/-- changeling/lift.joined -/
def c143 : ACode :=
(.seq
 (.reg [oo 4 (.move (.c .nils))])
 (.seq
 (.reg [oo 5 (.move (.c .nils))])
 (.seq
 (.reg [mv 6 5,
 mv 7 0,
 oo 8 (.append 9 1 16 (.t 6) (.t 7)),
 mv 5 8])
 (.seq
 (.reg [mv 9 5,
 mv 10 1,
 oo 11 (.append 9 1 16 (.t 9) (.t 10)),
 mv 4 11])
 .ret))))
theorem in143 {args : List AV} {σ : Store} {K : AV → Store → Prop} (hargs : args.length ≤ 12 := by simp) (h : AWP Try.prog Try.f143.ntmps c143 (fun e t s => match e with | .exit _ => False | _ => Res [.slot 4] K t s) (env (argList 0 args)) σ) : ACalls Try.prog 143 args σ K :=
 enter (own := []) Try.func143 (by kernel_rfl) (by kernel_rfl) (by kernel_rfl) hargs h
/-- changeling/lift.names -/
def c136 : ACode :=
(.seq
 (.reg [oo 2 (.move (.c .nils))])
 (.seq
 (.reg [oo 3 (.move (.c .nils))])
 (.seq
 (.seq
 (.reg [mv 6 0,
 oo 7 (.len .slice (.t 6)),
 oo 8 (.move (.c (.int .i64 0)))])
 (.block 0
 (.loop
 (.seq
 (.reg [oo 9 (.bin .int .lss (.t 8) (.t 7))])
 (.seq
 (.cond (.t 9)
 .skip
 (.exit 0))
 (.seq
 (.block 1
 (.seq
 (.reg [oo 10 (.iaddr 10 (.t 6) (.t 8)),
 oo 11 (.load (some 10) (.t 10)),
 oo 5 (.new 114 (.c (.agg [(.str ⟨#[]⟩), (.int .i64 0), (.str ⟨#[]⟩), (.int .i64 0), (.int .i64 0), .nils, .nils, .nils, .nils, .nils]))),
 ⟨none, .store 10 (.t 5) (.t 11), none⟩])
 (.reg [mv 12 3,
 oo 13 (.faddr 0 (.t 5)),
 oo 14 (.load none (.t 13)),
 oo 15 (.lit false 9 1 [(.t 14)]),
 oo 16 (.append 9 1 16 (.t 12) (.t 15)),
 mv 3 16])))
 (.reg [oo 17 (.bin .int .add (.t 8) (.c (.int .i64 1))),
 mv 8 17])))))))
 (.seq
 (.reg [mv 18 3,
 mv 2 18])
 .ret))))
theorem in136 {args : List AV} {σ : Store} {K : AV → Store → Prop} (hargs : args.length ≤ 19 := by simp) (h : AWP Try.prog Try.f136.ntmps c136 (fun e t s => match e with | .exit _ => False | _ => Res [.slot 2] K t s) (env (argList 0 args)) σ) : ACalls Try.prog 136 args σ K :=
 enter (own := []) Try.func136 (by kernel_rfl) (by kernel_rfl) (by kernel_rfl) hargs h
/-- (*changeling/lift.checker).alts -/
def c144 : ACode :=
(.seq
 (.reg [oo 6 (.move (.c (.bool false)))])
 (.seq
 (.seq
 (.reg [mv 11 1,
 oo 12 (.len .slice (.t 11)),
 oo 13 (.move (.c (.int .i64 0)))])
 (.block 0
 (.loop
 (.seq
 (.reg [oo 14 (.bin .int .lss (.t 13) (.t 12))])
 (.seq
 (.cond (.t 14)
 .skip
 (.exit 0))
 (.seq
 (.block 1
 (.seq
 (.reg [mv 15 13,
 oo 16 (.iaddr 13 (.t 11) (.t 13)),
 oo 17 (.load (some 13) (.t 16)),
 oo 8 (.new 113 (.c (.agg [(.int .i64 0), (.str ⟨#[]⟩), (.int .i64 0), .nils, (.int .i64 0), (.str ⟨#[]⟩), (.int .i64 0), (.int .i64 0), .nils, .nils, .nils, .nils, .nils]))),
 mv 7 15,
 ⟨none, .store 13 (.t 8) (.t 17), none⟩])
 (.seq
 (.seq
 (.reg [oo 18 (.faddr 0 (.t 8)),
 oo 19 (.load none (.t 18))])
 (.block 2
 (.seq
 (.reg [oo 21 (.bin .int .eql (.t 19) (.c (.int .i64 1))),
 mv 20 21])
 (.cond (.t 20)
 (.seq
 (.reg [oo 22 (.faddr 1 (.t 8)),
 oo 23 (.load none (.t 22)),
 oo 24 (.bin .str .eql (.t 23) (.c (.str ⟨#[]⟩))),
 mv 25 24,
 og 26 25 false (.faddr 2 (.t 8)),
 og 27 25 false (.load none (.t 26)),
 og 28 25 false (.bin .int .lss (.t 27) (.c (.int .i64 0))),
 oo 29 (.pick (.t 25) (.c (.bool true)) (.t 28)),
 mv 30 29,
 og 31 30 false (.faddr 3 (.t 8)),
 og 32 30 false (.load none (.t 31)),
 og 33 30 false (.call 111 [(.t 32)]),
 og 34 30 false (.not (.t 33)),
 oo 35 (.pick (.t 30) (.c (.bool true)) (.t 34))])
 (.cond (.t 35)
 (.seq
 (.reg [oo 6 (.move (.c (.bool false)))])
 .ret)
 .skip))
 (.seq
 (.reg [oo 37 (.bin .int .eql (.t 19) (.c (.int .i64 2))),
 mv 36 37])
 (.cond (.t 36)
 (.seq
 (.reg [oo 38 (.faddr 1 (.t 8)),
 oo 39 (.load none (.t 38)),
 oo 40 (.bin .str .neq (.t 39) (.c (.str ⟨#[]⟩))),
 mv 41 40,
 og 42 41 false (.faddr 3 (.t 8)),
 og 43 41 false (.load none (.t 42)),
 og 44 41 false (.len .slice (.t 43)),
 og 45 41 false (.bin .int .gtr (.t 44) (.c (.int .i64 0))),
 oo 46 (.pick (.t 41) (.c (.bool true)) (.t 45))])
 (.cond (.t 46)
 (.seq
 (.reg [oo 6 (.move (.c (.bool false)))])
 .ret)
 .skip))
 (.seq
 (.reg [oo 48 (.bin .int .eql (.t 19) (.c (.int .i64 3))),
 mv 47 48])
 (.cond (.t 47)
 (.seq
 (.reg [oo 49 (.faddr 1 (.t 8)),
 oo 50 (.load none (.t 49)),
 oo 51 (.bin .str .neq (.t 50) (.c (.str ⟨#[]⟩))),
 mv 52 51,
 og 53 52 false (.faddr 2 (.t 8)),
 og 54 52 false (.load none (.t 53)),
 og 55 52 false (.bin .int .neq (.t 54) (.c (.int .i64 0))),
 oo 56 (.pick (.t 52) (.c (.bool true)) (.t 55)),
 mv 57 56,
 og 58 57 false (.faddr 3 (.t 8)),
 og 59 57 false (.load none (.t 58)),
 og 60 57 false (.len .slice (.t 59)),
 og 61 57 false (.bin .int .gtr (.t 60) (.c (.int .i64 0))),
 oo 62 (.pick (.t 57) (.c (.bool true)) (.t 61)),
 mv 63 62,
 og 64 63 false (.move (.t 7)),
 og 65 63 false (.move (.t 1)),
 og 66 63 false (.len .slice (.t 65)),
 og 67 63 false (.bin .int .sub (.t 66) (.c (.int .i64 1))),
 og 68 63 false (.bin .int .lss (.t 64) (.t 67)),
 oo 69 (.pick (.t 63) (.c (.bool true)) (.t 68))])
 (.cond (.t 69)
 (.seq
 (.reg [oo 6 (.move (.c (.bool false)))])
 .ret)
 .skip))
 (.seq
 (.reg [oo 6 (.move (.c (.bool false)))])
 .ret)))))))))
 (.seq
 (.seq
 (.reg [mv 70 1,
 mv 71 7,
 oo 72 (.cut .slice 13 (.t 70) none (some (.t 71))),
 oo 73 (.len .slice (.t 72)),
 oo 74 (.move (.c (.int .i64 0)))])
 (.block 3
 (.loop
 (.seq
 (.reg [oo 75 (.bin .int .lss (.t 74) (.t 73))])
 (.seq
 (.cond (.t 75)
 .skip
 (.exit 3))
 (.seq
 (.block 4
 (.seq
 (.reg [oo 76 (.iaddr 13 (.t 72) (.t 74)),
 oo 77 (.load (some 13) (.t 76)),
 oo 10 (.new 113 (.c (.agg [(.int .i64 0), (.str ⟨#[]⟩), (.int .i64 0), .nils, (.int .i64 0), (.str ⟨#[]⟩), (.int .i64 0), (.int .i64 0), .nils, .nils, .nils, .nils, .nils]))),
 ⟨none, .store 13 (.t 10) (.t 77), none⟩])
 (.seq
 (.reg [oo 78 (.faddr 0 (.t 10)),
 oo 79 (.load none (.t 78)),
 oo 80 (.faddr 0 (.t 8)),
 oo 81 (.load none (.t 80)),
 oo 82 (.bin .int .neq (.t 79) (.t 81)),
 mv 83 82,
 og 84 83 true (.faddr 0 (.t 8)),
 og 85 83 true (.load none (.t 84)),
 og 86 83 true (.bin .int .neq (.t 85) (.c (.int .i64 3))),
 oo 87 (.pick (.t 83) (.t 86) (.c (.bool false))),
 mv 88 87,
 og 89 88 false (.faddr 0 (.t 10)),
 og 90 88 false (.load none (.t 89)),
 og 91 88 false (.faddr 0 (.t 8)),
 og 92 88 false (.load none (.t 91)),
 og 93 88 false (.bin .int .eql (.t 90) (.t 92)),
 og 94 88 false (.move (.t 93)),
 og 95 94 true (.faddr 1 (.t 10)),
 og 96 94 true (.load none (.t 95)),
 og 97 94 true (.faddr 1 (.t 8)),
 og 98 94 true (.load none (.t 97)),
 og 99 94 true (.bin .str .eql (.t 96) (.t 98)),
 og 100 88 false (.pick (.t 94) (.t 99) (.c (.bool false))),
 og 101 88 false (.move (.t 100)),
 og 102 101 true (.faddr 0 (.t 8)),
 og 103 101 true (.load none (.t 102)),
 og 104 101 true (.bin .int .eql (.t 103) (.c (.int .i64 1))),
 og 105 101 true (.move (.t 104)),
 og 106 105 false (.faddr 2 (.t 10)),
 og 107 105 false (.load none (.t 106)),
 og 108 105 false (.faddr 2 (.t 8)),
 og 109 105 false (.load none (.t 108)),
 og 110 105 false (.bin .int .eql (.t 107) (.t 109)),
 og 111 101 true (.pick (.t 105) (.c (.bool true)) (.t 110)),
 og 112 88 false (.pick (.t 101) (.t 111) (.c (.bool false))),
 oo 113 (.pick (.t 88) (.c (.bool true)) (.t 112))])
 (.cond (.t 113)
 (.seq
 (.reg [oo 6 (.move (.c (.bool false)))])
 .ret)
 .skip))))
 (.reg [oo 114 (.bin .int .add (.t 74) (.c (.int .i64 1))),
 mv 74 114])))))))
 (.seq
 (.draw [] [([⟨(some 115), .move (.t 0), none⟩], []),
 ([⟨(some 116), .faddr 4 (.t 8), none⟩], []),
 ([⟨(some 117), .load (some 9) (.t 116), none⟩], []),
 ([⟨(some 118), .move (.t 2), none⟩], []),
 ([⟨(some 119), .faddr 3 (.t 8), none⟩], []),
 ([⟨(some 120), .load none (.t 119), none⟩], []),
 ([⟨(some 121), .call 143 [(.t 118), (.t 120)], none⟩], [⟨(some 116), .faddr 4 (.t 8), none⟩, ⟨(some 117), .load (some 9) (.t 116), none⟩]),
 ([⟨(some 122), .call 86 [(.t 115), (.t 117), (.t 121)], none⟩], []),
 ([⟨(some 123), .not (.t 122), none⟩], [])])
 (.cond (.t 123)
 (.seq
 (.reg [oo 6 (.move (.c (.bool false)))])
 .ret)
 .skip))))))
 (.reg [oo 124 (.bin .int .add (.t 13) (.c (.int .i64 1))),
 mv 13 124])))))))
 (.seq
 (.reg [mv 125 1,
 oo 126 (.len .slice (.t 125)),
 oo 127 (.bin .int .gtr (.t 126) (.c (.int .i64 0))),
 mv 6 127])
 .ret)))
theorem in144 {args : List AV} {σ : Store} {K : AV → Store → Prop} (hargs : args.length ≤ 128 := by simp) (h : AWP Try.prog Try.f144.ntmps c144 (fun e t s => match e with | .exit _ => False | _ => Res [.slot 6] K t s) (env (argList 0 args)) σ) : ACalls Try.prog 144 args σ K :=
 enter (own := []) Try.func144 (by kernel_rfl) (by kernel_rfl) (by kernel_rfl) hargs h
/-- (*changeling/lift.checker).picks -/
def c145 : ACode :=
(.seq
 (.reg [oo 6 (.move (.c (.bool false)))])
 (.seq
 (.reg [oo 7 (.move (.c .nils))])
 (.seq
 (.seq
 (.reg [mv 10 1,
 oo 11 (.len .slice (.t 10)),
 oo 12 (.move (.c (.int .i64 0)))])
 (.block 0
 (.loop
 (.seq
 (.reg [oo 13 (.bin .int .lss (.t 12) (.t 11))])
 (.seq
 (.cond (.t 13)
 .skip
 (.exit 0))
 (.seq
 (.block 1
 (.seq
 (.reg [oo 14 (.iaddr 10 (.t 10) (.t 12)),
 oo 15 (.load (some 10) (.t 14)),
 oo 9 (.new 116 (.c (.agg [(.int .i64 0), (.int .i64 0), (.str ⟨#[]⟩), (.int .i64 0), (.int .i64 0), .nils, .nils, .nils, .nils, .nils]))),
 ⟨none, .store 10 (.t 9) (.t 15), none⟩])
 (.seq
 (.seq
 (.reg [mv 16 7,
 oo 17 (.faddr 0 (.t 9)),
 oo 18 (.load none (.t 17)),
 oo 19 (.call 160 [(.t 16), (.t 18)]),
 mv 20 19,
 og 21 20 false (.move (.t 0)),
 og 22 20 false (.faddr 1 (.t 9)),
 og 23 20 false (.load (some 9) (.t 22)),
 og 24 20 false (.move (.t 2)),
 og 25 20 false (.call 86 [(.t 21), (.t 23), (.t 24)]),
 og 26 20 false (.not (.t 25)),
 oo 27 (.pick (.t 20) (.c (.bool true)) (.t 26))])
 (.cond (.t 27)
 (.seq
 (.reg [oo 6 (.move (.c (.bool false)))])
 .ret)
 .skip))
 (.reg [mv 28 7,
 oo 29 (.faddr 0 (.t 9)),
 oo 30 (.load none (.t 29)),
 oo 31 (.lit false 3 1 [(.t 30)]),
 oo 32 (.append 3 1 8 (.t 28) (.t 31)),
 mv 7 32]))))
 (.reg [oo 33 (.bin .int .add (.t 12) (.c (.int .i64 1))),
 mv 12 33])))))))
 (.seq
 (.reg [oo 6 (.move (.c (.bool true)))])
 .ret))))
theorem in145 {args : List AV} {σ : Store} {K : AV → Store → Prop} (hargs : args.length ≤ 34 := by simp) (h : AWP Try.prog Try.f145.ntmps c145 (fun e t s => match e with | .exit _ => False | _ => Res [.slot 6] K t s) (env (argList 0 args)) σ) : ACalls Try.prog 145 args σ K :=
 enter (own := []) Try.func145 (by kernel_rfl) (by kernel_rfl) (by kernel_rfl) hargs h
/-- slices.Contains[[]int,int] -/
def c160 : ACode :=
(.seq
 (.reg [oo 4 (.move (.c (.bool false)))])
 (.seq
 (.reg [mv 5 0,
 mv 6 1,
 oo 7 (.call 172 [(.t 5), (.t 6)]),
 oo 8 (.bin .int .geq (.t 7) (.c (.int .i64 0))),
 mv 4 8])
 .ret))
theorem in160 {args : List AV} {σ : Store} {K : AV → Store → Prop} (hargs : args.length ≤ 9 := by simp) (h : AWP Try.prog Try.f160.ntmps c160 (fun e t s => match e with | .exit _ => False | _ => Res [.slot 4] K t s) (env (argList 0 args)) σ) : ACalls Try.prog 160 args σ K :=
 enter (own := []) Try.func160 (by kernel_rfl) (by kernel_rfl) (by kernel_rfl) hargs h
/-- slices.Index[[]int,int] -/
def c172 : ACode :=
(.seq
 (.reg [oo 4 (.move (.c (.int .i64 0)))])
 (.seq
 (.seq
 (.reg [mv 6 0,
 oo 7 (.len .slice (.t 6)),
 oo 8 (.move (.c (.int .i64 0)))])
 (.block 0
 (.loop
 (.seq
 (.reg [oo 9 (.bin .int .lss (.t 8) (.t 7))])
 (.seq
 (.cond (.t 9)
 .skip
 (.exit 0))
 (.seq
 (.block 1
 (.seq
 (.reg [mv 10 8,
 mv 5 10])
 (.seq
 (.reg [mv 11 1,
 mv 12 0,
 mv 13 5,
 oo 14 (.iaddr 1 (.t 12) (.t 13)),
 oo 15 (.load none (.t 14)),
 oo 16 (.bin .int .eql (.t 11) (.t 15))])
 (.cond (.t 16)
 (.seq
 (.reg [mv 17 5,
 mv 4 17])
 .ret)
 .skip))))
 (.reg [oo 18 (.bin .int .add (.t 8) (.c (.int .i64 1))),
 mv 8 18])))))))
 (.seq
 (.reg [oo 4 (.move (.c (.int .i64 (-1))))])
 .ret)))
theorem in172 {args : List AV} {σ : Store} {K : AV → Store → Prop} (hargs : args.length ≤ 19 := by simp) (h : AWP Try.prog Try.f172.ntmps c172 (fun e t s => match e with | .exit _ => False | _ => Res [.slot 4] K t s) (env (argList 0 args)) σ) : ACalls Try.prog 172 args σ K :=
 enter (own := []) Try.func172 (by kernel_rfl) (by kernel_rfl) (by kernel_rfl) hargs h
/-- (*changeling/lift.lifter).now -/
def c48 : ACode :=
(.seq
 (.reg [oo 3 (.new 54 (.t 1)),
 oo 4 (.new 54 (.c (.agg [(.int .i64 0), (.str ⟨#[]⟩), (.int .i64 0), (.int .i64 0), .nils, .nils, .nils, .nils, .nils])))])
 (.seq
 (.seq
 (.reg [oo 5 (.faddr 0 (.t 3)),
 oo 6 (.load none (.t 5)),
 oo 7 (.bin .int .eql (.t 6) (.c (.int .i64 6)))])
 (.cond (.t 7)
 (.seq
 (.reg [mv 8 0,
 oo 9 (.load (some 9) (.t 3)),
 oo 10 (.faddr 4 (.t 3)),
 oo 11 (.load none (.t 10)),
 oo 12 (.faddr 5 (.t 3)),
 oo 13 (.load none (.t 12)),
 oo 14 (.iaddr 9 (.t 13) (.c (.int .i64 0))),
 oo 15 (.load (some 9) (.t 14)),
 oo 16 (.call 87 [(.t 8), (.t 9), (.t 11), (.t 15)]),
 ⟨none, .store 9 (.t 4) (.t 16), none⟩])
 .ret)
 .skip))
 (.seq
 (.reg [mv 17 0,
 oo 18 (.load (some 9) (.t 3)),
 mv 19 0,
 oo 20 (.mkfn (.func 48) [(.t 19)] []),
 mv 21 0,
 oo 22 (.mkfn (.func 89) [(.t 21)] []),
 oo 23 (.call 88 [(.t 17), (.t 18), (.t 20), (.t 22)]),
 ⟨none, .store 9 (.t 4) (.t 23), none⟩])
 .ret)))
theorem in48 {args : List AV} {σ : Store} {K : AV → Store → Prop} (hargs : args.length ≤ 24 := by simp) (h : AWP Try.prog Try.f48.ntmps c48 (fun e t s => match e with | .exit _ => False | _ => Res [.cell 4 (some 9)] K t s) (env (argList 0 args)) σ) : ACalls Try.prog 48 args σ K :=
 enter (own := []) Try.func48 (by kernel_rfl) (by kernel_rfl) (by kernel_rfl) hargs h
/-- (*changeling/lift.lifter).named -/
def c87 : ACode :=
(.seq
 (.reg [oo 5 (.new 54 (.t 1)),
 oo 7 (.new 54 (.t 3)),
 oo 8 (.new 54 (.c (.agg [(.int .i64 0), (.str ⟨#[]⟩), (.int .i64 0), (.int .i64 0), .nils, .nils, .nils, .nils, .nils])))])
 (.seq
 (.reg [oo 17 (.load (some 9) (.t 5)),
 oo 18 (.call 46 [(.t 17)]),
 mv 9 18])
 (.seq
 (.reg [mv 19 0,
 oo 20 (.nilck (.t 19)),
 oo 21 (.faddr 1 (.t 20)),
 oo 22 (.load none (.t 21)),
 oo 23 (.len .slice (.t 22)),
 mv 10 23])
 (.seq
 (.draw [] [([⟨(some 24), .move (.t 0), none⟩], []),
 ([⟨(some 25), .nilck (.t 24), none⟩], []),
 ([⟨(some 26), .faddr 0 (.t 25), none⟩], []),
 ([⟨(some 27), .load none (.t 26), none⟩], []),
 ([⟨(some 28), .bin .str .add (.t 27) (.c (.str ⟨#[35]⟩)), none⟩], []),
 ([⟨(some 29), .move (.t 10), none⟩], []),
 ([⟨(some 30), .bin .int .add (.t 29) (.c (.int .i64 1)), none⟩], []),
 ([⟨(some 31), .call 132 [(.t 30)], none⟩], [⟨(some 26), .faddr 0 (.t 25), none⟩, ⟨(some 27), .load none (.t 26), none⟩]),
 ([⟨(some 32), .bin .str .add (.t 28) (.t 31), none⟩], []),
 ([⟨(some 11), .move (.t 32), none⟩], [])])
 (.seq
 (.draw [] [([⟨(some 33), .move (.t 0), none⟩], []),
 ([⟨(some 34), .move (.t 0), none⟩], []),
 ([⟨(some 35), .nilck (.t 34), none⟩], []),
 ([⟨(some 36), .faddr 1 (.t 35), none⟩], []),
 ([⟨(some 37), .load none (.t 36), none⟩], []),
 ([⟨(some 38), .move (.t 11), none⟩], []),
 ([⟨(some 39), .move (.t 9), none⟩], []),
 ([⟨(some 40), .move (.t 2), none⟩], []),
 ([⟨(some 41), .call 143 [(.t 39), (.t 40)], none⟩], [⟨(some 36), .faddr 1 (.t 35), none⟩, ⟨(some 37), .load none (.t 36), none⟩]),
 ([⟨(some 42), .build [(.str ⟨#[]⟩), .nils, (.int .i64 0), (.str ⟨#[]⟩), (.int .i64 0), (.int .i64 0), .nils, .nils, .nils, .nils, .nils] [(0, 1, (.t 38)), (1, 1, (.t 41))], none⟩], []),
 ([⟨(some 43), .lit false 71 11 [(.t 42)], none⟩], []),
 ([⟨(some 44), .append 71 11 200 (.t 37) (.t 43), none⟩], []),
 ([⟨(some 45), .nilck (.t 33), none⟩], []),
 ([⟨(some 46), .faddr 1 (.t 45), none⟩], []),
 ([⟨none, .store 1 (.t 46) (.t 44), none⟩], [])])
 (.seq
 (.reg [mv 47 0,
 oo 48 (.load (some 9) (.t 7)),
 oo 49 (.call 48 [(.t 47), (.t 48)]),
 oo 12 (.new 54 (.c (.agg [(.int .i64 0), (.str ⟨#[]⟩), (.int .i64 0), (.int .i64 0), .nils, .nils, .nils, .nils, .nils]))),
 ⟨none, .store 9 (.t 12) (.t 49), none⟩])
 (.seq
 (.reg [mv 50 0,
 oo 51 (.nilck (.t 50)),
 oo 52 (.faddr 1 (.t 51)),
 oo 53 (.load none (.t 52)),
 mv 54 10,
 oo 55 (.load (some 9) (.t 12)),
 oo 56 (.iaddr 11 (.t 53) (.t 54)),
 oo 57 (.faddr 2 (.t 56)),
 ⟨none, .store 9 (.t 57) (.t 55), none⟩])
 (.seq
 (.reg [mv 58 11,
 oo 59 (.build [(.int .i64 0), (.str ⟨#[]⟩), (.int .i64 0), (.int .i64 0), .nils, .nils, .nils, .nils, .nils] [(0, 1, (.c (.int .i64 2))), (1, 1, (.t 58))]),
 oo 13 (.new 54 (.c (.agg [(.int .i64 0), (.str ⟨#[]⟩), (.int .i64 0), (.int .i64 0), .nils, .nils, .nils, .nils, .nils]))),
 ⟨none, .store 9 (.t 13) (.t 59), none⟩])
 (.seq
 (.seq
 (.reg [mv 60 9,
 oo 61 (.len .slice (.t 60)),
 oo 62 (.move (.c (.int .i64 0)))])
 (.block 0
 (.loop
 (.seq
 (.reg [oo 63 (.bin .int .lss (.t 62) (.t 61))])
 (.seq
 (.cond (.t 63)
 .skip
 (.exit 0))
 (.seq
 (.block 1
 (.seq
 (.reg [oo 64 (.iaddr 1 (.t 60) (.t 62)),
 oo 65 (.load none (.t 64)),
 mv 15 65])
 (.seq
 (.reg [oo 66 (.load (some 9) (.t 13)),
 oo 16 (.new 54 (.c (.agg [(.int .i64 0), (.str ⟨#[]⟩), (.int .i64 0), (.int .i64 0), .nils, .nils, .nils, .nils, .nils]))),
 ⟨none, .store 9 (.t 16) (.t 66), none⟩])
 (.reg [oo 67 (.load (some 9) (.t 16)),
 mv 68 15,
 oo 69 (.build [(.int .i64 0), (.str ⟨#[]⟩), (.int .i64 0), (.int .i64 0), .nils, .nils, .nils, .nils, .nils] [(0, 1, (.c (.int .i64 1))), (1, 1, (.t 68))]),
 oo 70 (.lit false 54 9 [(.t 67), (.t 69)]),
 oo 71 (.build [(.int .i64 0), (.str ⟨#[]⟩), (.int .i64 0), (.int .i64 0), .nils, .nils, .nils, .nils, .nils] [(0, 1, (.c (.int .i64 5))), (5, 1, (.t 70))]),
 ⟨none, .store 9 (.t 13) (.t 71), none⟩]))))
 (.reg [oo 72 (.bin .int .add (.t 62) (.c (.int .i64 1))),
 mv 62 72])))))))
 (.seq
 (.reg [oo 73 (.load (some 9) (.t 13)),
 ⟨none, .store 9 (.t 8) (.t 73), none⟩])
 .ret))))))))))
theorem in87 {args : List AV} {σ : Store} {K : AV → Store → Prop} (hargs : args.length ≤ 74 := by simp) (h : AWP Try.prog Try.f87.ntmps c87 (fun e t s => match e with | .exit _ => False | _ => Res [.cell 8 (some 9)] K t s) (env (argList 0 args)) σ) : ACalls Try.prog 87 args σ K :=
 enter (own := []) Try.func87 (by kernel_rfl) (by kernel_rfl) (by kernel_rfl) hargs h
/-- changeling/lift.Free -/
def c46 : ACode :=
(.seq
 (.reg [oo 1 (.new 54 (.t 0)),
 oo 2 (.move (.c .nils))])
 (.seq
 (.reg [oo 4 (.build [.nils, .nils] []),
 oo 5 (.new 192 (.t 4)),
 mv 3 5])
 (.seq
 (.reg [mv 6 3,
 oo 7 (.load (some 9) (.t 1)),
 oo 8 (.call 82 [(.t 6), (.t 7)])])
 (.seq
 (.reg [mv 9 3,
 oo 10 (.nilck (.t 9)),
 oo 11 (.faddr 1 (.t 10)),
 oo 12 (.load none (.t 11)),
 mv 2 12])
 .ret))))
theorem in46 {args : List AV} {σ : Store} {K : AV → Store → Prop} (hargs : args.length ≤ 13 := by simp) (h : AWP Try.prog Try.f46.ntmps c46 (fun e t s => match e with | .exit _ => False | _ => Res [.slot 2] K t s) (env (argList 0 args)) σ) : ACalls Try.prog 46 args σ K :=
 enter (own := []) Try.func46 (by kernel_rfl) (by kernel_rfl) (by kernel_rfl) hargs h
/-- (*changeling/lift.finder).look -/
def c82 : ACode :=
(.seq
 (.reg [oo 2 (.new 190 (.t 0)),
 oo 3 (.new 54 (.t 1))])
 (.seq
 (.seq
 (.reg [oo 5 (.faddr 0 (.t 3)),
 oo 6 (.load none (.t 5)),
 oo 7 (.bin .int .eql (.t 6) (.c (.int .i64 1))),
 mv 8 7,
 og 9 8 true (.load none (.t 2)),
 og 10 8 true (.nilck (.t 9)),
 og 11 8 true (.faddr 0 (.t 10)),
 og 12 8 true (.load none (.t 11)),
 og 13 8 true (.faddr 1 (.t 3)),
 og 14 8 true (.load none (.t 13)),
 og 15 8 true (.call 85 [(.t 12), (.t 14)]),
 og 16 8 true (.not (.t 15)),
 oo 17 (.pick (.t 8) (.t 16) (.c (.bool false))),
 mv 18 17,
 og 19 18 true (.load none (.t 2)),
 og 20 18 true (.nilck (.t 19)),
 og 21 18 true (.faddr 1 (.t 20)),
 og 22 18 true (.load none (.t 21)),
 og 23 18 true (.faddr 1 (.t 3)),
 og 24 18 true (.load none (.t 23)),
 og 25 18 true (.call 85 [(.t 22), (.t 24)]),
 og 26 18 true (.not (.t 25)),
 oo 27 (.pick (.t 18) (.t 26) (.c (.bool false)))])
 (.cond (.t 27)
 (.draw [] [([⟨(some 28), .load none (.t 2), none⟩], []),
 ([⟨(some 29), .load none (.t 2), none⟩], []),
 ([⟨(some 30), .nilck (.t 29), none⟩], []),
 ([⟨(some 31), .faddr 1 (.t 30), none⟩], []),
 ([⟨(some 32), .load none (.t 31), none⟩], []),
 ([⟨(some 33), .faddr 1 (.t 3), none⟩], []),
 ([⟨(some 34), .load none (.t 33), none⟩], []),
 ([⟨(some 35), .lit false 9 1 [(.t 34)], none⟩], []),
 ([⟨(some 36), .append 9 1 16 (.t 32) (.t 35), none⟩], [⟨(some 28), .load none (.t 2), none⟩]),
 ([⟨(some 37), .nilck (.t 28), none⟩], []),
 ([⟨(some 38), .faddr 1 (.t 37), none⟩], []),
 ([⟨none, .store 1 (.t 38) (.t 36), none⟩], [])])
 .skip))
 (.seq
 (.reg [oo 39 (.faddr 4 (.t 3)),
 oo 40 (.load none (.t 39)),
 mv 4 40])
 (.seq
 (.seq
 (.reg [oo 41 (.faddr 0 (.t 3)),
 oo 42 (.load none (.t 41)),
 oo 43 (.bin .int .eql (.t 42) (.c (.int .i64 7)))])
 (.cond (.t 43)
 (.reg [oo 44 (.faddr 7 (.t 3)),
 oo 45 (.load none (.t 44)),
 oo 46 (.call 136 [(.t 45)]),
 mv 4 46])
 .skip))
 (.reg [oo 47 (.load none (.t 2)),
 mv 48 4,
 oo 49 (.mkfn (.func 138) [] [(.t 3), (.t 2)]),
 oo 50 (.call 137 [(.t 47), (.t 48), (.t 49)])])))))
theorem in82 {args : List AV} {σ : Store} {K : AV → Store → Prop} (hargs : args.length ≤ 51 := by simp) (h : AWP Try.prog Try.f82.ntmps c82 (fun e t s => match e with | .exit _ => False | _ => Res [] K t s) (env (argList 0 args)) σ) : ACalls Try.prog 82 args σ K :=
 enter (own := []) Try.func82 (by kernel_rfl) (by kernel_rfl) (by kernel_rfl) hargs h
/-- (*changeling/lift.finder).look$1 -/
def c138 : ACode :=
(.seq
 (.seq
 (.reg [oo 10 (.faddr 5 (.t 0)),
 oo 11 (.load none (.t 10)),
 oo 12 (.len .slice (.t 11)),
 oo 13 (.move (.c (.int .i64 0)))])
 (.block 0
 (.loop
 (.seq
 (.reg [oo 14 (.bin .int .lss (.t 13) (.t 12))])
 (.seq
 (.cond (.t 14)
 .skip
 (.exit 0))
 (.seq
 (.block 1
 (.seq
 (.reg [oo 15 (.iaddr 9 (.t 11) (.t 13)),
 oo 16 (.load (some 9) (.t 15)),
 oo 3 (.new 54 (.c (.agg [(.int .i64 0), (.str ⟨#[]⟩), (.int .i64 0), (.int .i64 0), .nils, .nils, .nils, .nils, .nils]))),
 ⟨none, .store 9 (.t 3) (.t 16), none⟩])
 (.reg [oo 17 (.load none (.t 1)),
 oo 18 (.load (some 9) (.t 3)),
 oo 19 (.call 82 [(.t 17), (.t 18)])])))
 (.reg [oo 20 (.bin .int .add (.t 13) (.c (.int .i64 1))),
 mv 13 20])))))))
 (.seq
 (.seq
 (.reg [oo 21 (.faddr 6 (.t 0)),
 oo 22 (.load none (.t 21)),
 oo 23 (.len .slice (.t 22)),
 oo 24 (.move (.c (.int .i64 0)))])
 (.block 2
 (.loop
 (.seq
 (.reg [oo 25 (.bin .int .lss (.t 24) (.t 23))])
 (.seq
 (.cond (.t 25)
 .skip
 (.exit 2))
 (.seq
 (.block 3
 (.seq
 (.reg [oo 26 (.iaddr 13 (.t 22) (.t 24)),
 oo 27 (.load (some 13) (.t 26)),
 oo 5 (.new 113 (.c (.agg [(.int .i64 0), (.str ⟨#[]⟩), (.int .i64 0), .nils, (.int .i64 0), (.str ⟨#[]⟩), (.int .i64 0), (.int .i64 0), .nils, .nils, .nils, .nils, .nils]))),
 ⟨none, .store 13 (.t 5) (.t 27), none⟩])
 (.reg [oo 28 (.load none (.t 1)),
 oo 29 (.faddr 3 (.t 5)),
 oo 30 (.load none (.t 29)),
 oo 31 (.mkfn (.func 139) [] [(.t 1), (.t 5)]),
 oo 32 (.call 137 [(.t 28), (.t 30), (.t 31)])])))
 (.reg [oo 33 (.bin .int .add (.t 24) (.c (.int .i64 1))),
 mv 24 33])))))))
 (.seq
 (.seq
 (.reg [oo 34 (.faddr 7 (.t 0)),
 oo 35 (.load none (.t 34)),
 oo 36 (.len .slice (.t 35)),
 oo 37 (.move (.c (.int .i64 0)))])
 (.block 4
 (.loop
 (.seq
 (.reg [oo 38 (.bin .int .lss (.t 37) (.t 36))])
 (.seq
 (.cond (.t 38)
 .skip
 (.exit 4))
 (.seq
 (.block 5
 (.seq
 (.reg [oo 39 (.iaddr 10 (.t 35) (.t 37)),
 oo 40 (.load (some 10) (.t 39)),
 oo 7 (.new 114 (.c (.agg [(.str ⟨#[]⟩), (.int .i64 0), (.str ⟨#[]⟩), (.int .i64 0), (.int .i64 0), .nils, .nils, .nils, .nils, .nils]))),
 ⟨none, .store 10 (.t 7) (.t 40), none⟩])
 (.reg [oo 41 (.load none (.t 1)),
 oo 42 (.faddr 1 (.t 7)),
 oo 43 (.load (some 9) (.t 42)),
 oo 44 (.call 82 [(.t 41), (.t 43)])])))
 (.reg [oo 45 (.bin .int .add (.t 37) (.c (.int .i64 1))),
 mv 37 45])))))))
 (.seq
 (.reg [oo 46 (.faddr 8 (.t 0)),
 oo 47 (.load none (.t 46)),
 oo 48 (.len .slice (.t 47)),
 oo 49 (.move (.c (.int .i64 0)))])
 (.block 6
 (.loop
 (.seq
 (.reg [oo 50 (.bin .int .lss (.t 49) (.t 48))])
 (.seq
 (.cond (.t 50)
 .skip
 (.exit 6))
 (.seq
 (.block 7
 (.seq
 (.reg [oo 51 (.iaddr 10 (.t 47) (.t 49)),
 oo 52 (.load (some 10) (.t 51)),
 oo 9 (.new 116 (.c (.agg [(.int .i64 0), (.int .i64 0), (.str ⟨#[]⟩), (.int .i64 0), (.int .i64 0), .nils, .nils, .nils, .nils, .nils]))),
 ⟨none, .store 10 (.t 9) (.t 52), none⟩])
 (.reg [oo 53 (.load none (.t 1)),
 oo 54 (.faddr 1 (.t 9)),
 oo 55 (.load (some 9) (.t 54)),
 oo 56 (.call 82 [(.t 53), (.t 55)])])))
 (.reg [oo 57 (.bin .int .add (.t 49) (.c (.int .i64 1))),
 mv 49 57]))))))))))
theorem in138 {args : List AV} {σ : Store} {K : AV → Store → Prop} (hargs : args.length ≤ 58 := by simp) (h : AWP Try.prog Try.f138.ntmps c138 (fun e t s => match e with | .exit _ => False | _ => Res [] K t s) (env (argList 0 args)) σ) : ACalls Try.prog 138 args σ K :=
 enter (own := []) Try.func138 (by kernel_rfl) (by kernel_rfl) (by kernel_rfl) hargs h
/-- (*changeling/lift.finder).look$1$1 -/
def c139 : ACode :=
(.reg [oo 2 (.load none (.t 0)),
 oo 3 (.faddr 4 (.t 1)),
 oo 4 (.load (some 9) (.t 3)),
 oo 5 (.call 82 [(.t 2), (.t 4)])])
theorem in139 {args : List AV} {σ : Store} {K : AV → Store → Prop} (hargs : args.length ≤ 6 := by simp) (h : AWP Try.prog Try.f139.ntmps c139 (fun e t s => match e with | .exit _ => False | _ => Res [] K t s) (env (argList 0 args)) σ) : ACalls Try.prog 139 args σ K :=
 enter (own := []) Try.func139 (by kernel_rfl) (by kernel_rfl) (by kernel_rfl) hargs h
/-- (*changeling/lift.finder).within -/
def c137 : ACode :=
(.seq
 (.reg [mv 7 0,
 oo 8 (.nilck (.t 7)),
 oo 9 (.faddr 0 (.t 8)),
 oo 10 (.load none (.t 9)),
 oo 11 (.len .slice (.t 10)),
 mv 6 11])
 (.seq
 (.reg [mv 12 0,
 mv 13 0,
 oo 14 (.nilck (.t 13)),
 oo 15 (.faddr 0 (.t 14)),
 oo 16 (.load none (.t 15)),
 mv 17 1,
 oo 18 (.append 9 1 16 (.t 16) (.t 17)),
 oo 19 (.nilck (.t 12)),
 oo 20 (.faddr 0 (.t 19)),
 ⟨none, .store 1 (.t 20) (.t 18), none⟩])
 (.seq
 (.reg [mv 21 2,
 oo 22 (.callv (.t 21) [])])
 (.reg [mv 23 0,
 mv 24 0,
 oo 25 (.nilck (.t 24)),
 oo 26 (.faddr 0 (.t 25)),
 oo 27 (.load none (.t 26)),
 mv 28 6,
 oo 29 (.cut .slice 1 (.t 27) none (some (.t 28))),
 oo 30 (.nilck (.t 23)),
 oo 31 (.faddr 0 (.t 30)),
 ⟨none, .store 1 (.t 31) (.t 29), none⟩]))))
theorem in137 {args : List AV} {σ : Store} {K : AV → Store → Prop} (hargs : args.length ≤ 32 := by simp) (h : AWP Try.prog Try.f137.ntmps c137 (fun e t s => match e with | .exit _ => False | _ => Res [] K t s) (env (argList 0 args)) σ) : ACalls Try.prog 137 args σ K :=
 enter (own := []) Try.func137 (by kernel_rfl) (by kernel_rfl) (by kernel_rfl) hargs h
/-- changeling/num.Text -/
def c132 : ACode :=
(.seq
 (.reg [oo 2 (.move (.c (.str ⟨#[]⟩)))])
 (.seq
 (.reg [mv 7 0,
 oo 8 (.conv .u64 (.t 7)),
 mv 3 8])
 (.seq
 (.seq
 (.reg [mv 9 0,
 oo 10 (.bin .int .lss (.t 9) (.c (.int .i64 0)))])
 (.cond (.t 10)
 (.reg [mv 11 3,
 oo 12 (.neg (.t 11)),
 mv 3 12])
 .skip))
 (.seq
 (.reg [oo 4 (.move (.c .nils))])
 (.seq
 (.block 0
 (.loop
 (.seq
 (.seq
 (.reg [mv 13 3,
 oo 14 (.bin .int .gtr (.t 13) (.c (.int .u64 0))),
 mv 15 14,
 og 16 15 false (.move (.t 4)),
 og 17 15 false (.len .slice (.t 16)),
 og 18 15 false (.bin .int .eql (.t 17) (.c (.int .i64 0))),
 oo 19 (.pick (.t 15) (.c (.bool true)) (.t 18))])
 (.cond (.t 19)
 .skip
 (.exit 0)))
 (.block 1
 (.seq
 (.reg [mv 20 4,
 mv 21 3,
 oo 22 (.bin .int .rem (.t 21) (.c (.int .u64 10))),
 oo 23 (.bin .int .add (.c (.int .u64 48)) (.t 22)),
 oo 24 (.conv .u8 (.t 23)),
 oo 25 (.lit false 5 1 [(.t 24)]),
 oo 26 (.append 5 1 1 (.t 20) (.t 25)),
 mv 4 26])
 (.reg [mv 27 3,
 oo 28 (.bin .int .quo (.t 27) (.c (.int .u64 10))),
 mv 3 28]))))))
 (.seq
 (.seq
 (.reg [mv 29 0,
 oo 30 (.bin .int .lss (.t 29) (.c (.int .i64 0)))])
 (.cond (.t 30)
 (.reg [mv 31 4,
 oo 32 (.lit false 5 1 [(.c (.int .u8 45))]),
 oo 33 (.append 5 1 1 (.t 31) (.t 32)),
 mv 4 33])
 .skip))
 (.seq
 (.seq
 (.reg [mv 34 4,
 oo 35 (.len .slice (.t 34)),
 oo 36 (.bin .int .sub (.t 35) (.c (.int .i64 1))),
 oo 5 (.move (.c (.int .i64 0))),
 mv 6 36])
 (.block 2
 (.loop
 (.seq
 (.seq
 (.reg [mv 37 5,
 mv 38 6,
 oo 39 (.bin .int .lss (.t 37) (.t 38))])
 (.cond (.t 39)
 .skip
 (.exit 2)))
 (.seq
 (.block 3
 (.reg [mv 44 4,
 mv 45 5,
 mv 46 4,
 mv 47 6,
 mv 48 4,
 mv 49 6,
 oo 50 (.iaddr 1 (.t 48) (.t 49)),
 oo 51 (.load none (.t 50)),
 mv 52 4,
 mv 53 5,
 oo 54 (.iaddr 1 (.t 52) (.t 53)),
 oo 55 (.load none (.t 54)),
 oo 56 (.iaddr 1 (.t 44) (.t 45)),
 ⟨none, .store 1 (.t 56) (.t 51), none⟩,
 oo 57 (.iaddr 1 (.t 46) (.t 47)),
 ⟨none, .store 1 (.t 57) (.t 55), none⟩]))
 (.reg [mv 40 5,
 oo 41 (.bin .int .add (.t 40) (.c (.int .i64 1))),
 mv 42 6,
 oo 43 (.bin .int .sub (.t 42) (.c (.int .i64 1))),
 mv 5 41,
 mv 6 43]))))))
 (.seq
 (.reg [mv 58 4,
 oo 59 (.bstr (.t 58)),
 mv 2 59])
 .ret))))))))
theorem in132 {args : List AV} {σ : Store} {K : AV → Store → Prop} (hargs : args.length ≤ 60 := by simp) (h : AWP Try.prog Try.f132.ntmps c132 (fun e t s => match e with | .exit _ => False | _ => Res [.slot 2] K t s) (env (argList 0 args)) σ) : ACalls Try.prog 132 args σ K :=
 enter (own := []) Try.func132 (by kernel_rfl) (by kernel_rfl) (by kernel_rfl) hargs h
/-- (*changeling/lift.lifter).later -/
def c89 : ACode :=
(.seq
 (.reg [oo 3 (.new 54 (.t 1)),
 oo 4 (.new 54 (.c (.agg [(.int .i64 0), (.str ⟨#[]⟩), (.int .i64 0), (.int .i64 0), .nils, .nils, .nils, .nils, .nils])))])
 (.seq
 (.seq
 (.reg [oo 5 (.faddr 0 (.t 3)),
 oo 6 (.load none (.t 5))])
 (.block 0
 (.seq
 (.reg [oo 8 (.bin .int .eql (.t 6) (.c (.int .i64 6))),
 mv 7 8])
 (.cond (.t 7)
 (.seq
 (.reg [mv 9 0,
 oo 10 (.load (some 9) (.t 3)),
 oo 11 (.faddr 4 (.t 3)),
 oo 12 (.load none (.t 11)),
 oo 13 (.faddr 5 (.t 3)),
 oo 14 (.load none (.t 13)),
 oo 15 (.iaddr 9 (.t 14) (.c (.int .i64 0))),
 oo 16 (.load (some 9) (.t 15)),
 oo 17 (.call 87 [(.t 9), (.t 10), (.t 12), (.t 16)]),
 ⟨none, .store 9 (.t 4) (.t 17), none⟩])
 .ret)
 (.seq
 (.seq
 (.reg [oo 19 (.bin .int .eql (.t 6) (.c (.int .i64 8))),
 mv 18 19])
 (.cond (.t 18)
 .skip
 (.seq
 (.reg [oo 20 (.bin .int .eql (.t 6) (.c (.int .i64 11))),
 mv 18 20])
 (.cond (.t 18)
 .skip
 (.reg [oo 21 (.bin .int .eql (.t 6) (.c (.int .i64 10))),
 mv 18 21])))))
 (.cond (.t 18)
 (.seq
 (.reg [mv 22 0,
 oo 23 (.load (some 9) (.t 3)),
 oo 24 (.load (some 9) (.t 3)),
 oo 25 (.call 87 [(.t 22), (.t 23), (.c .nils), (.t 24)]),
 ⟨none, .store 9 (.t 4) (.t 25), none⟩])
 .ret)
 .skip))))))
 (.seq
 (.reg [mv 26 0,
 oo 27 (.load (some 9) (.t 3)),
 mv 28 0,
 oo 29 (.mkfn (.func 89) [(.t 28)] []),
 mv 30 0,
 oo 31 (.mkfn (.func 89) [(.t 30)] []),
 oo 32 (.call 88 [(.t 26), (.t 27), (.t 29), (.t 31)]),
 ⟨none, .store 9 (.t 4) (.t 32), none⟩])
 .ret)))
theorem in89 {args : List AV} {σ : Store} {K : AV → Store → Prop} (hargs : args.length ≤ 33 := by simp) (h : AWP Try.prog Try.f89.ntmps c89 (fun e t s => match e with | .exit _ => False | _ => Res [.cell 4 (some 9)] K t s) (env (argList 0 args)) σ) : ACalls Try.prog 89 args σ K :=
 enter (own := []) Try.func89 (by kernel_rfl) (by kernel_rfl) (by kernel_rfl) hargs h
/-- (*changeling/lift.lifter).mapped -/
def c88 : ACode :=
(.seq
 (.reg [oo 5 (.new 54 (.t 1)),
 oo 8 (.new 54 (.c (.agg [(.int .i64 0), (.str ⟨#[]⟩), (.int .i64 0), (.int .i64 0), .nils, .nils, .nils, .nils, .nils])))])
 (.seq
 (.reg [mv 22 2,
 mv 9 22])
 (.seq
 (.seq
 (.reg [oo 23 (.faddr 0 (.t 5)),
 oo 24 (.load none (.t 23)),
 oo 25 (.bin .int .eql (.t 24) (.c (.int .i64 5)))])
 (.cond (.t 25)
 (.reg [mv 26 3,
 mv 9 26])
 .skip))
 (.seq
 (.reg [oo 10 (.move (.c .nils))])
 (.seq
 (.seq
 (.reg [oo 27 (.faddr 5 (.t 5)),
 oo 28 (.load none (.t 27)),
 oo 29 (.len .slice (.t 28)),
 oo 30 (.move (.c (.int .i64 0)))])
 (.block 0
 (.loop
 (.seq
 (.reg [oo 31 (.bin .int .lss (.t 30) (.t 29))])
 (.seq
 (.cond (.t 31)
 .skip
 (.exit 0))
 (.seq
 (.block 1
 (.seq
 (.reg [oo 32 (.iaddr 9 (.t 28) (.t 30)),
 oo 33 (.load (some 9) (.t 32)),
 oo 12 (.new 54 (.c (.agg [(.int .i64 0), (.str ⟨#[]⟩), (.int .i64 0), (.int .i64 0), .nils, .nils, .nils, .nils, .nils]))),
 ⟨none, .store 9 (.t 12) (.t 33), none⟩])
 (.reg [mv 34 10,
 mv 35 9,
 oo 36 (.load (some 9) (.t 12)),
 oo 37 (.callv (.t 35) [(.t 36)]),
 oo 38 (.lit false 54 9 [(.t 37)]),
 oo 39 (.append 54 9 160 (.t 34) (.t 38)),
 mv 10 39])))
 (.reg [oo 40 (.bin .int .add (.t 30) (.c (.int .i64 1))),
 mv 30 40])))))))
 (.seq
 (.reg [mv 41 10,
 oo 42 (.faddr 5 (.t 5)),
 ⟨none, .store 1 (.t 42) (.t 41), none⟩])
 (.seq
 (.reg [oo 13 (.move (.c .nils))])
 (.seq
 (.seq
 (.reg [oo 43 (.faddr 6 (.t 5)),
 oo 44 (.load none (.t 43)),
 oo 45 (.len .slice (.t 44)),
 oo 46 (.move (.c (.int .i64 0)))])
 (.block 2
 (.loop
 (.seq
 (.reg [oo 47 (.bin .int .lss (.t 46) (.t 45))])
 (.seq
 (.cond (.t 47)
 .skip
 (.exit 2))
 (.seq
 (.block 3
 (.seq
 (.reg [oo 48 (.iaddr 13 (.t 44) (.t 46)),
 oo 49 (.load (some 13) (.t 48)),
 oo 15 (.new 113 (.c (.agg [(.int .i64 0), (.str ⟨#[]⟩), (.int .i64 0), .nils, (.int .i64 0), (.str ⟨#[]⟩), (.int .i64 0), (.int .i64 0), .nils, .nils, .nils, .nils, .nils]))),
 ⟨none, .store 13 (.t 15) (.t 49), none⟩])
 (.seq
 (.reg [mv 50 2,
 oo 51 (.faddr 4 (.t 15)),
 oo 52 (.load (some 9) (.t 51)),
 oo 53 (.callv (.t 50) [(.t 52)]),
 oo 54 (.faddr 4 (.t 15)),
 ⟨none, .store 9 (.t 54) (.t 53), none⟩])
 (.reg [mv 55 13,
 oo 56 (.load (some 13) (.t 15)),
 oo 57 (.lit false 113 13 [(.t 56)]),
 oo 58 (.append 113 13 216 (.t 55) (.t 57)),
 mv 13 58]))))
 (.reg [oo 59 (.bin .int .add (.t 46) (.c (.int .i64 1))),
 mv 46 59])))))))
 (.seq
 (.reg [mv 60 13,
 oo 61 (.faddr 6 (.t 5)),
 ⟨none, .store 1 (.t 61) (.t 60), none⟩])
 (.seq
 (.reg [oo 16 (.move (.c .nils))])
 (.seq
 (.seq
 (.reg [oo 62 (.faddr 7 (.t 5)),
 oo 63 (.load none (.t 62)),
 oo 64 (.len .slice (.t 63)),
 oo 65 (.move (.c (.int .i64 0)))])
 (.block 4
 (.loop
 (.seq
 (.reg [oo 66 (.bin .int .lss (.t 65) (.t 64))])
 (.seq
 (.cond (.t 66)
 .skip
 (.exit 4))
 (.seq
 (.block 5
 (.seq
 (.reg [oo 67 (.iaddr 10 (.t 63) (.t 65)),
 oo 68 (.load (some 10) (.t 67)),
 oo 18 (.new 114 (.c (.agg [(.str ⟨#[]⟩), (.int .i64 0), (.str ⟨#[]⟩), (.int .i64 0), (.int .i64 0), .nils, .nils, .nils, .nils, .nils]))),
 ⟨none, .store 10 (.t 18) (.t 68), none⟩])
 (.seq
 (.reg [mv 69 3,
 oo 70 (.faddr 1 (.t 18)),
 oo 71 (.load (some 9) (.t 70)),
 oo 72 (.callv (.t 69) [(.t 71)]),
 oo 73 (.faddr 1 (.t 18)),
 ⟨none, .store 9 (.t 73) (.t 72), none⟩])
 (.reg [mv 74 16,
 oo 75 (.load (some 10) (.t 18)),
 oo 76 (.lit false 114 10 [(.t 75)]),
 oo 77 (.append 114 10 176 (.t 74) (.t 76)),
 mv 16 77]))))
 (.reg [oo 78 (.bin .int .add (.t 65) (.c (.int .i64 1))),
 mv 65 78])))))))
 (.seq
 (.reg [mv 79 16,
 oo 80 (.faddr 7 (.t 5)),
 ⟨none, .store 1 (.t 80) (.t 79), none⟩])
 (.seq
 (.reg [oo 19 (.move (.c .nils))])
 (.seq
 (.seq
 (.reg [oo 81 (.faddr 8 (.t 5)),
 oo 82 (.load none (.t 81)),
 oo 83 (.len .slice (.t 82)),
 oo 84 (.move (.c (.int .i64 0)))])
 (.block 6
 (.loop
 (.seq
 (.reg [oo 85 (.bin .int .lss (.t 84) (.t 83))])
 (.seq
 (.cond (.t 85)
 .skip
 (.exit 6))
 (.seq
 (.block 7
 (.seq
 (.reg [oo 86 (.iaddr 10 (.t 82) (.t 84)),
 oo 87 (.load (some 10) (.t 86)),
 oo 21 (.new 116 (.c (.agg [(.int .i64 0), (.int .i64 0), (.str ⟨#[]⟩), (.int .i64 0), (.int .i64 0), .nils, .nils, .nils, .nils, .nils]))),
 ⟨none, .store 10 (.t 21) (.t 87), none⟩])
 (.seq
 (.reg [mv 88 2,
 oo 89 (.faddr 1 (.t 21)),
 oo 90 (.load (some 9) (.t 89)),
 oo 91 (.callv (.t 88) [(.t 90)]),
 oo 92 (.faddr 1 (.t 21)),
 ⟨none, .store 9 (.t 92) (.t 91), none⟩])
 (.reg [mv 93 19,
 oo 94 (.load (some 10) (.t 21)),
 oo 95 (.lit false 116 10 [(.t 94)]),
 oo 96 (.append 116 10 168 (.t 93) (.t 95)),
 mv 19 96]))))
 (.reg [oo 97 (.bin .int .add (.t 84) (.c (.int .i64 1))),
 mv 84 97])))))))
 (.seq
 (.reg [mv 98 19,
 oo 99 (.faddr 8 (.t 5)),
 ⟨none, .store 1 (.t 99) (.t 98), none⟩])
 (.seq
 (.reg [oo 100 (.load (some 9) (.t 5)),
 ⟨none, .store 9 (.t 8) (.t 100), none⟩])
 .ret))))))))))))))))
theorem in88 {args : List AV} {σ : Store} {K : AV → Store → Prop} (hargs : args.length ≤ 101 := by simp) (h : AWP Try.prog Try.f88.ntmps c88 (fun e t s => match e with | .exit _ => False | _ => Res [.cell 8 (some 9)] K t s) (env (argList 0 args)) σ) : ACalls Try.prog 88 args σ K :=
 enter (own := []) Try.func88 (by kernel_rfl) (by kernel_rfl) (by kernel_rfl) hargs h
/-- changeling/changelingref01.SameTexts -/
def c29 : ACode :=
(.seq
 (.reg [oo 4 (.move (.c (.bool false)))])
 (.seq
 (.seq
 (.reg [mv 6 0,
 oo 7 (.len .slice (.t 6)),
 mv 8 1,
 oo 9 (.len .slice (.t 8)),
 oo 10 (.bin .int .neq (.t 7) (.t 9))])
 (.cond (.t 10)
 (.seq
 (.reg [oo 4 (.move (.c (.bool false)))])
 .ret)
 .skip))
 (.seq
 (.seq
 (.reg [oo 5 (.move (.c (.int .i64 0)))])
 (.block 0
 (.loop
 (.seq
 (.seq
 (.reg [mv 11 5,
 mv 12 0,
 oo 13 (.len .slice (.t 12)),
 oo 14 (.bin .int .lss (.t 11) (.t 13))])
 (.cond (.t 14)
 .skip
 (.exit 0)))
 (.seq
 (.block 1
 (.seq
 (.reg [mv 17 0,
 mv 18 5,
 oo 19 (.iaddr 1 (.t 17) (.t 18)),
 oo 20 (.load none (.t 19)),
 mv 21 1,
 mv 22 5,
 oo 23 (.iaddr 1 (.t 21) (.t 22)),
 oo 24 (.load none (.t 23)),
 oo 25 (.bin .str .neq (.t 20) (.t 24))])
 (.cond (.t 25)
 (.seq
 (.reg [oo 4 (.move (.c (.bool false)))])
 .ret)
 .skip)))
 (.reg [mv 15 5,
 oo 16 (.bin .int .add (.t 15) (.c (.int .i64 1))),
 mv 5 16]))))))
 (.seq
 (.reg [oo 4 (.move (.c (.bool true)))])
 .ret))))
theorem in29 {args : List AV} {σ : Store} {K : AV → Store → Prop} (hargs : args.length ≤ 26 := by simp) (h : AWP Try.prog Try.f29.ntmps c29 (fun e t s => match e with | .exit _ => False | _ => Res [.slot 4] K t s) (env (argList 0 args)) σ) : ACalls Try.prog 29 args σ K :=
 enter (own := []) Try.func29 (by kernel_rfl) (by kernel_rfl) (by kernel_rfl) hargs h
/-- changeling/changelingref15.Defs -/
def c22 : ACode :=
(.seq
 (.reg [oo 2 (.move (.c .nils))])
 (.seq
 (.reg [oo 3 (.move (.c .nils))])
 (.seq
 (.seq
 (.reg [oo 4 (.move (.c (.int .i64 0)))])
 (.block 0
 (.loop
 (.seq
 (.seq
 (.reg [mv 6 4,
 mv 7 0,
 oo 8 (.len .slice (.t 7)),
 oo 9 (.bin .int .lss (.t 6) (.t 8))])
 (.cond (.t 9)
 .skip
 (.exit 0)))
 (.seq
 (.block 1
 (.seq
 (.draw [] [([⟨(some 12), .move (.t 0), none⟩], []),
 ([⟨(some 13), .move (.t 4), none⟩], []),
 ([⟨(some 14), .iaddr 11 (.t 12) (.t 13), none⟩], []),
 ([⟨(some 15), .faddr 0 (.t 14), none⟩], []),
 ([⟨(some 16), .load none (.t 15), none⟩], []),
 ([⟨(some 17), .move (.t 0), none⟩], []),
 ([⟨(some 18), .move (.t 4), none⟩], []),
 ([⟨(some 19), .iaddr 11 (.t 17) (.t 18), none⟩], []),
 ([⟨(some 20), .faddr 2 (.t 19), none⟩], []),
 ([⟨(some 21), .load (some 9) (.t 20), none⟩], []),
 ([⟨(some 22), .build [(.str ⟨#[]⟩), (.int .i64 0), (.str ⟨#[]⟩), (.int .i64 0), (.int .i64 0), .nils, .nils, .nils, .nils, .nils] [(0, 1, (.t 16)), (1, 9, (.t 21))], none⟩], []),
 ([⟨(some 5), .new 58 (.c (.agg [(.str ⟨#[]⟩), (.int .i64 0), (.str ⟨#[]⟩), (.int .i64 0), (.int .i64 0), .nils, .nils, .nils, .nils, .nils])), none⟩], [⟨(some 14), .iaddr 11 (.t 12) (.t 13), none⟩, ⟨(some 15), .faddr 0 (.t 14), none⟩, ⟨(some 16), .load none (.t 15), none⟩, ⟨(some 19), .iaddr 11 (.t 17) (.t 18), none⟩, ⟨(some 20), .faddr 2 (.t 19), none⟩, ⟨(some 21), .load (some 9) (.t 20), none⟩]),
 ([⟨none, .store 10 (.t 5) (.t 22), none⟩], [])])
 (.seq
 (.seq
 (.reg [mv 23 0,
 mv 24 4,
 oo 25 (.iaddr 11 (.t 23) (.t 24)),
 oo 26 (.faddr 1 (.t 25)),
 oo 27 (.load none (.t 26)),
 oo 28 (.len .slice (.t 27)),
 oo 29 (.bin .int .gtr (.t 28) (.c (.int .i64 0)))])
 (.cond (.t 29)
 (.reg [mv 30 0,
 mv 31 4,
 oo 32 (.iaddr 11 (.t 30) (.t 31)),
 oo 33 (.faddr 1 (.t 32)),
 oo 34 (.load none (.t 33)),
 mv 35 0,
 mv 36 4,
 oo 37 (.iaddr 11 (.t 35) (.t 36)),
 oo 38 (.faddr 2 (.t 37)),
 oo 39 (.load (some 9) (.t 38)),
 oo 40 (.lit false 54 9 [(.t 39)]),
 oo 41 (.build [(.int .i64 0), (.str ⟨#[]⟩), (.int .i64 0), (.int .i64 0), .nils, .nils, .nils, .nils, .nils] [(0, 1, (.c (.int .i64 6))), (4, 1, (.t 34)), (5, 1, (.t 40))]),
 oo 42 (.faddr 1 (.t 5)),
 ⟨none, .store 9 (.t 42) (.t 41), none⟩])
 .skip))
 (.reg [mv 43 3,
 oo 44 (.load (some 10) (.t 5)),
 oo 45 (.lit false 58 10 [(.t 44)]),
 oo 46 (.append 58 10 176 (.t 43) (.t 45)),
 mv 3 46]))))
 (.reg [mv 10 4,
 oo 11 (.bin .int .add (.t 10) (.c (.int .i64 1))),
 mv 4 11]))))))
 (.seq
 (.reg [mv 47 3,
 mv 2 47])
 .ret))))
theorem in22 {args : List AV} {σ : Store} {K : AV → Store → Prop} (hargs : args.length ≤ 48 := by simp) (h : AWP Try.prog Try.f22.ntmps c22 (fun e t s => match e with | .exit _ => False | _ => Res [.slot 2] K t s) (env (argList 0 args)) σ) : ACalls Try.prog 22 args σ K :=
 enter (own := []) Try.func22 (by kernel_rfl) (by kernel_rfl) (by kernel_rfl) hargs h
end Go.Proofs.Ytjjbjibbjbbeaaa
/- Core expressions as plain data. -/
set_option linter.unusedVariables false
set_option linter.unusedSimpArgs false
namespace Go.AL
/-- A flat alternative, its body aside. -/
structure AltH where
 k : Int
 nm : ByteArray
 n : Int
 ps : List ByteArray
/-- A core expression. -/
inductive Cr where
 | mk (k : Int) (nm : ByteArray) (n ar : Int) (ps : List ByteArray) (gs : List Cr) (al : List (AltH × Cr)) (bs : List (ByteArray × Cr)) (pk : List (Int × Cr))
abbrev strs (l : List ByteArray) : AV := .list (l.map fun s => [.str s])
def AltH.cells (h : AltH) : List AV := [.int .i64 h.k, .str h.nm, .int .i64 h.n, strs h.ps]
mutual
def Cr.cells : Cr → List AV
 | .mk k nm n ar ps gs al bs pk => [.int .i64 k, .str nm, .int .i64 n, .int .i64 ar, strs ps, .list (Cr.cellsL gs), .list (Cr.cellsA al), .list (Cr.cellsB bs), .list (Cr.cellsP pk)]
def Cr.cellsL : List Cr → List (List AV)
 | [] => []
 | x :: r => Cr.cells x :: Cr.cellsL r
def Cr.cellsA : List (AltH × Cr) → List (List AV)
 | [] => []
 | (h, x) :: r => (h.cells ++ Cr.cells x) :: Cr.cellsA r
def Cr.cellsB : List (ByteArray × Cr) → List (List AV)
 | [] => []
 | (s, x) :: r => (.str s :: Cr.cells x) :: Cr.cellsB r
def Cr.cellsP : List (Int × Cr) → List (List AV)
 | [] => []
 | (s, x) :: r => (.int .i64 s :: Cr.cells x) :: Cr.cellsP r
end
def altC (p : AltH × Cr) : List AV := p.1.cells ++ p.2.cells
def bindC (p : ByteArray × Cr) : List AV := .str p.1 :: p.2.cells
def pickC (p : Int × Cr) : List AV := .int .i64 p.1 :: p.2.cells
theorem Cr.cellsL_map : ∀ l : List Cr, Cr.cellsL l = l.map Cr.cells
 | [] => by rw [Cr.cellsL]; rfl
 | x :: r => by rw [Cr.cellsL, Cr.cellsL_map r]; rfl
theorem Cr.cellsA_map : ∀ l : List (AltH × Cr), Cr.cellsA l = l.map altC
 | [] => by rw [Cr.cellsA]; rfl
 | (h, x) :: r => by rw [Cr.cellsA, Cr.cellsA_map r]; rfl
theorem Cr.cellsB_map : ∀ l : List (ByteArray × Cr), Cr.cellsB l = l.map bindC
 | [] => by rw [Cr.cellsB]; rfl
 | (h, x) :: r => by rw [Cr.cellsB, Cr.cellsB_map r]; rfl
theorem Cr.cellsP_map : ∀ l : List (Int × Cr), Cr.cellsP l = l.map pickC
 | [] => by rw [Cr.cellsP]; rfl
 | (h, x) :: r => by rw [Cr.cellsP, Cr.cellsP_map r]; rfl
theorem Cr.cells_eq (k : Int) (nm : ByteArray) (n ar : Int) (ps : List ByteArray) (gs : List Cr) (al : List (AltH × Cr)) (bs : List (ByteArray × Cr)) (pk : List (Int × Cr)) :
 (Cr.mk k nm n ar ps gs al bs pk).cells = [.int .i64 k, .str nm, .int .i64 n, .int .i64 ar, strs ps, .list (gs.map Cr.cells), .list (al.map altC), .list (bs.map bindC), .list (pk.map pickC)] := by
 rw [Cr.cells, Cr.cellsL_map, Cr.cellsA_map, Cr.cellsB_map, Cr.cellsP_map]
theorem Cr.len (x : Cr) : x.cells.length = 9 := by cases x; rw [Cr.cells_eq]; rfl
theorem altC_len (x : AltH × Cr) : (altC x).length = 13 := by simp [altC, AltH.cells, Cr.len]
theorem Cr.ind {p : Cr → Prop} (h : ∀ k nm n ar ps gs al bs pk, (∀ x, x ∈ gs → p x) → (∀ x, x ∈ al → p x.2) → (∀ x, x ∈ bs → p x.2) → (∀ x, x ∈ pk → p x.2) → p (.mk k nm n ar ps gs al bs pk)) : ∀ x, p x
 | .mk k nm n ar ps gs al bs pk => h k nm n ar ps gs al bs pk (fun x hx => Cr.ind h x) (fun x hx => Cr.ind h x.2) (fun x hx => Cr.ind h x.2) (fun x hx => Cr.ind h x.2)
termination_by x => SizeOf.sizeOf x
decreasing_by
 · have := List.sizeOf_lt_of_mem hx; simp; omega
 · have := List.sizeOf_lt_of_mem hx; obtain ⟨a, b⟩ := x; simp at this ⊢; omega
 · have := List.sizeOf_lt_of_mem hx; obtain ⟨a, b⟩ := x; simp at this ⊢; omega
 · have := List.sizeOf_lt_of_mem hx; obtain ⟨a, b⟩ := x; simp at this ⊢; omega
theorem cln_strs {n : Nat} (l : List ByteArray) : Cln n (strs l) := .list' fun e he c hc => by
 simp at he
 obtain ⟨y, hy, rfl⟩ := he
 simp at hc
 subst hc
 exact .str _
theorem Cr.cln {n : Nat} (x : Cr) : ∀ c, c ∈ x.cells → Cln n c := by
 induction x using Cr.ind with
 | _ k nm m ar ps gs al bs pk h1 h2 h3 h4 =>
  intro c hc
  rw [Cr.cells_eq] at hc
  simp at hc
  rcases hc with rfl | rfl | rfl | rfl | rfl | rfl | rfl | rfl | rfl
  · exact .int _ _
  · exact .str _
  · exact .int _ _
  · exact .int _ _
  · exact cln_strs ps
  · refine .list' fun e he c hc => ?_
    simp at he
    obtain ⟨y, hy, rfl⟩ := he
    exact h1 y hy c hc
  · refine .list' fun e he c hc => ?_
    simp at he
    obtain ⟨a, b, hy, rfl⟩ := he
    simp [altC, AltH.cells] at hc
    rcases hc with rfl | rfl | rfl | rfl | hc
    · exact .int _ _
    · exact .str _
    · exact .int _ _
    · exact cln_strs _
    · exact h2 _ hy c hc
  · refine .list' fun e he c hc => ?_
    simp at he
    obtain ⟨a, b, hy, rfl⟩ := he
    simp [bindC] at hc
    rcases hc with rfl | hc
    · exact .str _
    · exact h3 _ hy c hc
  · refine .list' fun e he c hc => ?_
    simp at he
    obtain ⟨a, b, hy, rfl⟩ := he
    simp [pickC] at hc
    rcases hc with rfl | hc
    · exact .int _ _
    · exact h4 _ hy c hc
end Go.AL
/- Rows of texts: SameTexts, Index, Contains. -/
set_option linter.unusedVariables false
set_option linter.unusedSimpArgs false
namespace Go.Proofs.Ytjjbjibbjbbeaaa
open Go.AL
/-- Any row of texts that is read. -/
theorem index_ok {σ : Store} {v : AV} {l : List ByteArray} (h : Rds σ v 1 (l.map fun s => [.str s])) (hl : l.length ≤ 9223372036854775806) (k : ByteArray) :
 ACalls Try.prog 142 [v, .str k] σ fun r σ' => (∃ n : Int, r = .int .i64 n ∧ (0 ≤ n ↔ k ∈ l)) ∧ σ' = σ := by
 refine in142 (by simp) ?_
 unfold c142
 have hlen := h.len
 simp only [List.length_map] at hlen
 refine raw ?_
 repeat (first | (with_reducible refine unr ?_; try simp only [YY, ↓reduceIte, Za, Zb, Zc, reduceCtorEq, Zd, Ze, Zf, Zg, Zh, Zi, Zj, hlen]) | (with_reducible refine WW (by decide) ?_))
 refine AWP_while [0, 1, 7, 8] (fun i : Nat => l.length - i) (fun i => [v, .str k, .int .i64 l.length, .int .i64 i])
  (fun i s => s = σ ∧ i ≤ l.length ∧ ¬ k ∈ l.take i) 0 ⟨rfl, by omega, by simp⟩ ?_ ?_
 · refine raw ?_
   repeat (first | (with_reducible refine unr ?_; try simp only [YY, ↓reduceIte, Za, Zb, Zc, reduceCtorEq, Zd, Ze, Zf, Zg, Zh, Zi, Zj]) | (with_reducible refine WW (by decide) ?_))
   rfl
 · rintro i s ⟨rfl, hi, hno⟩
   by_cases hil : i < l.length
   · have hil' : (i : Int) < (l.length : Int) := by omega
     obtain ⟨x, hx⟩ : ∃ x, l[i]? = some x := ⟨_, List.getElem?_eq_getElem hil⟩
     obtain ⟨p, hp, hep⟩ := h.iad i [.str x] (by simp [hx])
     have hld := hep.load none
     by_cases h1 : k = x
     · refine raw ?_
       repeat (first | (with_reducible refine unr ?_; try simp only [YY, ↓reduceIte, Za, Zb, Zc, reduceCtorEq, Zd, Ze, Zf, Zg, Zh, Zi, Zj, hil', hp, hld, h1]) | (with_reducible refine WW (by decide) ?_))
       exact ⟨i, rfl, by simp; exact List.mem_of_getElem? hx⟩
     · refine raw ?_
       repeat (first | (with_reducible refine unr ?_; try simp only [YY, ↓reduceIte, Za, Zb, Zc, reduceCtorEq, Zd, Ze, Zf, Zg, Zh, Zi, Zj, hil', hp, hld, h1, wrap_succ (i := i) (by omega)]) | (with_reducible refine WW (by decide) ?_))
       refine ⟨i + 1, rfl, ⟨by omega, ?_⟩, by omega⟩
       rw [List.take_add_one, hx]
       simp [hno, h1]
   · have hil' : ¬ (i : Int) < (l.length : Int) := by omega
     rw [List.take_of_length_le (by omega)] at hno
     refine raw ?_
     repeat (first | (with_reducible refine unr ?_; try simp only [YY, ↓reduceIte, Za, Zb, Zc, reduceCtorEq, Zd, Ze, Zf, Zg, Zh, Zi, Zj, hil']) | (with_reducible refine WW (by decide) ?_))
     exact ⟨-1, rfl, by simp [hno]⟩
theorem contains_ok {σ : Store} {v : AV} {l : List ByteArray} (h : Rds σ v 1 (l.map fun s => [.str s])) (hl : l.length ≤ 9223372036854775806) (k : ByteArray) :
 ACalls Try.prog 85 [v, .str k] σ fun r σ' => r = .bool (@decide (k ∈ l) (Classical.propDecidable _)) ∧ σ' = σ := by
 refine in85 (by simp) ?_
 unfold c85
 refine raw ?_
 repeat (first | (with_reducible refine unr ?_; try simp only [YY, ↓reduceIte, Za, Zb, Zc, reduceCtorEq, Zd, Ze, Zf, Zg, Zh, Zi, Zj]) | (with_reducible refine WW (by decide) ?_))
 refine (index_ok h hl k).mono ?_
 rintro r s ⟨⟨n, rfl, hn⟩, rfl⟩
 refine raw ?_
 repeat (first | (with_reducible refine unr ?_; try simp only [YY, ↓reduceIte, Za, Zb, Zc, reduceCtorEq, Zd, Ze, Zf, Zg, Zh, Zi, Zj]) | (with_reducible refine WW (by decide) ?_))
 by_cases hk : k ∈ l
 · have := hn.2 hk
   simp [hk, this]
 · have : ¬ 0 ≤ n := fun h => hk (hn.1 h)
   simp [hk, this]
end Go.Proofs.Ytjjbjibbjbbeaaa
/- Sizes. -/
set_option linter.unusedVariables false
set_option linter.unusedSimpArgs false
namespace Go.AL
/-- Its lists are short. -/
inductive Cr.Sm : Cr → Prop
 | mk {k : Int} {nm : ByteArray} {n ar : Int} {ps : List ByteArray} {gs : List Cr} {al : List (AltH × Cr)} {bs : List (ByteArray × Cr)} {pk : List (Int × Cr)} (hps : ps.length ≤ 1048576) (hgs : gs.length ≤ 1048576) (hal : al.length ≤ 1048576) (hbs : bs.length ≤ 1048576) (hpk : pk.length ≤ 1048576)
  (h1 : ∀ x, x ∈ gs → Cr.Sm x) (h2 : ∀ x, x ∈ al → Cr.Sm x.2) (h5 : ∀ x, x ∈ al → x.1.ps.length ≤ 1048576) (h3 : ∀ x, x ∈ bs → Cr.Sm x.2) (h4 : ∀ x, x ∈ pk → Cr.Sm x.2) : Cr.Sm (.mk k nm n ar ps gs al bs pk)
end Go.AL
namespace Go.Proofs.Ytjjbjibbjbbeaaa
open Go.AL
theorem size_ok : ∀ x : Cr, x.Sm → ∀ σ : Store, ACalls Try.prog 17 [.agg x.cells] σ fun r s => (∃ n : Int, r = .int .i64 n) ∧ s = σ := by
 intro x
 induction x using Cr.ind with
 | _ k nm n ar ps gs al bs pk ih1 ih2 ih3 ih4 =>
  intro hs σ
  cases hs with
  | mk hps hgs hal hbs hpk h1 h2 h5 h3 h4 =>
  refine ACalls_fp (p := fun r => ∃ n : Int, r = .int .i64 n) ?_
  refine in17 (by simp) ?_
  unfold c17
  rw [Cr.cells_eq]
  refine raw ?_
  repeat (first | (with_reducible refine unr ?_; try simp only [YY, ↓reduceIte, Za, Zb, Zc, reduceCtorEq, Zd, Ze, Zf, Zg, Zh, Zi, Zj]) | (with_reducible refine WW (by decide) ?_))
  generalize hs1 : Store.push _ _ = s1
  have k1 : Kp σ s1 := by rw [← hs1]; exact .pushed _ _
  have he : s1.get σ.next = some (.cells 54 0 9 [[.int .i64 k, .str nm, .int .i64 n, .int .i64 ar, strs ps, .list (gs.map Cr.cells), .list (al.map altC), .list (bs.map bindC), .list (pk.map pickC)]]) := by rw [← hs1]; simp [Store.push_get]
  clear hs1
  refine AWP_while [1, 3, 4] (fun y : Int × Nat => gs.length - y.2) (fun y => [.ptr σ.next 0 0 0, .int .i64 y.1, .int .i64 y.2]) (fun y t => s1 = t ∧ y.2 ≤ gs.length) (1, 0) ⟨rfl, by simp⟩ ?_ ?_
  · refine raw ?_
    repeat (first | (with_reducible refine unr ?_; try simp only [YY, ↓reduceIte, Za, Zb, Zc, reduceCtorEq, Zd, Ze, Zf, Zg, Zh, Zi, Zj]) | (with_reducible refine WW (by decide) ?_))
    rfl
  rintro ⟨a4, i⟩ t ⟨rfl, hi⟩
  simp only at hi
  by_cases hil : i < gs.length
  · have hil' : (i : Int) < (gs.length : Int) := by omega
    obtain ⟨x, hx⟩ : ∃ x, gs[i]? = some x := ⟨_, List.getElem?_eq_getElem hil⟩
    have hg : (gs.map Cr.cells)[i]? = some (Cr.cells x) := by simp [hx]
    have hxm := List.mem_of_getElem? hx
    have hxl := x.len
    have htake : List.take 9 x.cells = x.cells := List.take_of_length_le (by omega)
    have h99 : (9 ≤ x.cells.length) = True := by simp [hxl]
    refine raw ?_
    repeat (first | (with_reducible refine unr ?_; try simp only [YY, ↓reduceIte, Za, Zb, Zc, reduceCtorEq, Zd, Ze, Zf, Zg, Zh, Zi, Zj, he, hil', hg, hxl, htake, h99]) | (with_reducible refine WW (by decide) ?_))
    refine (ih1 x hxm (h1 x hxm) _).mono ?_
    rintro r s ⟨⟨m, rfl⟩, rfl⟩
    refine raw ?_
    repeat (first | (with_reducible refine unr ?_; try simp only [YY, ↓reduceIte, Za, Zb, Zc, reduceCtorEq, Zd, Ze, Zf, Zg, Zh, Zi, Zj, wrap_succ (i := i) (by omega)]) | (with_reducible refine WW (by decide) ?_))
    exact ⟨(_, i + 1), rfl, by simp only; omega, by simp only; omega⟩
  have hil' : ¬ (i : Int) < (gs.length : Int) := by omega
  refine raw ?_
  repeat (first | (with_reducible refine unr ?_; try simp only [YY, ↓reduceIte, Za, Zb, Zc, reduceCtorEq, Zd, Ze, Zf, Zg, Zh, Zi, Zj, he, hil']) | (with_reducible refine WW (by decide) ?_))
  clear hil hil' hi
  refine AWP_while [1, 3, 5] (fun y : Int × Nat => al.length - y.2) (fun y => [.ptr σ.next 0 0 0, .int .i64 y.1, .int .i64 y.2]) (fun y t => s1 = t ∧ y.2 ≤ al.length) (a4, 0) ⟨rfl, by simp⟩ ?_ ?_
  · refine raw ?_
    repeat (first | (with_reducible refine unr ?_; try simp only [YY, ↓reduceIte, Za, Zb, Zc, reduceCtorEq, Zd, Ze, Zf, Zg, Zh, Zi, Zj]) | (with_reducible refine WW (by decide) ?_))
    rfl
  rintro ⟨a5, i⟩ t ⟨rfl, hi⟩
  simp only at hi
  by_cases hil : i < al.length
  · have hil' : (i : Int) < (al.length : Int) := by omega
    obtain ⟨x, hx⟩ : ∃ x, al[i]? = some x := ⟨_, List.getElem?_eq_getElem hil⟩
    have hg : (al.map altC)[i]? = some (altC x) := by simp [hx]
    have hxm := List.mem_of_getElem? hx
    have hxl := x.2.len
    have htake : List.take 9 x.2.cells = x.2.cells := List.take_of_length_le (by omega)
    have h99 : (13 ≤ x.2.cells.length + 4) = True := by simp [hxl]
    refine raw ?_
    repeat (first | (with_reducible refine unr ?_; try simp only [YY, ↓reduceIte, Za, Zb, Zc, reduceCtorEq, Zd, Ze, Zf, Zg, Zh, Zi, Zj, he, hil', hg, hxl, htake, h99, altC, AltH.cells]) | (with_reducible refine WW (by decide) ?_))
    refine (ih2 x hxm (h2 x hxm) _).mono ?_
    rintro r s ⟨⟨m, rfl⟩, rfl⟩
    refine raw ?_
    repeat (first | (with_reducible refine unr ?_; try simp only [YY, ↓reduceIte, Za, Zb, Zc, reduceCtorEq, Zd, Ze, Zf, Zg, Zh, Zi, Zj, wrap_succ (i := i) (by omega)]) | (with_reducible refine WW (by decide) ?_))
    exact ⟨(_, i + 1), rfl, by simp only; omega, by simp only; omega⟩
  have hil' : ¬ (i : Int) < (al.length : Int) := by omega
  refine raw ?_
  repeat (first | (with_reducible refine unr ?_; try simp only [YY, ↓reduceIte, Za, Zb, Zc, reduceCtorEq, Zd, Ze, Zf, Zg, Zh, Zi, Zj, he, hil']) | (with_reducible refine WW (by decide) ?_))
  clear hil hil' hi
  refine AWP_while [1, 3, 6] (fun y : Int × Nat => bs.length - y.2) (fun y => [.ptr σ.next 0 0 0, .int .i64 y.1, .int .i64 y.2]) (fun y t => s1 = t ∧ y.2 ≤ bs.length) (a5, 0) ⟨rfl, by simp⟩ ?_ ?_
  · refine raw ?_
    repeat (first | (with_reducible refine unr ?_; try simp only [YY, ↓reduceIte, Za, Zb, Zc, reduceCtorEq, Zd, Ze, Zf, Zg, Zh, Zi, Zj]) | (with_reducible refine WW (by decide) ?_))
    rfl
  rintro ⟨a6, i⟩ t ⟨rfl, hi⟩
  simp only at hi
  by_cases hil : i < bs.length
  · have hil' : (i : Int) < (bs.length : Int) := by omega
    obtain ⟨x, hx⟩ : ∃ x, bs[i]? = some x := ⟨_, List.getElem?_eq_getElem hil⟩
    have hg : (bs.map bindC)[i]? = some (bindC x) := by simp [hx]
    have hxm := List.mem_of_getElem? hx
    have hxl := x.2.len
    have htake : List.take 9 x.2.cells = x.2.cells := List.take_of_length_le (by omega)
    have h99 : (10 ≤ x.2.cells.length + 1) = True := by simp [hxl]
    refine raw ?_
    repeat (first | (with_reducible refine unr ?_; try simp only [YY, ↓reduceIte, Za, Zb, Zc, reduceCtorEq, Zd, Ze, Zf, Zg, Zh, Zi, Zj, he, hil', hg, hxl, htake, h99, bindC]) | (with_reducible refine WW (by decide) ?_))
    refine (ih3 x hxm (h3 x hxm) _).mono ?_
    rintro r s ⟨⟨m, rfl⟩, rfl⟩
    refine raw ?_
    repeat (first | (with_reducible refine unr ?_; try simp only [YY, ↓reduceIte, Za, Zb, Zc, reduceCtorEq, Zd, Ze, Zf, Zg, Zh, Zi, Zj, wrap_succ (i := i) (by omega)]) | (with_reducible refine WW (by decide) ?_))
    exact ⟨(_, i + 1), rfl, by simp only; omega, by simp only; omega⟩
  have hil' : ¬ (i : Int) < (bs.length : Int) := by omega
  refine raw ?_
  repeat (first | (with_reducible refine unr ?_; try simp only [YY, ↓reduceIte, Za, Zb, Zc, reduceCtorEq, Zd, Ze, Zf, Zg, Zh, Zi, Zj, he, hil']) | (with_reducible refine WW (by decide) ?_))
  clear hil hil' hi
  refine AWP_while [1, 3, 7] (fun y : Int × Nat => pk.length - y.2) (fun y => [.ptr σ.next 0 0 0, .int .i64 y.1, .int .i64 y.2]) (fun y t => s1 = t ∧ y.2 ≤ pk.length) (a6, 0) ⟨rfl, by simp⟩ ?_ ?_
  · refine raw ?_
    repeat (first | (with_reducible refine unr ?_; try simp only [YY, ↓reduceIte, Za, Zb, Zc, reduceCtorEq, Zd, Ze, Zf, Zg, Zh, Zi, Zj]) | (with_reducible refine WW (by decide) ?_))
    rfl
  rintro ⟨a7, i⟩ t ⟨rfl, hi⟩
  simp only at hi
  by_cases hil : i < pk.length
  · have hil' : (i : Int) < (pk.length : Int) := by omega
    obtain ⟨x, hx⟩ : ∃ x, pk[i]? = some x := ⟨_, List.getElem?_eq_getElem hil⟩
    have hg : (pk.map pickC)[i]? = some (pickC x) := by simp [hx]
    have hxm := List.mem_of_getElem? hx
    have hxl := x.2.len
    have htake : List.take 9 x.2.cells = x.2.cells := List.take_of_length_le (by omega)
    have h99 : (10 ≤ x.2.cells.length + 1) = True := by simp [hxl]
    refine raw ?_
    repeat (first | (with_reducible refine unr ?_; try simp only [YY, ↓reduceIte, Za, Zb, Zc, reduceCtorEq, Zd, Ze, Zf, Zg, Zh, Zi, Zj, he, hil', hg, hxl, htake, h99, pickC]) | (with_reducible refine WW (by decide) ?_))
    refine (ih4 x hxm (h4 x hxm) _).mono ?_
    rintro r s ⟨⟨m, rfl⟩, rfl⟩
    refine raw ?_
    repeat (first | (with_reducible refine unr ?_; try simp only [YY, ↓reduceIte, Za, Zb, Zc, reduceCtorEq, Zd, Ze, Zf, Zg, Zh, Zi, Zj, wrap_succ (i := i) (by omega)]) | (with_reducible refine WW (by decide) ?_))
    exact ⟨(_, i + 1), rfl, by simp only; omega, by simp only; omega⟩
  have hil' : ¬ (i : Int) < (pk.length : Int) := by omega
  refine raw ?_
  repeat (first | (with_reducible refine unr ?_; try simp only [YY, ↓reduceIte, Za, Zb, Zc, reduceCtorEq, Zd, Ze, Zf, Zg, Zh, Zi, Zj, he, hil']) | (with_reducible refine WW (by decide) ?_))
  clear hil hil' hi
  exact FP.same k1 ⟨_, rfl⟩ (.int _ _)
end Go.Proofs.Ytjjbjibbjbbeaaa
/- Small ones: what begins with, numbers read, local names. -/
set_option linter.unusedVariables false
set_option linter.unusedSimpArgs false
namespace Go.Proofs.Ytjjbjibbjbbeaaa
open Go.AL
end Go.Proofs.Ytjjbjibbjbbeaaa
/- What is free in an expression, and what is made of it, as plain functions. -/
set_option linter.unusedVariables false
set_option linter.unusedSimpArgs false
namespace Go.AL
/-! ### Bulk -/
mutual
def Cr.bulk : Cr → Nat
 | .mk k nm n ar ps gs al bs pk => 1 + nm.size + ps.length + Cr.bulkL gs + Cr.bulkA al + Cr.bulkB bs + Cr.bulkP pk
def Cr.bulkL : List Cr → Nat
 | [] => 0
 | x :: r => Cr.bulk x + Cr.bulkL r
def Cr.bulkA : List (AltH × Cr) → Nat
 | [] => 0
 | (h, x) :: r => h.ps.length + Cr.bulk x + Cr.bulkA r
def Cr.bulkB : List (ByteArray × Cr) → Nat
 | [] => 0
 | (s, x) :: r => 1 + Cr.bulk x + Cr.bulkB r
def Cr.bulkP : List (Int × Cr) → Nat
 | [] => 0
 | (s, x) :: r => Cr.bulk x + Cr.bulkP r
end
theorem Cr.bulk_pos (x : Cr) : 1 ≤ x.bulk := by cases x; rw [Cr.bulk]; omega
theorem Cr.bulkL_le {x : Cr} : ∀ {l : List Cr}, x ∈ l → x.bulk ≤ Cr.bulkL l
 | y :: r, h => by
  rw [Cr.bulkL]
  rcases List.mem_cons.1 h with rfl | h
  · omega
  · have := Cr.bulkL_le h; omega
theorem Cr.bulkA_le {x : AltH × Cr} : ∀ {l : List (AltH × Cr)}, x ∈ l → x.1.ps.length + x.2.bulk ≤ Cr.bulkA l
 | (g, y) :: r, h => by
  rw [Cr.bulkA]
  rcases List.mem_cons.1 h with rfl | h
  · simp only; omega
  · have := Cr.bulkA_le h; omega
theorem Cr.bulkB_le {x : ByteArray × Cr} : ∀ {l : List (ByteArray × Cr)}, x ∈ l → 1 + x.2.bulk ≤ Cr.bulkB l
 | (g, y) :: r, h => by
  rw [Cr.bulkB]
  rcases List.mem_cons.1 h with rfl | h
  · simp only; omega
  · have := Cr.bulkB_le h; omega
theorem Cr.bulkP_le {x : Int × Cr} : ∀ {l : List (Int × Cr)}, x ∈ l → x.2.bulk ≤ Cr.bulkP l
 | (g, y) :: r, h => by
  rw [Cr.bulkP]
  rcases List.mem_cons.1 h with rfl | h
  · simp only; omega
  · have := Cr.bulkP_le h; omega
theorem Cr.lenL : ∀ l : List Cr, l.length ≤ Cr.bulkL l
 | [] => by simp
 | x :: r => by rw [Cr.bulkL, List.length_cons]; have := Cr.lenL r; have := x.bulk_pos; omega
theorem Cr.lenA : ∀ l : List (AltH × Cr), l.length ≤ Cr.bulkA l
 | [] => by simp
 | (h, x) :: r => by rw [Cr.bulkA, List.length_cons]; have := Cr.lenA r; have := x.bulk_pos; omega
theorem Cr.lenB : ∀ l : List (ByteArray × Cr), l.length ≤ Cr.bulkB l
 | [] => by simp
 | (h, x) :: r => by rw [Cr.bulkB, List.length_cons]; have := Cr.lenB r; have := x.bulk_pos; omega
theorem Cr.lenP : ∀ l : List (Int × Cr), l.length ≤ Cr.bulkP l
 | [] => by simp
 | (h, x) :: r => by rw [Cr.bulkP, List.length_cons]; have := Cr.lenP r; have := x.bulk_pos; omega
theorem Cr.sm_of_bulk (x : Cr) (h : x.bulk ≤ 1048576) : x.Sm := by
 induction x using Cr.ind with
 | _ k nm n ar ps gs al bs pk h1 h2 h3 h4 =>
  rw [Cr.bulk] at h
  have := Cr.lenL gs; have := Cr.lenA al; have := Cr.lenB bs; have := Cr.lenP pk
  refine .mk (by omega) (by omega) (by omega) (by omega) (by omega) (fun x hx => h1 x hx ?_) (fun x hx => h2 x hx ?_) (fun x hx => ?_) (fun x hx => h3 x hx ?_) (fun x hx => h4 x hx ?_)
  · have := Cr.bulkL_le hx; omega
  · have := Cr.bulkA_le hx; omega
  · have := Cr.bulkA_le hx; omega
  · have := Cr.bulkB_le hx; omega
  · have := Cr.bulkP_le hx; omega

/-! ### Shapes: each function has one part -/
inductive Cr.Sh : Cr → Prop
 | mk {k : Int} {nm : ByteArray} {n ar : Int} {ps : List ByteArray} {gs : List Cr} {al : List (AltH × Cr)} {bs : List (ByteArray × Cr)} {pk : List (Int × Cr)} (h : k = 6 → gs.length = 1)
  (h1 : ∀ x, x ∈ gs → Cr.Sh x) (h2 : ∀ x, x ∈ al → Cr.Sh x.2) (h3 : ∀ x, x ∈ bs → Cr.Sh x.2) (h4 : ∀ x, x ∈ pk → Cr.Sh x.2) : Cr.Sh (.mk k nm n ar ps gs al bs pk)
/-! ### What is free -/
open Classical in
mutual
noncomputable def freeS (bound out : List ByteArray) : Cr → List ByteArray
 | .mk k nm n ar ps gs al bs pk =>
  freeP (bound ++ (if k = 7 then bs.map (·.1) else ps))
   (freeB (bound ++ (if k = 7 then bs.map (·.1) else ps))
    (freeA (bound ++ (if k = 7 then bs.map (·.1) else ps))
     (freeL (bound ++ (if k = 7 then bs.map (·.1) else ps)) (if k = 1 ∧ ¬ nm ∈ bound ∧ ¬ nm ∈ out then out ++ [nm] else out) gs) al) bs) pk
noncomputable def freeL (bound out : List ByteArray) : List Cr → List ByteArray
 | [] => out
 | x :: r => freeL bound (freeS bound out x) r
noncomputable def freeA (bound out : List ByteArray) : List (AltH × Cr) → List ByteArray
 | [] => out
 | (h, x) :: r => freeA bound (freeS (bound ++ h.ps) out x) r
noncomputable def freeB (bound out : List ByteArray) : List (ByteArray × Cr) → List ByteArray
 | [] => out
 | (s, x) :: r => freeB bound (freeS bound out x) r
noncomputable def freeP (bound out : List ByteArray) : List (Int × Cr) → List ByteArray
 | [] => out
 | (s, x) :: r => freeP bound (freeS bound out x) r
end
mutual
theorem freeS_len : ∀ (x : Cr) (b o : List ByteArray), (freeS b o x).length ≤ o.length + x.bulk
 | .mk k nm n ar ps gs al bs pk, b, o => by
  rw [freeS, Cr.bulk]
  refine Nat.le_trans (freeP_len pk _ _) ?_
  refine Nat.le_trans (Nat.add_le_add_right (freeB_len bs _ _) _) ?_
  refine Nat.le_trans (Nat.add_le_add_right (Nat.add_le_add_right (freeA_len al _ _) _) _) ?_
  refine Nat.le_trans (Nat.add_le_add_right (Nat.add_le_add_right (Nat.add_le_add_right (freeL_len gs _ _) _) _) _) ?_
  split <;> (try simp only [List.length_append, List.length_cons, List.length_nil]) <;> omega
theorem freeL_len : ∀ (l : List Cr) (b o : List ByteArray), (freeL b o l).length ≤ o.length + Cr.bulkL l
 | [], b, o => by rw [freeL, Cr.bulkL]; omega
 | x :: r, b, o => by
  rw [freeL, Cr.bulkL]
  have := freeL_len r b (freeS b o x)
  have := freeS_len x b o
  omega
theorem freeA_len : ∀ (l : List (AltH × Cr)) (b o : List ByteArray), (freeA b o l).length ≤ o.length + Cr.bulkA l
 | [], b, o => by rw [freeA, Cr.bulkA]; omega
 | (h, x) :: r, b, o => by
  rw [freeA, Cr.bulkA]
  have := freeA_len r b (freeS (b ++ h.ps) o x)
  have := freeS_len x (b ++ h.ps) o
  omega
theorem freeB_len : ∀ (l : List (ByteArray × Cr)) (b o : List ByteArray), (freeB b o l).length ≤ o.length + Cr.bulkB l
 | [], b, o => by rw [freeB, Cr.bulkB]; omega
 | (h, x) :: r, b, o => by
  rw [freeB, Cr.bulkB]
  have := freeB_len r b (freeS b o x)
  have := freeS_len x b o
  omega
theorem freeP_len : ∀ (l : List (Int × Cr)) (b o : List ByteArray), (freeP b o l).length ≤ o.length + Cr.bulkP l
 | [], b, o => by rw [freeP, Cr.bulkP]; omega
 | (h, x) :: r, b, o => by
  rw [freeP, Cr.bulkP]
  have := freeP_len r b (freeS b o x)
  have := freeS_len x b o
  omega
end
theorem freeL_app (b o : List ByteArray) (l m : List Cr) : freeL b o (l ++ m) = freeL b (freeL b o l) m := by
 induction l generalizing o with
 | nil => simp [freeL]
 | cons x r ih => simp [freeL, ih]
theorem freeA_app (b o : List ByteArray) (l m : List (AltH × Cr)) : freeA b o (l ++ m) = freeA b (freeA b o l) m := by
 induction l generalizing o with
 | nil => simp [freeA]
 | cons x r ih => obtain ⟨h, x⟩ := x; simp [freeA, ih]
theorem freeB_app (b o : List ByteArray) (l m : List (ByteArray × Cr)) : freeB b o (l ++ m) = freeB b (freeB b o l) m := by
 induction l generalizing o with
 | nil => simp [freeB]
 | cons x r ih => obtain ⟨h, x⟩ := x; simp [freeB, ih]
theorem freeP_app (b o : List ByteArray) (l m : List (Int × Cr)) : freeP b o (l ++ m) = freeP b (freeP b o l) m := by
 induction l generalizing o with
 | nil => simp [freeP]
 | cons x r ih => obtain ⟨h, x⟩ := x; simp [freeP, ih]

/-! ### What is made -/
/-- A supercombinator. -/
structure Sup where
 nm : ByteArray
 ps : List ByteArray
 bd : Cr
def Cr.zero : Cr := .mk 0 ⟨#[]⟩ 0 0 [] [] [] [] []
def Cr.glob (s : ByteArray) : Cr := .mk 2 s 0 0 [] [] [] [] []
def Cr.var (s : ByteArray) : Cr := .mk 1 s 0 0 [] [] [] [] []
def Cr.app (f a : Cr) : Cr := .mk 5 ⟨#[]⟩ 0 0 [] [f, a] [] [] []
def Cr.apps (f : Cr) (l : List ByteArray) : Cr := l.foldl (fun f s => f.app (.var s)) f
def supName (df : ByteArray) (T : Int → ByteArray) (n : Nat) : ByteArray := df ++ ⟨#[35]⟩ ++ T ((n + 1 : Nat) : Int)
mutual
noncomputable def liftS (df : ByteArray) (T : Int → ByteArray) (now : Bool) (n : Nat) : Cr → Cr × List Sup
  | .mk k nm m ar ps gs al bs pk =>
    if k = 6 then
      (Cr.apps (.glob (supName df T n)) (freeS [] [] (.mk k nm m ar ps gs al bs pk)),
       ⟨supName df T n, freeS [] [] (.mk k nm m ar ps gs al bs pk) ++ ps, (liftL df T true (n + 1) gs).1.headD .zero⟩ :: (liftL df T true (n + 1) gs).2)
    else if now = false ∧ (k = 8 ∨ k = 11 ∨ k = 10) then
      (Cr.apps (.glob (supName df T n)) (freeS [] [] (.mk k nm m ar ps gs al bs pk)),
       ⟨supName df T n, freeS [] [] (.mk k nm m ar ps gs al bs pk),
         .mk k nm m ar ps (liftL df T true (n + 1) gs).1 (liftA df T true (n + 1 + (liftL df T true (n + 1) gs).2.length) al).1
           (liftB df T false (n + 1 + (liftL df T true (n + 1) gs).2.length + (liftA df T true (n + 1 + (liftL df T true (n + 1) gs).2.length) al).2.length) bs).1
           (liftP df T true (n + 1 + (liftL df T true (n + 1) gs).2.length + (liftA df T true (n + 1 + (liftL df T true (n + 1) gs).2.length) al).2.length + (liftB df T false (n + 1 + (liftL df T true (n + 1) gs).2.length + (liftA df T true (n + 1 + (liftL df T true (n + 1) gs).2.length) al).2.length) bs).2.length) pk).1⟩
        :: ((liftL df T true (n + 1) gs).2 ++ (liftA df T true (n + 1 + (liftL df T true (n + 1) gs).2.length) al).2
           ++ (liftB df T false (n + 1 + (liftL df T true (n + 1) gs).2.length + (liftA df T true (n + 1 + (liftL df T true (n + 1) gs).2.length) al).2.length) bs).2
           ++ (liftP df T true (n + 1 + (liftL df T true (n + 1) gs).2.length + (liftA df T true (n + 1 + (liftL df T true (n + 1) gs).2.length) al).2.length + (liftB df T false (n + 1 + (liftL df T true (n + 1) gs).2.length + (liftA df T true (n + 1 + (liftL df T true (n + 1) gs).2.length) al).2.length) bs).2.length) pk).2))
    else
      (.mk k nm m ar ps (liftL df T (now && k != 5) n gs).1 (liftA df T now (n + (liftL df T (now && k != 5) n gs).2.length) al).1
           (liftB df T false (n + (liftL df T (now && k != 5) n gs).2.length + (liftA df T now (n + (liftL df T (now && k != 5) n gs).2.length) al).2.length) bs).1
           (liftP df T now (n + (liftL df T (now && k != 5) n gs).2.length + (liftA df T now (n + (liftL df T (now && k != 5) n gs).2.length) al).2.length + (liftB df T false (n + (liftL df T (now && k != 5) n gs).2.length + (liftA df T now (n + (liftL df T (now && k != 5) n gs).2.length) al).2.length) bs).2.length) pk).1,
        ((liftL df T (now && k != 5) n gs).2 ++ (liftA df T now (n + (liftL df T (now && k != 5) n gs).2.length) al).2
           ++ (liftB df T false (n + (liftL df T (now && k != 5) n gs).2.length + (liftA df T now (n + (liftL df T (now && k != 5) n gs).2.length) al).2.length) bs).2
           ++ (liftP df T now (n + (liftL df T (now && k != 5) n gs).2.length + (liftA df T now (n + (liftL df T (now && k != 5) n gs).2.length) al).2.length + (liftB df T false (n + (liftL df T (now && k != 5) n gs).2.length + (liftA df T now (n + (liftL df T (now && k != 5) n gs).2.length) al).2.length) bs).2.length) pk).2))
noncomputable def liftL (df : ByteArray) (T : Int → ByteArray) (now : Bool) (n : Nat) : List Cr → List Cr × List Sup
 | [] => ([], [])
 | x :: r => ((liftS df T now n x).1 :: (liftL df T now (n + (liftS df T now n x).2.length) r).1, (liftS df T now n x).2 ++ (liftL df T now (n + (liftS df T now n x).2.length) r).2)
noncomputable def liftA (df : ByteArray) (T : Int → ByteArray) (now : Bool) (n : Nat) : List (AltH × Cr) → List (AltH × Cr) × List Sup
 | [] => ([], [])
 | (h, x) :: r => ((h, (liftS df T now n x).1) :: (liftA df T now (n + (liftS df T now n x).2.length) r).1, (liftS df T now n x).2 ++ (liftA df T now (n + (liftS df T now n x).2.length) r).2)
noncomputable def liftB (df : ByteArray) (T : Int → ByteArray) (now : Bool) (n : Nat) : List (ByteArray × Cr) → List (ByteArray × Cr) × List Sup
 | [] => ([], [])
 | (h, x) :: r => ((h, (liftS df T now n x).1) :: (liftB df T now (n + (liftS df T now n x).2.length) r).1, (liftS df T now n x).2 ++ (liftB df T now (n + (liftS df T now n x).2.length) r).2)
noncomputable def liftP (df : ByteArray) (T : Int → ByteArray) (now : Bool) (n : Nat) : List (Int × Cr) → List (Int × Cr) × List Sup
 | [] => ([], [])
 | (h, x) :: r => ((h, (liftS df T now n x).1) :: (liftP df T now (n + (liftS df T now n x).2.length) r).1, (liftS df T now n x).2 ++ (liftP df T now (n + (liftS df T now n x).2.length) r).2)
end
/-- The parts of an expression, made. -/
noncomputable def mapS (df : ByteArray) (T : Int → ByteArray) (now : Bool) (n : Nat) : Cr → Cr × List Sup
 | .mk k nm m ar ps gs al bs pk =>
  let a := liftL df T (now && k != 5) n gs
  let b := liftA df T now (n + a.2.length) al
  let c := liftB df T false (n + a.2.length + b.2.length) bs
  let d := liftP df T now (n + a.2.length + b.2.length + c.2.length) pk
  (.mk k nm m ar ps a.1 b.1 c.1 d.1, a.2 ++ b.2 ++ c.2 ++ d.2)
theorem liftS_lam (df : ByteArray) (T : Int → ByteArray) (now : Bool) (n : Nat) (nm : ByteArray) (m ar : Int) (ps : List ByteArray) (b : Cr) (al : List (AltH × Cr)) (bs : List (ByteArray × Cr)) (pk : List (Int × Cr)) :
 liftS df T now n (.mk 6 nm m ar ps [b] al bs pk) = (Cr.apps (.glob (supName df T n)) (freeS [] [] (.mk 6 nm m ar ps [b] al bs pk)),
  ⟨supName df T n, freeS [] [] (.mk 6 nm m ar ps [b] al bs pk) ++ ps, (liftS df T true (n + 1) b).1⟩ :: (liftS df T true (n + 1) b).2) := by
 rw [liftS, if_pos rfl, liftL, liftL]; simp
theorem liftS_late (df : ByteArray) (T : Int → ByteArray) (n : Nat) (k : Int) (nm : ByteArray) (m ar : Int) (ps : List ByteArray) (gs : List Cr) (al : List (AltH × Cr)) (bs : List (ByteArray × Cr)) (pk : List (Int × Cr)) (hk : k = 8 ∨ k = 11 ∨ k = 10) :
 liftS df T false n (.mk k nm m ar ps gs al bs pk) = (Cr.apps (.glob (supName df T n)) (freeS [] [] (.mk k nm m ar ps gs al bs pk)),
  ⟨supName df T n, freeS [] [] (.mk k nm m ar ps gs al bs pk), (mapS df T true (n + 1) (.mk k nm m ar ps gs al bs pk)).1⟩ :: (mapS df T true (n + 1) (.mk k nm m ar ps gs al bs pk)).2) := by
 have h5 : (k != 5) = true := by rcases hk with rfl | rfl | rfl <;> rfl
 rw [liftS, if_neg (by rcases hk with rfl | rfl | rfl <;> decide), if_pos ⟨rfl, hk⟩]
 simp [mapS, h5]
theorem liftS_map (df : ByteArray) (T : Int → ByteArray) (now : Bool) (n : Nat) (k : Int) (nm : ByteArray) (m ar : Int) (ps : List ByteArray) (gs : List Cr) (al : List (AltH × Cr)) (bs : List (ByteArray × Cr)) (pk : List (Int × Cr)) (h6 : k ≠ 6) (hk : ¬ (now = false ∧ (k = 8 ∨ k = 11 ∨ k = 10))) :
 liftS df T now n (.mk k nm m ar ps gs al bs pk) = mapS df T now n (.mk k nm m ar ps gs al bs pk) := by
 rw [liftS, if_neg h6, if_neg hk]; simp [mapS]
theorem liftL_one (df : ByteArray) (T : Int → ByteArray) (now : Bool) (n : Nat) (x : Cr) : liftL df T now n [x] = ([(liftS df T now n x).1], (liftS df T now n x).2) := by
 rw [liftL, liftL]; simp
theorem liftL_app (df : ByteArray) (T : Int → ByteArray) (now : Bool) (n : Nat) (l m : List (Cr)) :
 liftL df T now n (l ++ m) = ((liftL df T now n l).1 ++ (liftL df T now (n + (liftL df T now n l).2.length) m).1, (liftL df T now n l).2 ++ (liftL df T now (n + (liftL df T now n l).2.length) m).2) := by
 induction l generalizing n with
 | nil => simp [liftL]
 | cons y r ih => simp [liftL, ih, Nat.add_assoc]
theorem liftL_l (df : ByteArray) (T : Int → ByteArray) (now : Bool) (n : Nat) (l : List (Cr)) : (liftL df T now n l).1.length = l.length := by
 induction l generalizing n with
 | nil => simp [liftL]
 | cons y r ih => simp [liftL, ih]
theorem liftA_one (df : ByteArray) (T : Int → ByteArray) (now : Bool) (n : Nat) (h : AltH) (x : Cr) : liftA df T now n [(h, x)] = ([(h, (liftS df T now n x).1)], (liftS df T now n x).2) := by
 rw [liftA, liftA]; simp
theorem liftA_app (df : ByteArray) (T : Int → ByteArray) (now : Bool) (n : Nat) (l m : List (AltH × Cr)) :
 liftA df T now n (l ++ m) = ((liftA df T now n l).1 ++ (liftA df T now (n + (liftA df T now n l).2.length) m).1, (liftA df T now n l).2 ++ (liftA df T now (n + (liftA df T now n l).2.length) m).2) := by
 induction l generalizing n with
 | nil => simp [liftA]
 | cons y r ih => obtain ⟨h, y⟩ := y; simp [liftA, ih, Nat.add_assoc]
theorem liftA_l (df : ByteArray) (T : Int → ByteArray) (now : Bool) (n : Nat) (l : List (AltH × Cr)) : (liftA df T now n l).1.length = l.length := by
 induction l generalizing n with
 | nil => simp [liftA]
 | cons y r ih => obtain ⟨h, y⟩ := y; simp [liftA, ih]
theorem liftB_one (df : ByteArray) (T : Int → ByteArray) (now : Bool) (n : Nat) (h : ByteArray) (x : Cr) : liftB df T now n [(h, x)] = ([(h, (liftS df T now n x).1)], (liftS df T now n x).2) := by
 rw [liftB, liftB]; simp
theorem liftB_app (df : ByteArray) (T : Int → ByteArray) (now : Bool) (n : Nat) (l m : List (ByteArray × Cr)) :
 liftB df T now n (l ++ m) = ((liftB df T now n l).1 ++ (liftB df T now (n + (liftB df T now n l).2.length) m).1, (liftB df T now n l).2 ++ (liftB df T now (n + (liftB df T now n l).2.length) m).2) := by
 induction l generalizing n with
 | nil => simp [liftB]
 | cons y r ih => obtain ⟨h, y⟩ := y; simp [liftB, ih, Nat.add_assoc]
theorem liftB_l (df : ByteArray) (T : Int → ByteArray) (now : Bool) (n : Nat) (l : List (ByteArray × Cr)) : (liftB df T now n l).1.length = l.length := by
 induction l generalizing n with
 | nil => simp [liftB]
 | cons y r ih => obtain ⟨h, y⟩ := y; simp [liftB, ih]
theorem liftP_one (df : ByteArray) (T : Int → ByteArray) (now : Bool) (n : Nat) (h : Int) (x : Cr) : liftP df T now n [(h, x)] = ([(h, (liftS df T now n x).1)], (liftS df T now n x).2) := by
 rw [liftP, liftP]; simp
theorem liftP_app (df : ByteArray) (T : Int → ByteArray) (now : Bool) (n : Nat) (l m : List (Int × Cr)) :
 liftP df T now n (l ++ m) = ((liftP df T now n l).1 ++ (liftP df T now (n + (liftP df T now n l).2.length) m).1, (liftP df T now n l).2 ++ (liftP df T now (n + (liftP df T now n l).2.length) m).2) := by
 induction l generalizing n with
 | nil => simp [liftP]
 | cons y r ih => obtain ⟨h, y⟩ := y; simp [liftP, ih, Nat.add_assoc]
theorem liftP_l (df : ByteArray) (T : Int → ByteArray) (now : Bool) (n : Nat) (l : List (Int × Cr)) : (liftP df T now n l).1.length = l.length := by
 induction l generalizing n with
 | nil => simp [liftP]
 | cons y r ih => obtain ⟨h, y⟩ := y; simp [liftP, ih]
mutual
theorem liftS_len (df : ByteArray) (T : Int → ByteArray) : ∀ (x : Cr) (now : Bool) (n : Nat), (liftS df T now n x).2.length ≤ x.bulk
 | .mk k nm m ar ps gs al bs pk, now, n => by
  rw [liftS, Cr.bulk]
  split
  · have := liftL_len df T gs true (n + 1)
    simp only [List.length_cons]; omega
  · split
    · simp only [List.length_cons, List.length_append]
      have h1 := liftL_len df T gs true (n + 1)
      have h2 := fun i => liftA_len df T al true i
      have h3 := fun i => liftB_len df T bs false i
      have h4 := fun i => liftP_len df T pk true i
      have := h2 (n + 1 + (liftL df T true (n + 1) gs).2.length)
      have := h3 (n + 1 + (liftL df T true (n + 1) gs).2.length + (liftA df T true (n + 1 + (liftL df T true (n + 1) gs).2.length) al).2.length)
      have := h4 (n + 1 + (liftL df T true (n + 1) gs).2.length + (liftA df T true (n + 1 + (liftL df T true (n + 1) gs).2.length) al).2.length + (liftB df T false (n + 1 + (liftL df T true (n + 1) gs).2.length + (liftA df T true (n + 1 + (liftL df T true (n + 1) gs).2.length) al).2.length) bs).2.length)
      omega
    · simp only [List.length_append]
      have h1 := liftL_len df T gs (now && k != 5) n
      have h2 := fun i => liftA_len df T al now i
      have h3 := fun i => liftB_len df T bs false i
      have h4 := fun i => liftP_len df T pk now i
      have := h2 (n + (liftL df T (now && k != 5) n gs).2.length)
      have := h3 (n + (liftL df T (now && k != 5) n gs).2.length + (liftA df T now (n + (liftL df T (now && k != 5) n gs).2.length) al).2.length)
      have := h4 (n + (liftL df T (now && k != 5) n gs).2.length + (liftA df T now (n + (liftL df T (now && k != 5) n gs).2.length) al).2.length + (liftB df T false (n + (liftL df T (now && k != 5) n gs).2.length + (liftA df T now (n + (liftL df T (now && k != 5) n gs).2.length) al).2.length) bs).2.length)
      omega
theorem liftL_len (df : ByteArray) (T : Int → ByteArray) : ∀ (l : List (Cr)) (now : Bool) (n : Nat), (liftL df T now n l).2.length ≤ Cr.bulkL l
 | [], now, n => by rw [liftL, Cr.bulkL]; simp
 | x :: r, now, n => by
  rw [liftL, Cr.bulkL]
  have := liftS_len df T x now n
  have := liftL_len df T r now (n + (liftS df T now n x).2.length)
  simp only [List.length_append]; omega
theorem liftA_len (df : ByteArray) (T : Int → ByteArray) : ∀ (l : List (AltH × Cr)) (now : Bool) (n : Nat), (liftA df T now n l).2.length ≤ Cr.bulkA l
 | [], now, n => by rw [liftA, Cr.bulkA]; simp
 | (h, x) :: r, now, n => by
  rw [liftA, Cr.bulkA]
  have := liftS_len df T x now n
  have := liftA_len df T r now (n + (liftS df T now n x).2.length)
  simp only [List.length_append]; omega
theorem liftB_len (df : ByteArray) (T : Int → ByteArray) : ∀ (l : List (ByteArray × Cr)) (now : Bool) (n : Nat), (liftB df T now n l).2.length ≤ Cr.bulkB l
 | [], now, n => by rw [liftB, Cr.bulkB]; simp
 | (h, x) :: r, now, n => by
  rw [liftB, Cr.bulkB]
  have := liftS_len df T x now n
  have := liftB_len df T r now (n + (liftS df T now n x).2.length)
  simp only [List.length_append]; omega
theorem liftP_len (df : ByteArray) (T : Int → ByteArray) : ∀ (l : List (Int × Cr)) (now : Bool) (n : Nat), (liftP df T now n l).2.length ≤ Cr.bulkP l
 | [], now, n => by rw [liftP, Cr.bulkP]; simp
 | (h, x) :: r, now, n => by
  rw [liftP, Cr.bulkP]
  have := liftS_len df T x now n
  have := liftP_len df T r now (n + (liftS df T now n x).2.length)
  simp only [List.length_append]; omega
end
end Go.AL
/- Numbers read: some number, some fault. -/
set_option linter.unusedVariables false
set_option linter.unusedSimpArgs false
namespace Go.AL
/-- Some number and some fault. -/
def TwoInts (r : AV) : Prop := ∃ n e : Int, r = .tuple [.int .i64 n, .int .i64 e]
@[congr] theorem TwoInts_congr {w : Prop} (hw : Visit = w) {r r' : AV} (h : r = r') : TwoInts r = TwoInts r' := by rw [h]
theorem TwoInts.mk (n e : Int) : TwoInts (.tuple [.int .i64 n, .int .i64 e]) := ⟨n, e, rfl⟩
end Go.AL
namespace Go.Proofs.Ytjjbjibbjbbeaaa
open Go.AL
end Go.Proofs.Ytjjbjibbjbbeaaa
/- Local names, names joined. -/
set_option linter.unusedVariables false
set_option linter.unusedSimpArgs false
namespace Go.AL
/-- Some truth. -/
def SomeB (r : AV) : Prop := ∃ b : Bool, r = .bool b
@[congr] theorem SomeB_congr {w : Prop} (hw : Visit = w) {r r' : AV} (h : r = r') : SomeB r = SomeB r' := by rw [h]
theorem SomeB.mk (b : Bool) : SomeB (.bool b) := ⟨b, rfl⟩
theorem SomeB.out {r : AV} (h : SomeB r) : ∃ b : Bool, r = .bool b ∧ True := by obtain ⟨b, h⟩ := h; exact ⟨b, h, trivial⟩
theorem map_take' {α β : Type} (f : α → β) (l : List α) (i : Nat) : List.take i (l.map f) = (l.take i).map f := List.map_take.symm
theorem map_drop' {α β : Type} (f : α → β) (l : List α) (i : Nat) : List.drop i (l.map f) = (l.drop i).map f := List.map_drop.symm
theorem Cr.take9 (x : Cr) : List.take 9 x.cells = x.cells := List.take_of_length_le (by rw [x.len]; omega)
theorem mem_strs {l : List ByteArray} {q : List AV} (h : q ∈ l.map fun s => [AV.str s]) : q.length = 1 := by
 obtain ⟨x, _, rfl⟩ := List.mem_map.1 h; rfl
theorem all_strs (l : List ByteArray) : (∀ q, q ∈ (l.map fun s => [AV.str s]) → q.length = 1) = True := by
 simp
end Go.AL
namespace Go.Proofs.Ytjjbjibbjbbeaaa
open Go.AL
theorem contains_strs (l : List ByteArray) (hl : l.length ≤ 9223372036854775806) (k : ByteArray) (σ : Store) : ACalls Try.prog 85 [strs l, .str k] σ fun r σ' => r = .bool (@decide (k ∈ l) (Classical.propDecidable _)) ∧ σ' = σ :=
 contains_ok (l := l) (v := strs l) (.list σ (fun q hq => mem_strs hq)) hl k
theorem joined_ok (a b : List ByteArray) (ha : a.length + b.length ≤ 100000000) (σ : Store) : ACalls Try.prog 143 [strs a, strs b] σ fun r σ' => r = strs (a ++ b) ∧ σ' = σ := by
 refine ACalls_fp (p := fun r => r = strs (a ++ b)) ?_
 refine in143 (by simp) ?_
 unfold c143
 refine raw ?_
 repeat (first | (with_reducible refine unr ?_; try simp only [YY, ↓reduceIte, Za, Zb, Zc, reduceCtorEq, Zd, Ze, Zf, Zg, Zh, Zi, Zj]) | (with_reducible refine WW (by decide) ?_))
 refine ok_grow (.start σ 9 1) (by intro q hq; exact mem_strs hq) (by simp; omega) (by simp [maxLen]; omega) ?_
 intro v s1 hG _ _
 refine raw ?_
 repeat (first | (with_reducible refine unr ?_; try simp only [YY, ↓reduceIte, Za, Zb, Zc, reduceCtorEq, Zd, Ze, Zf, Zg, Zh, Zi, Zj]) | (with_reducible refine WW (by decide) ?_))
 refine ok_grow hG (by intro q hq; exact mem_strs hq) (by simp; omega) (by simp [maxLen]; omega) ?_
 intro v2 s2 hG2 _ _
 refine raw ?_
 repeat (first | (with_reducible refine unr ?_; try simp only [YY, ↓reduceIte, Za, Zb, Zc, reduceCtorEq, Zd, Ze, Zf, Zg, Zh, Zi, Zj]) | (with_reducible refine WW (by decide) ?_))
 exact FP.mk (strs (a ++ b)) (by simpa using hG2.sl) .here rfl (cln_strs _) hG2.kp hG2.fresh
theorem names_ok (l : List (ByteArray × Cr)) (hl : l.length ≤ 100000000) (σ : Store) : ACalls Try.prog 136 [.list (l.map bindC)] σ fun r σ' => r = strs (l.map (·.1)) ∧ σ' = σ := by
 refine ACalls_fp (p := fun r => r = strs (l.map (·.1))) ?_
 refine in136 (by simp) ?_
 unfold c136
 refine raw ?_
 repeat (first | (with_reducible refine unr ?_; try simp only [YY, ↓reduceIte, Za, Zb, Zc, reduceCtorEq, Zd, Ze, Zf, Zg, Zh, Zi, Zj]) | (with_reducible refine WW (by decide) ?_))
 refine AWP_while [0, 3, 6, 7, 8] (fun y : AV × Nat => l.length - y.2) (fun y => [.list (l.map bindC), y.1, .list (l.map bindC), .int .i64 l.length, .int .i64 y.2])
  (fun y t => y.2 ≤ l.length ∧ Grow σ t y.1 9 1 ((l.take y.2).map fun x => [.str x.1])) (.nils, 0) ⟨by simp, .start _ _ _⟩ ?_ ?_
 · refine raw ?_
   repeat (first | (with_reducible refine unr ?_; try simp only [YY, ↓reduceIte, Za, Zb, Zc, reduceCtorEq, Zd, Ze, Zf, Zg, Zh, Zi, Zj]) | (with_reducible refine WW (by decide) ?_))
   rfl
 rintro ⟨v, i⟩ t ⟨hi, hG⟩
 simp only at hi hG
 have hw := wrap_succ (i := i) (by omega)
 refine raw ?_
 repeat' (first | (with_reducible refine unr ?_; try simp only [YY, ↓reduceIte, Za, Zb, Zc, reduceCtorEq, Zd, Ze, Zf, Zg, Zh, Zi, Zj, bindC, Cr.len, Cr.take9, str_nil, *]) | (with_reducible first | refine WW (by decide) ?_ | refine ok_idx (by first | assumption | omega) (fun b hb => raw ?_) | refine ok_iad (by first | assumption | omega) (fun x hx hxm => raw ?_) | refine And.intro (by omega) (raw ?_) | (refine guardW_b (fun h => raw ?_) (fun h => raw ?_) <;> try simp only [Ty] at h) | (refine ePick_b (fun h => raw ?_) (fun h => raw ?_) <;> try simp only [Ty] at h) | (refine condW_b (fun h => raw ?_) (fun h => raw ?_) <;> try simp only [Ty] at h)))
 · refine ok_grow (hG.push _) (es2 := [[.str x.1]]) (by simp) (by simp; omega) (by simp [maxLen]; omega) ?_
   intro v' t3 hG3 _ _
   refine raw ?_
   repeat (first | (with_reducible refine unr ?_; try simp only [YY, ↓reduceIte, Za, Zb, Zc, reduceCtorEq, Zd, Ze, Zf, Zg, Zh, Zi, Zj, hw]) | (with_reducible refine WW (by decide) ?_))
   refine ⟨(v', i + 1), rfl, ⟨by simp only; omega, ?_⟩, by simp only; omega⟩
   have : (l.take (i + 1)).map (fun x => [AV.str x.1]) = (l.take i).map (fun x => [AV.str x.1]) ++ [[AV.str x.1]] := by rw [List.take_add_one, hx]; simp
   simp only [this]; exact hG3
 · rw [List.take_of_length_le (by omega)] at hG
   exact FP.mk (strs (l.map (·.1))) (by simpa [Function.comp_def] using hG.sl) .here rfl (cln_strs _) hG.kp hG.fresh
end Go.Proofs.Ytjjbjibbjbbeaaa
/- The last # of a text; names of operators. -/
set_option linter.unusedVariables false
set_option linter.unusedSimpArgs false
namespace Go.AL
/-- Some text. -/
def SomeS (r : AV) : Prop := ∃ b : ByteArray, r = .str b
@[congr] theorem SomeS_congr {w : Prop} (hw : Visit = w) {r r' : AV} (h : r = r') : SomeS r = SomeS r' := by rw [h]
theorem SomeS.mk (b : ByteArray) : SomeS (.str b) := ⟨b, rfl⟩
theorem SomeS.out {r : AV} (h : SomeS r) : ∃ b : ByteArray, r = .str b ∧ True := by obtain ⟨b, h⟩ := h; exact ⟨b, h, trivial⟩
/-- Some number, no less than -1 and below a bound. -/
def Below (n : Nat) (r : AV) : Prop := ∃ b : Int, r = .int .i64 b ∧ -1 ≤ b ∧ b < n
@[congr] theorem Below_congr {w : Prop} (hw : Visit = w) {n : Nat} {r r' : AV} (h : r = r') : Below n r = Below n r' := by rw [h]
/-- Some number. -/
def SomeI (r : AV) : Prop := ∃ b : Int, r = .int .i64 b
@[congr] theorem SomeI_congr {w : Prop} (hw : Visit = w) {r r' : AV} (h : r = r') : SomeI r = SomeI r' := by rw [h]
theorem SomeI.mk (b : Int) : SomeI (.int .i64 b) := ⟨b, rfl⟩
theorem SomeI.out {r : AV} (h : SomeI r) : ∃ b : Int, r = .int .i64 b ∧ True := by obtain ⟨b, h⟩ := h; exact ⟨b, h, trivial⟩
end Go.AL
namespace Go.Proofs.Ytjjbjibbjbbeaaa
open Go.AL
end Go.Proofs.Ytjjbjibbjbbeaaa
/- Which expressions may be: each function among them has one part. -/
set_option linter.unusedVariables false
set_option linter.unusedSimpArgs false
namespace Go.AL
theorem row5_eq (a b c d e a' b' c' d' e' : Int) : aBin (.row [.int, .int, .int, .int, .int]) .eql (.agg [.int .i64 a, .int .i64 b, .int .i64 c, .int .i64 d, .int .i64 e]) (.agg [.int .i64 a', .int .i64 b', .int .i64 c', .int .i64 d', .int .i64 e']) =
 some (.bool (decide (a = a' ∧ b = b' ∧ c = c' ∧ d = d' ∧ e = e'))) := by simp [aBin, eqFs, eq1]
theorem row5_ne (a b c d e a' b' c' d' e' : Int) : aBin (.row [.int, .int, .int, .int, .int]) .neq (.agg [.int .i64 a, .int .i64 b, .int .i64 c, .int .i64 d, .int .i64 e]) (.agg [.int .i64 a', .int .i64 b', .int .i64 c', .int .i64 d', .int .i64 e']) =
 some (.bool (!decide (a = a' ∧ b = b' ∧ c = c' ∧ d = d' ∧ e = e'))) := by simp [aBin, eqFs, eq1]
/-- Some truth; if so, each function among the parts has one part. -/
def RB (p : Prop) (r : AV) : Prop := ∃ b : Bool, r = .bool b ∧ (b = true → p)
@[congr] theorem RB_congr {w : Prop} (hw : Visit = w) {p : Prop} {r r' : AV} (h : r = r') : RB p r = RB p r' := by rw [h]
theorem RB.f {p : Prop} : RB p (.bool false) := ⟨false, rfl, by simp⟩
theorem RB.t {p : Prop} {b : Bool} (h : p) : RB p (.bool b) := ⟨b, rfl, fun _ => h⟩
/-- The checker and its names. -/
structure Chk (σ : Store) (cid : Nat) (v : AV) (l : List ByteArray) : Prop where
 hd : σ.get cid = some (.cells 196 0 1 [[v]])
 sl : SliceAt σ v 9 1 (l.map fun s => [.str s])
 len : l.length ≤ 100000000
theorem Chk.keep {σ s : Store} {cid : Nat} {v : AV} {l : List ByteArray} (h : Chk σ cid v l) (k : Kp σ s) : Chk s cid v l :=
 ⟨k.get h.hd, h.sl.keep fun i hi => k.keep i (h.sl.lt hi), h.len⟩
theorem Cr.Sh.nil {k : Int} {nm : ByteArray} {n ar : Int} {ps : List ByteArray} {gs : List Cr} {al : List (AltH × Cr)} {bs : List (ByteArray × Cr)} {pk : List (Int × Cr)} (h6 : k ≠ 6)
 (h : (ps.length : Int) = 0 ∧ (gs.length : Int) = 0 ∧ (al.length : Int) = 0 ∧ (bs.length : Int) = 0 ∧ (pk.length : Int) = 0) : (Cr.mk k nm n ar ps gs al bs pk).Sh := by
 obtain ⟨_, h1, h2, h3, h4⟩ := h
 have h1 : gs = [] := List.eq_nil_of_length_eq_zero (by omega)
 have h2 : al = [] := List.eq_nil_of_length_eq_zero (by omega)
 have h3 : bs = [] := List.eq_nil_of_length_eq_zero (by omega)
 have h4 : pk = [] := List.eq_nil_of_length_eq_zero (by omega)
 subst h1 h2 h3 h4
 exact .mk (fun h => absurd h h6) (by simp) (by simp) (by simp) (by simp)
theorem Cr.bulkB_le2 {x : ByteArray × Cr} : ∀ {l : List (ByteArray × Cr)}, x ∈ l → l.length + x.2.bulk ≤ Cr.bulkB l
 | (g, y) :: r, h => by
  rw [Cr.bulkB, List.length_cons]
  rcases List.mem_cons.1 h with rfl | h
  · have := Cr.lenB r; simp only; omega
  · have := Cr.bulkB_le2 h; omega
theorem all_succ {α : Type} {p : α → Prop} {l : List α} {i : Nat} {x : α} (h : ∀ y, y ∈ l.take i → p y) (hx : l[i]? = some x) (hp : p x) : ∀ y, y ∈ l.take (i + 1) → p y := by
 intro y hy
 rw [List.take_add_one, hx] at hy
 rcases List.mem_append.1 hy with h1 | h1
 · exact h y h1
 · simp at h1; subst h1; exact hp
end Go.AL
namespace Go.Proofs.Ytjjbjibbjbbeaaa
open Go.AL
end Go.Proofs.Ytjjbjibbjbbeaaa
/- Right: true only where each function has one part. -/
set_option linter.unusedVariables false
set_option linter.unusedSimpArgs false
namespace Go.AL
/-- A definition's cells. -/
def defC (p : ByteArray × Cr) : List AV := .str p.1 :: p.2.cells
theorem defC_len (p : ByteArray × Cr) : (defC p).length = 10 := by simp [defC, Cr.len]
/-- Definitions' bulk. -/
def bulkD : List (ByteArray × Cr) → Nat
 | [] => 0
 | (s, x) :: r => s.size + 1 + Cr.bulk x + bulkD r
theorem bulkD_le {x : ByteArray × Cr} : ∀ {l : List (ByteArray × Cr)}, x ∈ l → x.1.size + 1 + x.2.bulk ≤ bulkD l
 | (g, y) :: r, h => by
  rw [bulkD]
  rcases List.mem_cons.1 h with rfl | h
  · simp only; omega
  · have := bulkD_le h; omega
theorem lenD : ∀ l : List (ByteArray × Cr), l.length ≤ bulkD l
 | [] => by simp
 | (h, x) :: r => by rw [bulkD, List.length_cons]; have := lenD r; omega
theorem bulkD_app : ∀ l m : List (ByteArray × Cr), bulkD (l ++ m) = bulkD l + bulkD m
 | [], m => by simp [bulkD]
 | (h, x) :: r, m => by rw [List.cons_append, bulkD, bulkD, bulkD_app r m]; omega
end Go.AL
namespace Go.Proofs.Ytjjbjibbjbbeaaa
open Go.AL
end Go.Proofs.Ytjjbjibbjbbeaaa
/- What is free in an expression. -/
set_option linter.unusedVariables false
set_option linter.unusedSimpArgs false
namespace Go.AL
theorem Cr.bulkL_app : ∀ l m : List Cr, Cr.bulkL (l ++ m) = Cr.bulkL l + Cr.bulkL m
 | [], m => by simp [Cr.bulkL]
 | x :: r, m => by rw [List.cons_append, Cr.bulkL, Cr.bulkL, Cr.bulkL_app r m]; omega
theorem Cr.bulkA_app : ∀ l m : List (AltH × Cr), Cr.bulkA (l ++ m) = Cr.bulkA l + Cr.bulkA m
 | [], m => by simp [Cr.bulkA]
 | (h, x) :: r, m => by rw [List.cons_append, Cr.bulkA, Cr.bulkA, Cr.bulkA_app r m]; omega
theorem Cr.bulkB_app : ∀ l m : List (ByteArray × Cr), Cr.bulkB (l ++ m) = Cr.bulkB l + Cr.bulkB m
 | [], m => by simp [Cr.bulkB]
 | (h, x) :: r, m => by rw [List.cons_append, Cr.bulkB, Cr.bulkB, Cr.bulkB_app r m]; omega
theorem Cr.bulkP_app : ∀ l m : List (Int × Cr), Cr.bulkP (l ++ m) = Cr.bulkP l + Cr.bulkP m
 | [], m => by simp [Cr.bulkP]
 | (h, x) :: r, m => by rw [List.cons_append, Cr.bulkP, Cr.bulkP, Cr.bulkP_app r m]; omega
theorem Cr.lenB2 : ∀ l : List (ByteArray × Cr), 2 * l.length ≤ Cr.bulkB l
 | [] => by simp
 | (h, x) :: r => by rw [Cr.bulkB, List.length_cons]; have := Cr.lenB2 r; have := x.bulk_pos; omega
theorem split_at {α : Type} {l : List α} {i : Nat} {x : α} (h : l[i]? = some x) : l = l.take i ++ x :: l.drop (i + 1) := by
 obtain ⟨hi, rfl⟩ := List.getElem?_eq_some_iff.1 h
 conv => lhs; rw [← List.take_append_drop i l]
 rw [List.drop_eq_getElem_cons hi]
theorem take_succ_at {α : Type} {l : List α} {i : Nat} {x : α} (h : l[i]? = some x) : l.take (i + 1) = l.take i ++ [x] := by rw [List.take_add_one, h]; rfl
theorem Cr.bulkL_take {l : List Cr} {i : Nat} {x : Cr} (h : l[i]? = some x) : Cr.bulkL (l.take i) + x.bulk ≤ Cr.bulkL l := by
 conv => rhs; rw [split_at h, Cr.bulkL_app, Cr.bulkL]
 omega
theorem Cr.bulkA_take {l : List (AltH × Cr)} {i : Nat} {x : AltH × Cr} (h : l[i]? = some x) : Cr.bulkA (l.take i) + x.1.ps.length + x.2.bulk ≤ Cr.bulkA l := by
 conv => rhs; rw [split_at h, Cr.bulkA_app]
 obtain ⟨h, y⟩ := x
 rw [Cr.bulkA]; simp only; omega
theorem Cr.bulkB_take {l : List (ByteArray × Cr)} {i : Nat} {x : ByteArray × Cr} (h : l[i]? = some x) : Cr.bulkB (l.take i) + 1 + x.2.bulk ≤ Cr.bulkB l := by
 conv => rhs; rw [split_at h, Cr.bulkB_app]
 obtain ⟨h, y⟩ := x
 rw [Cr.bulkB]; simp only; omega
theorem Cr.bulkP_take {l : List (Int × Cr)} {i : Nat} {x : Int × Cr} (h : l[i]? = some x) : Cr.bulkP (l.take i) + x.2.bulk ≤ Cr.bulkP l := by
 conv => rhs; rw [split_at h, Cr.bulkP_app]
 obtain ⟨h, y⟩ := x
 rw [Cr.bulkP]; simp only; omega
theorem freeL_one (b o : List ByteArray) (x : Cr) : freeL b o [x] = freeS b o x := by rw [freeL, freeL]
theorem freeA_one (b o : List ByteArray) (x : AltH × Cr) : freeA b o [x] = freeS (b ++ x.1.ps) o x.2 := by obtain ⟨h, y⟩ := x; rw [freeA, freeA]
theorem freeB_one (b o : List ByteArray) (x : ByteArray × Cr) : freeB b o [x] = freeS b o x.2 := by obtain ⟨h, y⟩ := x; rw [freeB, freeB]
theorem freeP_one (b o : List ByteArray) (x : Int × Cr) : freeP b o [x] = freeS b o x.2 := by obtain ⟨h, y⟩ := x; rw [freeP, freeP]
theorem Cr.bulkB_take2 {l : List (ByteArray × Cr)} {i : Nat} {x : ByteArray × Cr} (h : l[i]? = some x) : Cr.bulkB (l.take i) + x.2.bulk + l.length ≤ Cr.bulkB l + i := by
 have hi := (List.getElem?_eq_some_iff.1 h).1
 have e : Cr.bulkB l = Cr.bulkB (l.take i) + (1 + x.2.bulk + Cr.bulkB (l.drop (i + 1))) := by
  conv => lhs; rw [split_at h, Cr.bulkB_app]
  obtain ⟨h, y⟩ := x
  rw [Cr.bulkB]
 have := Cr.lenB (l.drop (i + 1))
 rw [List.length_drop] at this
 omega

theorem ok_cut {σ : Store} {v : AV} {ty sz n : Nat} {es : List (List AV)} {K : AV → Store → Prop} (h : SliceAt σ v ty sz es) (hn : n ≤ es.length)
 (hk : ∀ v', SliceAt σ v' ty sz (es.take n) → (∀ j, j ∈ slIds v' → j ∈ slIds v) → K v' σ) : ok (eCut .slice sz v none (some (.int .i64 n)) σ) K := by
 rcases h with ⟨rfl, rfl⟩ | ⟨id, ver, es', rfl, hg⟩
 · have : n = 0 := by simpa using hn
   subst this
   exact hk .nils (.inl ⟨rfl, by simp⟩) (fun j hj => hj)
 · have e : eCut .slice sz (.own id ver sz 0 es.length) none (some (.int .i64 n)) σ = some (.own id ver sz 0 n, σ) := by
    simp only [eCut, bound, hg]
    rw [if_pos ⟨trivial, trivial, by omega, by omega, by omega⟩]
    simp
   rw [e]
   refine hk _ (.inr ⟨id, ver, es.drop n ++ es', by rw [List.length_take, Nat.min_eq_left hn], ?_⟩) (fun j hj => hj)
   rw [hg, ← List.append_assoc, List.take_append_drop]
/-! ### The finder -/
structure FindAt (σ : Store) (fid : Nat) (vb vo : AV) (bound out : List ByteArray) : Prop where
 hd : σ.get fid = some (.cells 192 0 2 [[vb, vo]])
 sb : SliceAt σ vb 9 1 (bound.map fun s => [.str s])
 so : SliceAt σ vo 9 1 (out.map fun s => [.str s])
 nb : fid ∉ slIds vb
 no : fid ∉ slIds vo
 dj : ∀ j, j ∈ slIds vb → j ∉ slIds vo
/-- What is none of the finder's is as it was. -/
structure FF (σ s : Store) (fid : Nat) (vb vo vb' vo' : AV) : Prop where
 next : σ.next ≤ s.next
 keep : ∀ j, j < σ.next → j ≠ fid → j ∉ slIds vb → j ∉ slIds vo → s.get j = σ.get j
 fb : ∀ j, j ∈ slIds vb' → j ∈ slIds vb ∨ σ.next ≤ j
 fo : ∀ j, j ∈ slIds vo' → j ∈ slIds vo ∨ σ.next ≤ j
theorem FF.refl (σ : Store) (fid : Nat) (vb vo : AV) : FF σ σ fid vb vo vb vo := ⟨Nat.le_refl _, fun _ _ _ _ _ => rfl, fun _ h => .inl h, fun _ h => .inl h⟩
theorem FF.trans {σ s u : Store} {fid : Nat} {vb vo vb' vo' vb2 vo2 : AV} (h : FF σ s fid vb vo vb' vo') (k : FF s u fid vb' vo' vb2 vo2) : FF σ u fid vb vo vb2 vo2 where
 next := Nat.le_trans h.next k.next
 keep j hj h1 h2 h3 := by
  rw [k.keep j (Nat.lt_of_lt_of_le hj h.next) h1 (fun hm => (h.fb j hm).elim h2 (fun h => absurd hj (by omega))) (fun hm => (h.fo j hm).elim h3 (fun h => absurd hj (by omega))), h.keep j hj h1 h2 h3]
 fb j hj := (k.fb j hj).elim (h.fb j) fun hh => .inr (Nat.le_trans h.next hh)
 fo j hj := (k.fo j hj).elim (h.fo j) fun hh => .inr (Nat.le_trans h.next hh)
theorem FF.kp {σ s : Store} (k : Kp σ s) (fid : Nat) (vb vo : AV) : FF σ s fid vb vo vb vo := ⟨k.next, fun j hj _ _ _ => k.keep j hj, fun _ h => .inl h, fun _ h => .inl h⟩
theorem FF.push {σ s : Store} {fid : Nat} {vb vo vb' vo' : AV} (h : FF σ s fid vb vo vb' vo') (o : AObj) : FF σ (s.push o) fid vb vo vb' vo' := h.trans (FF.kp (.pushed _ _) _ _ _)
theorem FindAt.keep {σ s : Store} {fid : Nat} {vb vo : AV} {b o : List ByteArray} (h : FindAt σ fid vb vo b o) (k : Kp σ s) : FindAt s fid vb vo b o :=
 ⟨k.get h.hd, h.sb.keep fun i hi => k.keep i (h.sb.lt hi), h.so.keep fun i hi => k.keep i (h.so.lt hi), h.nb, h.no, h.dj⟩
theorem FF.get {σ s : Store} {fid : Nat} {vb vo vb' vo' : AV} (h : FF σ s fid vb vo vb' vo') {j : Nat} {o : AObj} (hj : σ.get j = some o) (h1 : j ≠ fid) (h2 : j ∉ slIds vb) (h3 : j ∉ slIds vo) : s.get j = some o := by
 rw [h.keep j (σ.lt hj) h1 h2 h3]; exact hj
/-- The finder behind a call. -/
def LookPost (σ : Store) (fid : Nat) (vb vo : AV) (b o : List ByteArray) (s : Store) : Prop := ∃ vb' vo', FindAt s fid vb' vo' b o ∧ FF σ s fid vb vo vb' vo'
@[congr] theorem LookPost_congr {w : Prop} (hw : Visit = w) {σ : Store} {fid : Nat} {vb vo : AV} {b o : List ByteArray} {s s' : Store} (h : s = s') : LookPost σ fid vb vo b o s = LookPost σ fid vb vo b o s' := by rw [h]
end Go.AL
namespace Go.Proofs.Ytjjbjibbjbbeaaa
open Go.AL
/-- Looking at an expression. -/
abbrev LookC (x : Cr) : Prop := ∀ (σ : Store) (fid : Nat) (vb vo : AV) (b o : List ByteArray), FindAt σ fid vb vo b o → b.length + o.length + 2 * x.bulk ≤ 40000000 →
 ACalls Try.prog 82 [.ptr fid 0 0 0, .agg x.cells] σ fun _ s => LookPost σ fid vb vo b (freeS b o x) s
theorem within_ok (σ : Store) (fid : Nat) (vb vo : AV) (b o l o' : List ByteArray) (g : Nat) (caps : List AV) (h : FindAt σ fid vb vo b o) (hb : b.length + l.length ≤ 100000000)
 (hg : ∀ (s : Store) (vb' vo' : AV), FindAt s fid vb' vo' (b ++ l) o → FF σ s fid vb vo vb' vo' → ACalls Try.prog g caps s fun _ u => LookPost s fid vb' vo' (b ++ l) o' u) :
 ACalls Try.prog 137 [.ptr fid 0 0 0, strs l, .fn (.func g) [] caps] σ fun _ s => LookPost σ fid vb vo b o' s := by
 refine in137 (by simp) ?_
 unfold c137
 have hlen := h.sb.len
 refine raw ?_
 repeat (first | (with_reducible refine unr ?_; try simp only [YY, ↓reduceIte, Za, Zb, Zc, reduceCtorEq, Zd, Ze, Zf, Zg, Zh, Zi, Zj, h.hd, hlen]) | (with_reducible refine WW (by decide) ?_))
 refine ok_app h.sb (es2 := l.map fun s => [.str s]) (by intro q hq; exact mem_strs hq) (by simp; omega) (by simp [maxLen]; omega) ?_
 intro v1 s1 hsl hfr
 have hd1 : s1.get fid = some (.cells 192 0 2 [[vb, vo]]) := by rw [hfr.keep _ (σ.lt h.hd) h.nb]; exact h.hd
 have hlt1 := s1.lt hd1
 have hn1 : fid ∉ slIds v1 := fun hm => (hfr.fresh _ hm).elim h.nb (fun hh => by have := σ.lt h.hd; omega)
 refine raw ?_
 repeat (first | (with_reducible refine unr ?_; try simp only [YY, ↓reduceIte, Za, Zb, Zc, reduceCtorEq, Zd, Ze, Zf, Zg, Zh, Zi, Zj, hd1, hsl.co, wp_callv, callvW_fn]) | (with_reducible refine WW (by decide) ?_))
 have hu : ∀ j, j ≠ fid → (s1.upd fid (.cells 192 0 2 [[v1, vo]])).get j = s1.get j := fun j hj => Store.get_upd_ne _ _ hj
 have hso : SliceAt s1 vo 9 1 (o.map fun s => [.str s]) := h.so.keep fun j hj => hfr.keep j (h.so.lt hj) (fun hm => h.dj j hm hj)
 have F1 : FindAt (s1.upd fid (.cells 192 0 2 [[v1, vo]])) fid v1 vo (b ++ l) o := by
  refine ⟨Store.get_upd_self _ _ hlt1, ?_, hso.keep fun j hj => hu j (fun e => h.no (e ▸ hj)), hn1, h.no, fun j hj hj2 => (hfr.fresh j hj).elim (fun hm => h.dj j hm hj2) (fun hh => by have := h.so.lt hj2; omega)⟩
  rw [List.map_append]
  exact hsl.keep fun j hj => hu j (fun e => hn1 (e ▸ hj))
 have G1 : FF σ (s1.upd fid (.cells 192 0 2 [[v1, vo]])) fid vb vo v1 vo :=
  ⟨hfr.next, fun j hj h1 h2 _ => by rw [hu j h1, hfr.keep j hj h2], fun j hj => hfr.fresh j hj, fun j hj => .inl hj⟩
 refine (hg _ _ _ F1 G1).mono ?_
 rintro _ u ⟨v2, vo2, F2, G2⟩
 have G12 := G1.trans G2
 refine raw ?_
 repeat (first | (with_reducible refine unr ?_; try simp only [YY, ↓reduceIte, Za, Zb, Zc, reduceCtorEq, Zd, Ze, Zf, Zg, Zh, Zi, Zj, F2.hd]) | (with_reducible refine WW (by decide) ?_))
 refine ok_cut F2.sb (by simp) ?_
 intro v3 hs3 hi3
 refine raw ?_
 repeat (first | (with_reducible refine unr ?_; try simp only [YY, ↓reduceIte, Za, Zb, Zc, reduceCtorEq, Zd, Ze, Zf, Zg, Zh, Zi, Zj, F2.hd, hs3.co]) | (with_reducible refine WW (by decide) ?_))
 have hn3 : fid ∉ slIds v3 := fun hm => F2.nb (hi3 _ hm)
 have hu2 : ∀ j, j ≠ fid → (u.upd fid (.cells 192 0 2 [[v3, vo2]])).get j = u.get j := fun j hj => Store.get_upd_ne _ _ hj
 have et : List.take b.length ((b ++ l).map fun s => [AV.str s]) = b.map fun s => [AV.str s] := by rw [List.map_append, List.take_append_of_le_length (by simp), List.take_of_length_le (by simp)]
 rw [et] at hs3
 refine ⟨v3, vo2, ⟨Store.get_upd_self _ _ (u.lt F2.hd), hs3.keep fun j hj => hu2 j (fun e => hn3 (e ▸ hj)), F2.so.keep fun j hj => hu2 j (fun e => F2.no (e ▸ hj)), hn3, F2.no, fun j hj => F2.dj j (hi3 j hj)⟩, G12.next, fun j hj h1 h2 h3 => ?_, fun j hj => G12.fb j (hi3 j hj), G12.fo⟩
 rw [hu2 j h1, G12.keep j hj h1 h2 h3]
theorem inner_ok (x : Cr) (ih : LookC x) (σ : Store) (fid pid aid off : Nat) (vb vo : AV) (b o : List ByteArray) (cs : List AV) (h : FindAt σ fid vb vo b o) (hb : b.length + o.length + 2 * x.bulk ≤ 40000000)
 (hp : σ.get pid = some (.cells 190 0 1 [[.ptr fid 0 0 0]])) (ha : σ.get aid = some (.cells 113 0 13 [cs ++ x.cells])) (hcs : cs.length = 4) :
 ACalls Try.prog 139 [.ptr pid 0 0 0, .ptr aid 0 0 0] σ fun _ s => LookPost σ fid vb vo b (freeS b o x) s := by
 refine in139 (by simp) ?_
 unfold c139
 have hd : List.drop 4 (cs ++ x.cells) = x.cells := by rw [List.drop_append_of_le_length (by omega), List.drop_of_length_le (by omega)]; rfl
 have hl : (cs ++ x.cells).length = 13 := by simp [hcs, Cr.len]
 refine raw ?_
 repeat (first | (with_reducible refine unr ?_; try simp only [YY, ↓reduceIte, Za, Zb, Zc, reduceCtorEq, Zd, Ze, Zf, Zg, Zh, Zi, Zj, hp, ha, hd, hl, Cr.take9]) | (with_reducible refine WW (by decide) ?_))
 refine (ih σ fid vb vo b o h hb).mono ?_
 rintro _ s hs
 refine raw ?_
 repeat (first | (with_reducible refine unr ?_; try simp only [YY, ↓reduceIte, Za, Zb, Zc, reduceCtorEq, Zd, Ze, Zf, Zg, Zh, Zi, Zj]) | (with_reducible refine WW (by decide) ?_))
 exact hs
theorem parts_ok (k : Int) (nm : ByteArray) (n ar : Int) (ps : List ByteArray) (gs : List Cr) (al : List (AltH × Cr)) (bs : List (ByteArray × Cr)) (pk : List (Int × Cr))
 (ih1 : ∀ x, x ∈ gs → LookC x) (ih2 : ∀ x, x ∈ al → LookC x.2) (ih3 : ∀ x, x ∈ bs → LookC x.2) (ih4 : ∀ x, x ∈ pk → LookC x.2)
 (σ : Store) (fid pid xid : Nat) (vb vo : AV) (b o : List ByteArray) (h : FindAt σ fid vb vo b o) (hb : b.length + o.length + 2 * (Cr.bulkL gs + Cr.bulkA al + Cr.bulkB bs + Cr.bulkP pk) ≤ 40000000 + 2 * bs.length)
 (hp : σ.get pid = some (.cells 190 0 1 [[.ptr fid 0 0 0]])) (hx : σ.get xid = some (.cells 54 0 9 [(Cr.mk k nm n ar ps gs al bs pk).cells]))
 (p1 : pid ≠ fid) (p2 : pid ∉ slIds vb) (p3 : pid ∉ slIds vo) (x1 : xid ≠ fid) (x2 : xid ∉ slIds vb) (x3 : xid ∉ slIds vo) :
 ACalls Try.prog 138 [.ptr xid 0 0 0, .ptr pid 0 0 0] σ fun _ s => LookPost σ fid vb vo b (freeP b (freeB b (freeA b (freeL b o gs) al) bs) pk) s := by
 refine in138 (by simp) ?_
 unfold c138
 rw [Cr.cells_eq] at hx
 have l1 := Cr.lenL gs; have l2 := Cr.lenA al; have l3 := Cr.lenB2 bs; have l4 := Cr.lenP pk
 have f1 := freeL_len gs b o
 have f2 := freeA_len al b (freeL b o gs)
 have f3 := freeB_len bs b (freeA b (freeL b o gs) al)
 refine AWP_cut [0, 1] (fun _ : Unit => [.ptr xid 0 0 0, .ptr pid 0 0 0]) (fun _ s => LookPost σ fid vb vo b (freeL b o gs) s) ?_ ?_
 · refine raw ?_
   repeat (first | (with_reducible refine unr ?_; try simp only [YY, ↓reduceIte, Za, Zb, Zc, reduceCtorEq, Zd, Ze, Zf, Zg, Zh, Zi, Zj, hx]) | (with_reducible refine WW (by decide) ?_))
   refine AWP_while [0, 1, 11, 12, 13] (fun i : Nat => gs.length - i) (fun i => [.ptr xid 0 0 0, .ptr pid 0 0 0, .list (gs.map Cr.cells), .int .i64 gs.length, .int .i64 i])
    (fun i s => i ≤ gs.length ∧ LookPost σ fid vb vo b (freeL b o (gs.take i)) s) 0 ⟨by simp, vb, vo, by simpa [freeL] using h, .refl _ _ _ _⟩ ?_ ?_
   · refine raw ?_
     repeat (first | (with_reducible refine unr ?_; try simp only [YY, ↓reduceIte, Za, Zb, Zc, reduceCtorEq, Zd, Ze, Zf, Zg, Zh, Zi, Zj]) | (with_reducible refine WW (by decide) ?_))
     rfl
   rintro i s ⟨hi, v1, o1, F1, G1⟩
   have hw := wrap_succ (i := i) (by omega)
   have hp1 := G1.get hp p1 p2 p3
   have hq := lt_ne (s.lt hp1)
   by_cases hil : i < gs.length
   · have hil' : (i : Int) < (gs.length : Int) := by omega
     obtain ⟨x, hx⟩ : ∃ x, gs[i]? = some x := ⟨_, List.getElem?_eq_getElem hil⟩
     have hg : (gs.map Cr.cells)[i]? = some (Cr.cells x) := by simp [hx]
     have hbx := Cr.bulkL_take hx
     have hfl := freeL_len (gs.take i) b o
     refine raw ?_
     repeat (first | (with_reducible refine unr ?_; try simp only [YY, ↓reduceIte, Za, Zb, Zc, reduceCtorEq, Zd, Ze, Zf, Zg, Zh, Zi, Zj, hil', hg, Cr.len, Cr.take9, hp1, hq]) | (with_reducible refine WW (by decide) ?_))
     refine (ih1 x (List.mem_of_getElem? hx) _ fid v1 o1 b _ (F1.keep (.pushed _ _)) (by omega)).mono ?_
     rintro _ s2 ⟨v2, o2, F2, G2⟩
     refine raw ?_
     repeat (first | (with_reducible refine unr ?_; try simp only [YY, ↓reduceIte, Za, Zb, Zc, reduceCtorEq, Zd, Ze, Zf, Zg, Zh, Zi, Zj, hw]) | (with_reducible refine WW (by decide) ?_))
     refine ⟨i + 1, rfl, ⟨by omega, v2, o2, ?_, (G1.push _).trans G2⟩, by omega⟩
     rw [take_succ_at hx, freeL_app, freeL_one]; exact F2
   · have hil' : ¬ (i : Int) < (gs.length : Int) := by omega
     rw [List.take_of_length_le (by omega)] at F1
     refine raw ?_
     repeat (first | (with_reducible refine unr ?_; try simp only [YY, ↓reduceIte, Za, Zb, Zc, reduceCtorEq, Zd, Ze, Zf, Zg, Zh, Zi, Zj, hil']) | (with_reducible refine WW (by decide) ?_))
     exact ⟨(), v1, o1, F1, G1⟩
 rintro _ s ⟨v1, o1, F1, G1⟩
 have hp1 := G1.get hp p1 p2 p3
 have hx1 := G1.get hx x1 x2 x3
 refine AWP_cut [0, 1] (fun _ : Unit => [.ptr xid 0 0 0, .ptr pid 0 0 0]) (fun _ s => LookPost σ fid vb vo b (freeA b (freeL b o gs) al) s) ?_ ?_
 · refine raw ?_
   repeat (first | (with_reducible refine unr ?_; try simp only [YY, ↓reduceIte, Za, Zb, Zc, reduceCtorEq, Zd, Ze, Zf, Zg, Zh, Zi, Zj, hx1]) | (with_reducible refine WW (by decide) ?_))
   refine AWP_while [0, 1, 22, 23, 24] (fun i : Nat => al.length - i) (fun i => [.ptr xid 0 0 0, .ptr pid 0 0 0, .list (al.map altC), .int .i64 al.length, .int .i64 i])
    (fun i s => i ≤ al.length ∧ LookPost σ fid vb vo b (freeA b (freeL b o gs) (al.take i)) s) 0 ⟨by simp, v1, o1, by simpa [freeA] using F1, G1⟩ ?_ ?_
   · refine raw ?_
     repeat (first | (with_reducible refine unr ?_; try simp only [YY, ↓reduceIte, Za, Zb, Zc, reduceCtorEq, Zd, Ze, Zf, Zg, Zh, Zi, Zj]) | (with_reducible refine WW (by decide) ?_))
     rfl
   rintro i s ⟨hi, v1, o1, F1, G1⟩
   have hw := wrap_succ (i := i) (by omega)
   have hp1 := G1.get hp p1 p2 p3
   have hq := lt_ne (s.lt hp1)
   by_cases hil : i < al.length
   · have hil' : (i : Int) < (al.length : Int) := by omega
     obtain ⟨x, hx⟩ : ∃ x, al[i]? = some x := ⟨_, List.getElem?_eq_getElem hil⟩
     have hg : (al.map altC)[i]? = some (altC x) := by simp [hx]
     have hbx := Cr.bulkA_take hx
     have hfl := freeA_len (al.take i) b (freeL b o gs)
     refine raw ?_
     repeat (first | (with_reducible refine unr ?_; try simp only [YY, ↓reduceIte, Za, Zb, Zc, reduceCtorEq, Zd, Ze, Zf, Zg, Zh, Zi, Zj, hil', hg, altC, AltH.cells, Cr.len, Cr.take9, hp1, hq]) | (with_reducible refine WW (by decide) ?_))
     have Fp := F1.keep (.pushed s (.cells 113 0 13 [AV.int .i64 x.1.k :: AV.str x.1.nm :: AV.int .i64 x.1.n :: strs x.1.ps :: x.2.cells]))
     refine (within_ok _ fid v1 o1 b _ x.1.ps (freeS (b ++ x.1.ps) (freeA b (freeL b o gs) (al.take i)) x.2) 139 _ Fp (by omega) fun s3 v3 o3 F3 G3 => ?_).mono ?_
     · have a1 : s.next ≠ fid := by have := s.lt F1.hd; omega
       have a2 : s.next ∉ slIds v1 := fun hm => by have := F1.sb.lt hm; omega
       have a3 : s.next ∉ slIds o1 := fun hm => by have := F1.so.lt hm; omega
       have q2 : pid ∉ slIds v1 := fun hm => (G1.fb _ hm).elim p2 (fun hh => by have := σ.lt hp; omega)
       have q3 : pid ∉ slIds o1 := fun hm => (G1.fo _ hm).elim p3 (fun hh => by have := σ.lt hp; omega)
       have hp3 := G3.get (j := pid) (by rw [Store.push_get, if_neg (by have := s.lt hp1; omega)]; exact hp1) p1 q2 q3
       have ha3 := G3.get (j := s.next) (by rw [Store.push_get, if_pos rfl]) a1 a2 a3
       exact inner_ok x.2 (ih2 x (List.mem_of_getElem? hx)) s3 fid pid s.next 0 v3 o3 (b ++ x.1.ps) _ [AV.int .i64 x.1.k, AV.str x.1.nm, AV.int .i64 x.1.n, strs x.1.ps] F3 (by simp; omega) hp3 ha3 rfl
     rintro _ s2 ⟨v2, o2, F2, G2⟩
     refine raw ?_
     repeat (first | (with_reducible refine unr ?_; try simp only [YY, ↓reduceIte, Za, Zb, Zc, reduceCtorEq, Zd, Ze, Zf, Zg, Zh, Zi, Zj, hw]) | (with_reducible refine WW (by decide) ?_))
     refine ⟨i + 1, rfl, ⟨by omega, v2, o2, ?_, (G1.push _).trans G2⟩, by omega⟩
     rw [take_succ_at hx, freeA_app, freeA_one]; exact F2
   · have hil' : ¬ (i : Int) < (al.length : Int) := by omega
     rw [List.take_of_length_le (by omega)] at F1
     refine raw ?_
     repeat (first | (with_reducible refine unr ?_; try simp only [YY, ↓reduceIte, Za, Zb, Zc, reduceCtorEq, Zd, Ze, Zf, Zg, Zh, Zi, Zj, hil']) | (with_reducible refine WW (by decide) ?_))
     exact ⟨(), v1, o1, F1, G1⟩
 clear G1 F1 hp1 hx1
 rintro _ s ⟨v1, o1, F1, G1⟩
 have hp1 := G1.get hp p1 p2 p3
 have hx1 := G1.get hx x1 x2 x3
 refine AWP_cut [0, 1] (fun _ : Unit => [.ptr xid 0 0 0, .ptr pid 0 0 0]) (fun _ s => LookPost σ fid vb vo b (freeB b (freeA b (freeL b o gs) al) bs) s) ?_ ?_
 · refine raw ?_
   repeat (first | (with_reducible refine unr ?_; try simp only [YY, ↓reduceIte, Za, Zb, Zc, reduceCtorEq, Zd, Ze, Zf, Zg, Zh, Zi, Zj, hx1]) | (with_reducible refine WW (by decide) ?_))
   refine AWP_while [0, 1, 35, 36, 37] (fun i : Nat => bs.length - i) (fun i => [.ptr xid 0 0 0, .ptr pid 0 0 0, .list (bs.map bindC), .int .i64 bs.length, .int .i64 i])
    (fun i s => i ≤ bs.length ∧ LookPost σ fid vb vo b (freeB b (freeA b (freeL b o gs) al) (bs.take i)) s) 0 ⟨by simp, v1, o1, by simpa [freeB] using F1, G1⟩ ?_ ?_
   · refine raw ?_
     repeat (first | (with_reducible refine unr ?_; try simp only [YY, ↓reduceIte, Za, Zb, Zc, reduceCtorEq, Zd, Ze, Zf, Zg, Zh, Zi, Zj]) | (with_reducible refine WW (by decide) ?_))
     rfl
   rintro i s ⟨hi, v1, o1, F1, G1⟩
   have hw := wrap_succ (i := i) (by omega)
   have hp1 := G1.get hp p1 p2 p3
   have hq := lt_ne (s.lt hp1)
   by_cases hil : i < bs.length
   · have hil' : (i : Int) < (bs.length : Int) := by omega
     obtain ⟨x, hx⟩ : ∃ x, bs[i]? = some x := ⟨_, List.getElem?_eq_getElem hil⟩
     have hg : (bs.map bindC)[i]? = some (bindC x) := by simp [hx]
     have hbx := Cr.bulkB_take hx
     have hb2 := Cr.lenB2 (bs.take i)
     have hb4 := Cr.bulkB_take2 hx
     have hb3 : (bs.take i).length = i := by simp; omega
     have hfl := freeB_len (bs.take i) b (freeA b (freeL b o gs) al)
     refine raw ?_
     repeat (first | (with_reducible refine unr ?_; try simp only [YY, ↓reduceIte, Za, Zb, Zc, reduceCtorEq, Zd, Ze, Zf, Zg, Zh, Zi, Zj, hil', hg, bindC, Cr.len, Cr.take9, hp1, hq]) | (with_reducible refine WW (by decide) ?_))
     refine (ih3 x (List.mem_of_getElem? hx) _ fid v1 o1 b _ (F1.keep (.pushed _ _)) (by omega)).mono ?_
     rintro _ s2 ⟨v2, o2, F2, G2⟩
     refine raw ?_
     repeat (first | (with_reducible refine unr ?_; try simp only [YY, ↓reduceIte, Za, Zb, Zc, reduceCtorEq, Zd, Ze, Zf, Zg, Zh, Zi, Zj, hw]) | (with_reducible refine WW (by decide) ?_))
     refine ⟨i + 1, rfl, ⟨by omega, v2, o2, ?_, (G1.push _).trans G2⟩, by omega⟩
     rw [take_succ_at hx, freeB_app, freeB_one]; exact F2
   · have hil' : ¬ (i : Int) < (bs.length : Int) := by omega
     rw [List.take_of_length_le (by omega)] at F1
     refine raw ?_
     repeat (first | (with_reducible refine unr ?_; try simp only [YY, ↓reduceIte, Za, Zb, Zc, reduceCtorEq, Zd, Ze, Zf, Zg, Zh, Zi, Zj, hil']) | (with_reducible refine WW (by decide) ?_))
     exact ⟨(), v1, o1, F1, G1⟩
 clear G1 F1 hp1 hx1
 rintro _ s ⟨v1, o1, F1, G1⟩
 have hp1 := G1.get hp p1 p2 p3
 have hx1 := G1.get hx x1 x2 x3
 refine raw ?_
 repeat (first | (with_reducible refine unr ?_; try simp only [YY, ↓reduceIte, Za, Zb, Zc, reduceCtorEq, Zd, Ze, Zf, Zg, Zh, Zi, Zj, hx1]) | (with_reducible refine WW (by decide) ?_))
 refine AWP_while [0, 1, 47, 48, 49] (fun i : Nat => pk.length - i) (fun i => [.ptr xid 0 0 0, .ptr pid 0 0 0, .list (pk.map pickC), .int .i64 pk.length, .int .i64 i])
  (fun i s => i ≤ pk.length ∧ LookPost σ fid vb vo b (freeP b (freeB b (freeA b (freeL b o gs) al) bs) (pk.take i)) s) 0 ⟨by simp, v1, o1, by simpa [freeP] using F1, G1⟩ ?_ ?_
 · refine raw ?_
   repeat (first | (with_reducible refine unr ?_; try simp only [YY, ↓reduceIte, Za, Zb, Zc, reduceCtorEq, Zd, Ze, Zf, Zg, Zh, Zi, Zj]) | (with_reducible refine WW (by decide) ?_))
   rfl
 rintro i s ⟨hi, v1, o1, F1, G1⟩
 have hw := wrap_succ (i := i) (by omega)
 have hp1 := G1.get hp p1 p2 p3
 have hq := lt_ne (s.lt hp1)
 by_cases hil : i < pk.length
 · have hil' : (i : Int) < (pk.length : Int) := by omega
   obtain ⟨x, hx⟩ : ∃ x, pk[i]? = some x := ⟨_, List.getElem?_eq_getElem hil⟩
   have hg : (pk.map pickC)[i]? = some (pickC x) := by simp [hx]
   have hbx := Cr.bulkP_take hx
   have hfl := freeP_len (pk.take i) b (freeB b (freeA b (freeL b o gs) al) bs)
   refine raw ?_
   repeat (first | (with_reducible refine unr ?_; try simp only [YY, ↓reduceIte, Za, Zb, Zc, reduceCtorEq, Zd, Ze, Zf, Zg, Zh, Zi, Zj, hil', hg, pickC, Cr.len, Cr.take9, hp1, hq]) | (with_reducible refine WW (by decide) ?_))
   refine (ih4 x (List.mem_of_getElem? hx) _ fid v1 o1 b _ (F1.keep (.pushed _ _)) (by omega)).mono ?_
   rintro _ s2 ⟨v2, o2, F2, G2⟩
   refine raw ?_
   repeat (first | (with_reducible refine unr ?_; try simp only [YY, ↓reduceIte, Za, Zb, Zc, reduceCtorEq, Zd, Ze, Zf, Zg, Zh, Zi, Zj, hw]) | (with_reducible refine WW (by decide) ?_))
   refine ⟨i + 1, rfl, ⟨by omega, v2, o2, ?_, (G1.push _).trans G2⟩, by omega⟩
   rw [take_succ_at hx, freeP_app, freeP_one]; exact F2
 · have hil' : ¬ (i : Int) < (pk.length : Int) := by omega
   rw [List.take_of_length_le (by omega)] at F1
   refine raw ?_
   repeat (first | (with_reducible refine unr ?_; try simp only [YY, ↓reduceIte, Za, Zb, Zc, reduceCtorEq, Zd, Ze, Zf, Zg, Zh, Zi, Zj, hil']) | (with_reducible refine WW (by decide) ?_))
   exact ⟨v1, o1, F1, G1⟩
end Go.Proofs.Ytjjbjibbjbbeaaa
/- What is free in an expression: look, Free. -/
set_option linter.unusedVariables false
set_option linter.unusedSimpArgs false
namespace Go.Proofs.Ytjjbjibbjbbeaaa
open Go.AL
theorem look_ok : ∀ x : Cr, LookC x := by
 intro x
 induction x using Cr.ind with
 | _ k nm n ar ps gs al bs pk ih1 ih2 ih3 ih4 =>
  intro σ fid vb vo b o h hb
  rw [Cr.bulk] at hb
  refine in82 (by simp) ?_
  unfold c82
  have l3 := Cr.lenB2 bs
  try simp only [YY, ↓reduceIte, Za, Zb, Zc, reduceCtorEq, Zd, Ze, Zf, Zg, Zh, Zi, Zj]
  iterate 2 ((with_reducible refine WW (by decide) ?_); refine unr ?_; try simp only [YY, ↓reduceIte, Za, Zb, Zc, reduceCtorEq, Zd, Ze, Zf, Zg, Zh, Zi, Zj])
  rw [Cr.cells_eq]
  generalize hs : Store.push _ _ = s1
  have k1 : Kp σ s1 := by rw [← hs]; exact (Kp.pushed _ _).push _
  have hp : s1.get σ.next = some (.cells 190 0 1 [[.ptr fid 0 0 0]]) := by rw [← hs]; simp [Store.push_get, Store.push_next]
  have hx : s1.get (σ.next + 1) = some (.cells 54 0 9 [(Cr.mk k nm n ar ps gs al bs pk).cells]) := by rw [← hs, Cr.cells_eq]; simp [Store.push_get, Store.push_next]
  have F := h.keep k1
  clear hs
  have p1 : σ.next ≠ fid := by have := σ.lt h.hd; omega
  have p2 : σ.next ∉ slIds vb := fun hm => by have := h.sb.lt hm; omega
  have p3 : σ.next ∉ slIds vo := fun hm => by have := h.so.lt hm; omega
  have x1 : σ.next + 1 ≠ fid := by have := σ.lt h.hd; omega
  have x2 : σ.next + 1 ∉ slIds vb := fun hm => by have := h.sb.lt hm; omega
  have x3 : σ.next + 1 ∉ slIds vo := fun hm => by have := h.so.lt hm; omega
  have hx' := hx
  rw [Cr.cells_eq] at hx'
  refine AWP_cut [2, 3] (fun _ : Unit => [.ptr σ.next 0 0 0, .ptr (σ.next + 1) 0 0 0]) (fun _ s => LookPost s1 fid vb vo b (@ite _ (k = 1 ∧ ¬ nm ∈ b ∧ ¬ nm ∈ o) (Classical.propDecidable _) (o ++ [nm]) o) s) ?_ ?_
  · refine raw ?_
    repeat' (first | (with_reducible refine unr ?_; try simp only [YY, ↓reduceIte, Za, Zb, Zc, reduceCtorEq, Zd, Ze, Zf, Zg, Zh, Zi, Zj, hp, hx', F.hd, str_nil, *]) | (with_reducible first | refine WW (by decide) ?_ | refine ok_idx (by first | assumption | omega) (fun b hb => raw ?_) | refine ok_iad (by first | assumption | omega) (fun x hx hxm => raw ?_) | refine And.intro (by omega) (raw ?_) | (refine guardW_b (fun h => raw ?_) (fun h => raw ?_) <;> try simp only [Ty] at h) | (refine ePick_b (fun h => raw ?_) (fun h => raw ?_) <;> try simp only [Ty] at h) | (refine condW_b (fun h => raw ?_) (fun h => raw ?_) <;> try simp only [Ty] at h) | (refine (contains_ok F.sb.rds (by simp at *; omega) nm).mono ?_; rintro _ _ ⟨rfl, rfl⟩; refine raw ?_) | (refine (contains_ok F.so.rds (by simp at *; omega) nm).mono ?_; rintro _ _ ⟨rfl, rfl⟩; refine raw ?_)))
    · refine ok_app F.so (es2 := [[.str nm]]) (by simp) (by simp; omega) (by simp [maxLen]; omega) ?_
      intro v' t3 hsl hfr
      rename_i hk hb1 s1
      have hp3 : t3.get σ.next = some (.cells 190 0 1 [[.ptr fid 0 0 0]]) := by rw [hfr.keep _ (s1.lt hp) p3]; exact hp
      have hd3 : t3.get fid = some (.cells 192 0 2 [[vb, vo]]) := by rw [hfr.keep _ (s1.lt F.hd) F.no]; exact F.hd
      have hlt3 := t3.lt hd3
      have hn3 : fid ∉ slIds v' := fun hm => (hfr.fresh _ hm).elim F.no (fun hh => by have := s1.lt F.hd; omega)
      have hu : ∀ j, j ≠ fid → (t3.upd fid (.cells 192 0 2 [[vb, v']])).get j = t3.get j := fun j hj => Store.get_upd_ne _ _ hj
      refine raw ?_
      repeat (first | (with_reducible refine unr ?_; try simp only [YY, ↓reduceIte, Za, Zb, Zc, reduceCtorEq, Zd, Ze, Zf, Zg, Zh, Zi, Zj, hp3, hd3, hsl.co]) | (with_reducible refine WW (by decide) ?_))
      rw [if_pos ⟨hk, hb1, h⟩]
      refine ⟨(), vb, v', ⟨Store.get_upd_self _ _ hlt3, F.sb.keep fun j hj => ?_, ?_, F.nb, hn3, fun j hj hj2 => (hfr.fresh j hj2).elim (F.dj j hj) (fun hh => by have := F.sb.lt hj; omega)⟩, hfr.next, fun j hj h1 h2 h3 => ?_, fun j hj => .inl hj, fun j hj => hfr.fresh j hj⟩
      · rw [hu j (fun e => F.nb (e ▸ hj)), hfr.keep j (F.sb.lt hj) (F.dj j hj)]
      · rw [List.map_append]
        exact hsl.keep fun j hj => hu j (fun e => hn3 (e ▸ hj))
      · rw [hu j h1, hfr.keep j hj h3]
    · rw [if_neg (by rintro ⟨_, _, h3⟩; exact h3 h)]
      exact ⟨(), vb, vo, F, .refl _ _ _ _⟩
    · rw [if_neg (by rintro ⟨_, h3, _⟩; exact h3 h)]
      exact ⟨(), vb, vo, F, .refl _ _ _ _⟩
    · rw [if_neg (by rintro ⟨h3, _, _⟩; exact h h3)]
      exact ⟨(), vb, vo, F, .refl _ _ _ _⟩
  generalize ho : (@ite _ (k = 1 ∧ ¬ nm ∈ b ∧ ¬ nm ∈ o) (Classical.propDecidable _) (o ++ [nm]) o) = o'
  have hoe : ∀ inst : Decidable (k = 1 ∧ ¬ nm ∈ b ∧ ¬ nm ∈ o), @ite _ (k = 1 ∧ ¬ nm ∈ b ∧ ¬ nm ∈ o) inst (o ++ [nm]) o = o' := fun inst => by rw [← ho]; congr
  rw [freeS]
  simp only [hoe]
  have hol : o'.length ≤ o.length + 1 := by rw [← ho]; split <;> simp
  rintro _ s ⟨v1, o1, F1, G1⟩
  have hp1 := G1.get hp p1 p2 p3
  have hx1 := G1.get hx' x1 x2 x3
  have fin : ∀ l : List ByteArray, b.length + l.length + o.length + 2 * (Cr.bulkL gs + Cr.bulkA al + Cr.bulkB bs + Cr.bulkP pk) ≤ 39999999 + 2 * bs.length → ACalls Try.prog 137 [.ptr fid 0 0 0, strs l, .fn (.func 138) [] [.ptr (σ.next + 1) 0 0 0, .ptr σ.next 0 0 0]] s
   fun _ u => LookPost σ fid vb vo b (freeP (b ++ l) (freeB (b ++ l) (freeA (b ++ l) (freeL (b ++ l) o' gs) al) bs) pk) u := by
   intro l hl
   refine (within_ok s fid v1 o1 b o' l (freeP (b ++ l) (freeB (b ++ l) (freeA (b ++ l) (freeL (b ++ l) o' gs) al) bs) pk) 138 _ F1 (by omega) fun s3 v3 o3 F3 G3 => ?_).mono ?_
   · have q2 : σ.next ∉ slIds v1 := fun hm => (G1.fb _ hm).elim p2 (fun hh => by have := s1.lt hp; omega)
     have q3 : σ.next ∉ slIds o1 := fun hm => (G1.fo _ hm).elim p3 (fun hh => by have := s1.lt hp; omega)
     have r2 : σ.next + 1 ∉ slIds v1 := fun hm => (G1.fb _ hm).elim x2 (fun hh => by have := s1.lt hx; omega)
     have r3 : σ.next + 1 ∉ slIds o1 := fun hm => (G1.fo _ hm).elim x3 (fun hh => by have := s1.lt hx; omega)
     have hp3 := G3.get hp1 p1 q2 q3
     have hx3 := G3.get hx1 x1 r2 r3
     have q4 : σ.next ∉ slIds v3 := fun hm => (G3.fb _ hm).elim q2 (fun hh => by have := s.lt hp1; omega)
     have q5 : σ.next ∉ slIds o3 := fun hm => (G3.fo _ hm).elim q3 (fun hh => by have := s.lt hp1; omega)
     have r4 : σ.next + 1 ∉ slIds v3 := fun hm => (G3.fb _ hm).elim r2 (fun hh => by have := s.lt hx1; omega)
     have r5 : σ.next + 1 ∉ slIds o3 := fun hm => (G3.fo _ hm).elim r3 (fun hh => by have := s.lt hx1; omega)
     exact parts_ok k nm n ar ps gs al bs pk ih1 ih2 ih3 ih4 s3 fid σ.next (σ.next + 1) v3 o3 (b ++ l) o' F3 (by simp; omega) hp3 (by rw [Cr.cells_eq]; exact hx3) p1 q4 q5 x1 r4 r5
   · rintro _ u ⟨v3, o3, F3, G3⟩
     exact ⟨v3, o3, F3, (FF.kp k1 fid vb vo).trans (G1.trans G3)⟩
  by_cases hk : k = 7
  · have fin := fin (bs.map (·.1)) (by simp; omega)
    rw [if_pos hk]
    refine raw ?_
    repeat' (first | (with_reducible refine unr ?_; try simp only [YY, ↓reduceIte, Za, Zb, Zc, reduceCtorEq, Zd, Ze, Zf, Zg, Zh, Zi, Zj, hp1, hx1, hk, str_nil, *]) | (with_reducible first | refine WW (by decide) ?_ | refine ok_idx (by first | assumption | omega) (fun b hb => raw ?_) | refine ok_iad (by first | assumption | omega) (fun x hx hxm => raw ?_) | refine And.intro (by omega) (raw ?_) | (refine guardW_b (fun h => raw ?_) (fun h => raw ?_) <;> try simp only [Ty] at h) | (refine ePick_b (fun h => raw ?_) (fun h => raw ?_) <;> try simp only [Ty] at h) | (refine condW_b (fun h => raw ?_) (fun h => raw ?_) <;> try simp only [Ty] at h) | (refine (names_ok bs (by omega) _).mono ?_; rintro _ _ ⟨rfl, rfl⟩; refine raw ?_)))
    refine fin.mono ?_
    rintro _ u hu
    refine raw ?_
    repeat (first | (with_reducible refine unr ?_; try simp only [YY, ↓reduceIte, Za, Zb, Zc, reduceCtorEq, Zd, Ze, Zf, Zg, Zh, Zi, Zj]) | (with_reducible refine WW (by decide) ?_))
    exact hu
  · have fin := fin ps (by omega)
    rw [if_neg hk]
    refine raw ?_
    repeat' (first | (with_reducible refine unr ?_; try simp only [YY, ↓reduceIte, Za, Zb, Zc, reduceCtorEq, Zd, Ze, Zf, Zg, Zh, Zi, Zj, hp1, hx1, hk, str_nil, *]) | (with_reducible first | refine WW (by decide) ?_ | refine ok_idx (by first | assumption | omega) (fun b hb => raw ?_) | refine ok_iad (by first | assumption | omega) (fun x hx hxm => raw ?_) | refine And.intro (by omega) (raw ?_) | (refine guardW_b (fun h => raw ?_) (fun h => raw ?_) <;> try simp only [Ty] at h) | (refine ePick_b (fun h => raw ?_) (fun h => raw ?_) <;> try simp only [Ty] at h) | (refine condW_b (fun h => raw ?_) (fun h => raw ?_) <;> try simp only [Ty] at h)))
    refine fin.mono ?_
    rintro _ u hu
    refine raw ?_
    repeat (first | (with_reducible refine unr ?_; try simp only [YY, ↓reduceIte, Za, Zb, Zc, reduceCtorEq, Zd, Ze, Zf, Zg, Zh, Zi, Zj]) | (with_reducible refine WW (by decide) ?_))
    exact hu
theorem free_ok (x : Cr) (hb : x.bulk ≤ 20000000) (σ : Store) : ACalls Try.prog 46 [.agg x.cells] σ fun r σ' => r = strs (freeS [] [] x) ∧ σ' = σ := by
 refine ACalls_fp (p := fun r => r = strs (freeS [] [] x)) ?_
 refine in46 (by simp) ?_
 unfold c46
 refine raw ?_
 repeat (first | (with_reducible refine unr ?_; try simp only [YY, ↓reduceIte, Za, Zb, Zc, reduceCtorEq, Zd, Ze, Zf, Zg, Zh, Zi, Zj, Cr.len, Cr.take9]) | (with_reducible refine WW (by decide) ?_))
 generalize hs : Store.push _ _ = s
 have k1 : Kp σ s := by rw [← hs]; exact (Kp.pushed _ _).push _
 have F : FindAt s (σ.next + 1) .nils .nils [] [] := by
  refine ⟨by rw [← hs]; simp [Store.push_get, Store.push_next], .nil _ _ _, .nil _ _ _, by simp [slIds], by simp [slIds], by simp [slIds]⟩
 clear hs
 refine (look_ok x s (σ.next + 1) .nils .nils [] [] F (by simp; omega)).mono ?_
 rintro _ u ⟨v2, o2, F2, G2⟩
 refine raw ?_
 repeat (first | (with_reducible refine unr ?_; try simp only [YY, ↓reduceIte, Za, Zb, Zc, reduceCtorEq, Zd, Ze, Zf, Zg, Zh, Zi, Zj, F2.hd]) | (with_reducible refine WW (by decide) ?_))
 have e : ∀ j, j < σ.next → u.get j = σ.get j := fun j hj => by
  rw [G2.keep j (by have := k1.next; omega) (by omega) (by simp [slIds]) (by simp [slIds]), k1.keep j hj]
 exact FP.mk (strs (freeS [] [] x)) F2.so .here rfl (cln_strs _) ⟨by have := k1.next; have := G2.next; omega, e⟩ (fun j hj => by have := k1.next; rcases G2.fo j hj with h | h; (· simp [slIds] at h); omega)
end Go.Proofs.Ytjjbjibbjbbeaaa
/- A number's text: one text for each number. -/
set_option linter.unusedVariables false
set_option linter.unusedSimpArgs false
namespace Go.AL
theorem wrap_u64' (x : Int) : IntKind.u64.wrap x = x % 18446744073709551616 := by simp [IntKind.wrap, IntKind.signed, IntKind.bits]
def digit (u : Int) : Int := IntKind.u8.wrap (IntKind.u64.wrap (48 + u.tmod 10))
def digs : Nat → Int → List Int → List Int
 | 0, u, b => b
 | f + 1, u, b => if 0 < u ∨ b.length = 0 then digs f (IntKind.u64.wrap (u.tdiv 10)) (b ++ [digit u]) else b
def swp : Nat → Nat → List Int → List Int
 | 0, i, b => b
 | f + 1, i, b => if i + 1 + i < b.length then swp f (i + 1) ((b.set i (b.getD (b.length - 1 - i) 0)).set (b.length - 1 - i) (b.getD i 0)) else b
def mag (n : Int) : Int := if n < 0 then IntKind.u64.wrap (0 - IntKind.u64.wrap n) else IntKind.u64.wrap n
def textL (n : Int) : List Int := (fun b => swp b.length 0 b) ((fun b => if n < 0 then b ++ [45] else b) (digs 21 (mag n) []))
def textOf (n : Int) : ByteArray := bytesStr (textL n)
def u8c (n : Int) : List AV := [.int .u8 n]
theorem bytesOf_map (l : List Int) : bytesOf (l.map u8c) = some l := by
 induction l with
 | nil => rfl
 | cons x r ih => rw [List.map_cons, u8c, bytesOf, ih]
theorem eBst_u8 (l : List Int) (σ : Store) : eBst (some (l.map u8c)) σ = some (.str (bytesStr l), σ) := by
 unfold eBst
 simp only
 rw [if_pos (by intro q hq; obtain ⟨x, _, rfl⟩ := List.mem_map.1 hq; rfl), bytesOf_map]
theorem eBst_nil (σ : Store) : eBst (some []) σ = some (.str (bytesStr []), σ) := eBst_u8 [] σ
theorem digs_len (f : Nat) (u : Int) (b : List Int) : (digs f u b).length ≤ b.length + f := by
 induction f generalizing u b with
 | zero => simp [digs]
 | succ f ih =>
  rw [digs]
  split
  · have := ih (IntKind.u64.wrap (u.tdiv 10)) (b ++ [digit u]); simp at this; omega
  · omega
theorem swp_len (f i : Nat) (b : List Int) : (swp f i b).length = b.length := by
 induction f generalizing i b with
 | zero => simp [swp]
 | succ f ih =>
  rw [swp]
  split
  · rw [ih]; simp
  · rfl
theorem textOf_size (n : Int) : (textOf n).size ≤ 22 := by
 rw [textOf, bytesStr_size, textL]
 simp only [swp_len]
 have := digs_len 21 (mag n) []
 simp at this
 split <;> simp <;> omega
end Go.AL
namespace Go.Proofs.Ytjjbjibbjbbeaaa
open Go.AL
theorem text_ok (n : Int) (σ : Store) : ACalls Try.prog 132 [.int .i64 n] σ fun r σ' => r = .str (textOf n) ∧ σ' = σ := by
 refine ACalls_fp (p := fun r => r = .str (textOf n)) ?_
 refine in132 (by simp) ?_
 unfold c132
 have hm : 0 ≤ mag n ∧ mag n < 18446744073709551616 := by
  unfold mag
  split <;> simp only [wrap_u64'] <;> omega
 try simp only [YY, ↓reduceIte, Za, Zb, Zc, reduceCtorEq, Zd, Ze, Zf, Zg, Zh, Zi, Zj]
 iterate 4 ((with_reducible refine WW (by decide) ?_); refine unr ?_; try simp only [YY, ↓reduceIte, Za, Zb, Zc, reduceCtorEq, Zd, Ze, Zf, Zg, Zh, Zi, Zj])
 refine AWP_cut [0, 3] (fun _ : Unit => [.int .i64 n, .int .u64 (mag n)]) (fun _ s => σ = s) ?_ ?_
 · refine raw ?_
   repeat' (first | (with_reducible refine unr ?_; try simp only [YY, ↓reduceIte, Za, Zb, Zc, reduceCtorEq, Zd, Ze, Zf, Zg, Zh, Zi, Zj, str_nil, *]) | (with_reducible first | refine WW (by decide) ?_ | refine ok_idx (by first | assumption | omega) (fun b hb => raw ?_) | refine ok_iad (by first | assumption | omega) (fun x hx hxm => raw ?_) | refine And.intro (by omega) (raw ?_) | (refine guardW_b (fun h => raw ?_) (fun h => raw ?_) <;> try simp only [Ty] at h) | (refine ePick_b (fun h => raw ?_) (fun h => raw ?_) <;> try simp only [Ty] at h) | (refine condW_b (fun h => raw ?_) (fun h => raw ?_) <;> try simp only [Ty] at h)))
   · refine ⟨(), ?_⟩
     rw [mag, if_pos h]
   · refine ⟨(), ?_⟩
     rw [mag, if_neg h]
 rintro _ _ rfl
 try simp only [YY, ↓reduceIte, Za, Zb, Zc, reduceCtorEq, Zd, Ze, Zf, Zg, Zh, Zi, Zj]
 iterate 2 ((with_reducible refine WW (by decide) ?_); refine unr ?_; try simp only [YY, ↓reduceIte, Za, Zb, Zc, reduceCtorEq, Zd, Ze, Zf, Zg, Zh, Zi, Zj])
 refine AWP_cut [0, 4] (fun v : AV => [.int .i64 n, v]) (fun v s => Grow σ s v 5 1 ((digs 21 (mag n) []).map u8c)) ?_ ?_
 · refine raw ?_
   repeat (first | (with_reducible refine unr ?_; try simp only [YY, ↓reduceIte, Za, Zb, Zc, reduceCtorEq, Zd, Ze, Zf, Zg, Zh, Zi, Zj]) | (with_reducible refine WW (by decide) ?_))
   refine AWP_while [0, 3, 4] (fun y : Int × AV × List Int × Nat => y.2.2.2) (fun y => [.int .i64 n, .int .u64 y.1, y.2.1])
    (fun y s => digs y.2.2.2 y.1 y.2.2.1 = digs 21 (mag n) [] ∧ 0 ≤ y.1 ∧ y.1 < 10 ^ y.2.2.2 ∧ y.1 < 18446744073709551616 ∧ y.2.2.1.length + y.2.2.2 = 21 ∧ Grow σ s y.2.1 5 1 (y.2.2.1.map u8c)) (mag n, .nils, [], 21) ⟨rfl, hm.1, by simp only; omega, hm.2, rfl, .start _ _ _⟩ ?_ ?_
   · refine raw ?_
     repeat (first | (with_reducible refine unr ?_; try simp only [YY, ↓reduceIte, Za, Zb, Zc, reduceCtorEq, Zd, Ze, Zf, Zg, Zh, Zi, Zj]) | (with_reducible refine WW (by decide) ?_))
   rintro ⟨u, v, b, f⟩ s ⟨hD, hu, hlt, hu2, hbf, hG⟩
   simp only at hD hu hlt hu2 hbf hG
   have hlen := hG.sl.len
   simp only [List.length_map] at hlen
   by_cases hc : 0 < u ∨ b.length = 0
   · obtain ⟨g, rfl⟩ : ∃ g, f = g + 1 := by
      cases f with
      | zero => simp at hlt; omega
      | succ g => exact ⟨g, rfl⟩
     rw [digs, if_pos hc] at hD
     have hpow : (10 : Int) ^ (g + 1) = 10 ^ g * 10 := Int.pow_succ _ _
     have hdiv : IntKind.u64.wrap (u.tdiv 10) = u / 10 := by
      rw [wrap_u64', Int.tdiv_eq_ediv_of_nonneg hu]
      omega
     have hc' : (0 : Int) < u ∨ ¬ (0 : Int) < u ∧ (b.length : Int) = 0 := by omega
     rcases hc' with h1 | ⟨h1, h2⟩
     · refine raw ?_
       repeat (first | (with_reducible refine unr ?_; try simp only [YY, ↓reduceIte, Za, Zb, Zc, reduceCtorEq, Zd, Ze, Zf, Zg, Zh, Zi, Zj, h1, hlen, bin_rem, bin_quo]) | (with_reducible refine WW (by decide) ?_))
       refine ok_grow hG (es2 := [[.int .u8 (IntKind.u8.wrap (IntKind.u64.wrap (48 + u.tmod 10)))]]) (by simp) (by simp; omega) (by simp [maxLen]; omega) ?_
       intro v' s2 hG2 _ _
       refine raw ?_
       repeat (first | (with_reducible refine unr ?_; try simp only [YY, ↓reduceIte, Za, Zb, Zc, reduceCtorEq, Zd, Ze, Zf, Zg, Zh, Zi, Zj, bin_quo]) | (with_reducible refine WW (by decide) ?_))
       refine ⟨(IntKind.u64.wrap (u.tdiv 10), v', b ++ [digit u], g), rfl, ⟨hD, by simp only; omega, by simp only; omega, by simp only; omega, by simp only [List.length_append, List.length_cons, List.length_nil]; omega, ?_⟩, by simp only; omega⟩
       simp only [List.map_append]; exact hG2
     · refine raw ?_
       repeat (first | (with_reducible refine unr ?_; try simp only [YY, ↓reduceIte, Za, Zb, Zc, reduceCtorEq, Zd, Ze, Zf, Zg, Zh, Zi, Zj, h1, h2, hlen, bin_rem, bin_quo]) | (with_reducible refine WW (by decide) ?_))
       refine ok_grow hG (es2 := [[.int .u8 (IntKind.u8.wrap (IntKind.u64.wrap (48 + u.tmod 10)))]]) (by simp) (by simp; omega) (by simp [maxLen]; omega) ?_
       intro v' s2 hG2 _ _
       refine raw ?_
       repeat (first | (with_reducible refine unr ?_; try simp only [YY, ↓reduceIte, Za, Zb, Zc, reduceCtorEq, Zd, Ze, Zf, Zg, Zh, Zi, Zj, bin_quo]) | (with_reducible refine WW (by decide) ?_))
       refine ⟨(IntKind.u64.wrap (u.tdiv 10), v', b ++ [digit u], g), rfl, ⟨hD, by simp only; omega, by simp only; omega, by simp only; omega, by simp only [List.length_append, List.length_cons, List.length_nil]; omega, ?_⟩, by simp only; omega⟩
       simp only [List.map_append]; exact hG2
   · rw [show digs f u b = b by cases f with | zero => rfl | succ f => rw [digs, if_neg hc]] at hD
     have h1 : ¬ (0 : Int) < u := fun h => hc (.inl h)
     have h2 : ¬ (b.length : Int) = 0 := fun h => hc (.inr (by omega))
     refine raw ?_
     repeat (first | (with_reducible refine unr ?_; try simp only [YY, ↓reduceIte, Za, Zb, Zc, reduceCtorEq, Zd, Ze, Zf, Zg, Zh, Zi, Zj, h1, h2, hlen]) | (with_reducible refine WW (by decide) ?_))
     subst hD
     exact ⟨v, rfl, hG⟩
 rintro v s hG
 refine AWP_cut [0, 4] (fun v : AV => [.int .i64 n, v]) (fun v s => Grow σ s v 5 1 (((fun b => if n < 0 then b ++ [45] else b) (digs 21 (mag n) [])).map u8c)) ?_ ?_
 · have hdl := digs_len 21 (mag n) []
   simp at hdl
   refine raw ?_
   repeat' (first | (with_reducible refine unr ?_; try simp only [YY, ↓reduceIte, Za, Zb, Zc, reduceCtorEq, Zd, Ze, Zf, Zg, Zh, Zi, Zj, str_nil, *]) | (with_reducible first | refine WW (by decide) ?_ | refine ok_idx (by first | assumption | omega) (fun b hb => raw ?_) | refine ok_iad (by first | assumption | omega) (fun x hx hxm => raw ?_) | refine And.intro (by omega) (raw ?_) | (refine guardW_b (fun h => raw ?_) (fun h => raw ?_) <;> try simp only [Ty] at h) | (refine ePick_b (fun h => raw ?_) (fun h => raw ?_) <;> try simp only [Ty] at h) | (refine condW_b (fun h => raw ?_) (fun h => raw ?_) <;> try simp only [Ty] at h)))
   · refine ok_grow hG (es2 := [[.int .u8 45]]) (by simp) (by simp; omega) (by simp [maxLen]; omega) ?_
     intro v' s2 hG2 _ _
     refine raw ?_
     repeat (first | (with_reducible refine unr ?_; try simp only [YY, ↓reduceIte, Za, Zb, Zc, reduceCtorEq, Zd, Ze, Zf, Zg, Zh, Zi, Zj]) | (with_reducible refine WW (by decide) ?_))
     refine ⟨v', rfl, ?_⟩
     rw [if_pos h, List.map_append]; exact hG2
   · refine ⟨v, rfl, ?_⟩
     exact hG
 clear hG
 generalize hb : ((fun b => if n < 0 then b ++ [45] else b) (digs 21 (mag n) [])) = b
 have hT : textL n = swp b.length 0 b := by rw [textL, hb]
 have hbl : b.length ≤ 22 := by
  rw [← hb]
  have := digs_len 21 (mag n) []
  simp at this
  simp only
  split <;> (try simp) <;> omega
 rintro v s hG
 have hlen := hG.sl.len
 simp only [List.length_map] at hlen
 have hw : IntKind.i64.wrap ((b.length : Int) - 1) = (b.length : Int) - 1 := wrap_of (by omega) (by omega)
 refine raw ?_
 repeat (first | (with_reducible refine unr ?_; try simp only [YY, ↓reduceIte, Za, Zb, Zc, reduceCtorEq, Zd, Ze, Zf, Zg, Zh, Zi, Zj, hlen, hw]) | (with_reducible refine WW (by decide) ?_))
 rcases hG.sl with ⟨rfl, h0⟩ | ⟨id, ver, es', rfl, hget⟩
 · have hb0 : b = [] := by simpa using h0
   subst hb0
   refine AWP_while [4, 5, 6] (fun _ : Unit => 0) (fun _ => [.nils, .int .i64 0, .int .i64 (-1)]) (fun _ t => s = t) () rfl ?_ ?_
   · refine raw ?_
     repeat (first | (with_reducible refine unr ?_; try simp only [YY, ↓reduceIte, Za, Zb, Zc, reduceCtorEq, Zd, Ze, Zf, Zg, Zh, Zi, Zj]) | (with_reducible refine WW (by decide) ?_))
     rfl
   rintro _ t rfl
   refine raw ?_
   repeat (first | (with_reducible refine unr ?_; try simp only [YY, ↓reduceIte, Za, Zb, Zc, reduceCtorEq, Zd, Ze, Zf, Zg, Zh, Zi, Zj, wp_bstr, eBst_nil]) | (with_reducible refine WW (by decide) ?_))
   refine FP.same hG.kp ?_ (.str _)
   rw [textOf, hT]; rfl
 have hidn := hG.fresh id (by simp [slIds])
 refine AWP_while [4, 5, 6] (fun y : List Int × Nat × Nat => y.2.2) (fun y => [.own id ver 1 0 (b.map u8c).length, .int .i64 y.2.1, .int .i64 ((b.length : Int) - 1 - y.2.1)])
  (fun y t => swp y.2.2 y.2.1 y.1 = textL n ∧ y.1.length = b.length ∧ y.2.2 + y.2.1 = b.length ∧ t.get id = some (.cells 5 ver 1 (y.1.map u8c ++ es')) ∧ Kp σ t) (b, 0, b.length) ⟨hT.symm, rfl, rfl, hget, hG.kp⟩ ?_ ?_
 · refine raw ?_
   repeat (first | (with_reducible refine unr ?_; try simp only [YY, ↓reduceIte, Za, Zb, Zc, reduceCtorEq, Zd, Ze, Zf, Zg, Zh, Zi, Zj]) | (with_reducible refine WW (by decide) ?_))
   simp
 clear hlen
 rintro ⟨c, i, f⟩ t ⟨hS, hcl, hfi, hg, hk⟩
 simp only at hS hcl hfi hg hk
 have hlt := t.lt hg
 have hu : ∀ o, (t.upd id o).get id = some o := fun o => Store.get_upd_self _ _ hlt
 by_cases hc : i + 1 + i < c.length
 · obtain ⟨g, rfl⟩ : ∃ g, f = g + 1 := ⟨f - 1, by omega⟩
   rw [swp, if_pos hc] at hS
   have ek : (b.length : Int) - 1 - i = ((c.length - 1 - i : Nat) : Int) := by omega
   generalize hkk : c.length - 1 - i = k at *
   have h1 : (i : Int) < (k : Int) := by omega
   have h2 : (i : Int) < (b.length : Int) := by omega
   have h3 : (k : Int) < (b.length : Int) := by omega
   obtain ⟨x, hx⟩ : ∃ x, c[i]? = some x := ⟨_, List.getElem?_eq_getElem (by omega)⟩
   obtain ⟨y, hy⟩ : ∃ y, c[k]? = some y := ⟨_, List.getElem?_eq_getElem (by omega)⟩
   have gx : (c.map u8c ++ es')[i]? = some (u8c x) := by rw [List.getElem?_append_left (by simp; omega)]; simp [hx]
   have gy : (c.map u8c ++ es')[k]? = some (u8c y) := by rw [List.getElem?_append_left (by simp; omega)]; simp [hy]
   have gy2 : ((c.map u8c ++ es').set i [AV.int .u8 y])[k]? = some (u8c y) := by rw [List.getElem?_set_ne (by omega)]; exact gy
   have hw1 := wrap_succ (i := i) (by omega)
   have hw2 : IntKind.i64.wrap ((k : Int) - 1) = (k : Int) - 1 := wrap_of (by omega) (by omega)
   refine raw ?_
   repeat (first | (with_reducible refine unr ?_; try simp only [YY, ↓reduceIte, Za, Zb, Zc, reduceCtorEq, Zd, Ze, Zf, Zg, Zh, Zi, Zj, ek, h1, h2, h3, hg, gx, gy, u8c, hu, gy2, hw1, hw2]) | (with_reducible refine WW (by decide) ?_))
   have ex : c.getD i 0 = x := by rw [List.getD_eq_getElem?_getD, hx]; rfl
   have ey : c.getD k 0 = y := by rw [List.getD_eq_getElem?_getD, hy]; rfl
   rw [ex, ey] at hS
   refine ⟨((c.set i y).set k x, i + 1, g), ?_, ⟨hS, by simp; omega, by simp only; omega, ?_, hk.upd hidn _⟩, by simp only; omega⟩
   · simp only
     rw [show (k : Int) - 1 = (b.length : Int) - 1 - ((i + 1 : Nat) : Int) by omega]
   · simp only
     rw [List.map_set, List.map_set, List.set_append_left _ _ (by simp; omega), List.set_append_left _ _ (by simp; omega)]
     rfl
 · rw [show swp f i c = c by cases f with | zero => rfl | succ f => rw [swp, if_neg hc]] at hS
   have h1 : ¬ (i : Int) < (b.length : Int) - 1 - i := by omega
   have hel : elemsOf t 1 (.own id ver 1 0 b.length) = some (c.map u8c) := by
    rw [elems_own, hg, elems2_some, if_pos ⟨rfl, rfl, by simp; omega⟩, List.drop_zero, List.take_append_of_le_length (by simp; omega), List.take_of_length_le (by simp; omega)]
   refine raw ?_
   repeat (first | (with_reducible refine unr ?_; try simp only [YY, ↓reduceIte, Za, Zb, Zc, reduceCtorEq, Zd, Ze, Zf, Zg, Zh, Zi, Zj, h1, wp_bstr, hel, eBst_u8]) | (with_reducible refine WW (by decide) ?_))
   refine FP.same hk ?_ (.str _)
   rw [textOf, hS]
end Go.Proofs.Ytjjbjibbjbbeaaa

/- A part of the proof of the claim: the abstract layer, the contracts of the functions, the law (no condition of its own). -/
import Derived.Test.YtjjbjibbjbbeaaaK4
import Derived.Test.YtjjbjibbjbbeaaaProg
import Derived.KernelRfl
/- The resolved code of some functions. -/
set_option linter.unusedVariables false
namespace Go.Proofs.Ytjjbjibbjbbeaaa
open Go.AL
/-- changeling/changelinglaw17.CodeAlone -/
def c7 : ACode :=
(.seq
 (.reg [oo 6 (.move (.c (.bool false)))])
 (.seq
 (.seq
 (.reg [mv 13 0,
 oo 14 (.call 25 [(.t 13)]),
 oo 15 (.not (.t 14)),
 mv 16 15,
 og 17 16 false (.move (.t 1)),
 og 18 16 false (.call 25 [(.t 17)]),
 og 19 16 false (.not (.t 18)),
 oo 20 (.pick (.t 16) (.c (.bool true)) (.t 19)),
 mv 21 20,
 og 22 21 false (.move (.t 0)),
 og 23 21 false (.len .slice (.t 22)),
 og 24 21 false (.move (.t 1)),
 og 25 21 false (.len .slice (.t 24)),
 og 26 21 false (.bin .int .neq (.t 23) (.t 25)),
 oo 27 (.pick (.t 21) (.c (.bool true)) (.t 26)),
 mv 28 27,
 og 29 28 false (.move (.t 2)),
 og 30 28 false (.bin .int .lss (.t 29) (.c (.int .i64 0))),
 oo 31 (.pick (.t 28) (.c (.bool true)) (.t 30)),
 mv 32 31,
 og 33 32 false (.move (.t 2)),
 og 34 32 false (.move (.t 0)),
 og 35 32 false (.len .slice (.t 34)),
 og 36 32 false (.bin .int .geq (.t 33) (.t 35)),
 oo 37 (.pick (.t 32) (.c (.bool true)) (.t 36))])
 (.cond (.t 37)
 (.seq
 (.reg [oo 38 (.call 26 []),
 mv 6 38])
 .ret)
 .skip))
 (.seq
 (.seq
 (.reg [oo 7 (.move (.c (.int .i64 0)))])
 (.block 0
 (.loop
 (.seq
 (.seq
 (.reg [mv 39 7,
 mv 40 0,
 oo 41 (.len .slice (.t 40)),
 oo 42 (.bin .int .lss (.t 39) (.t 41))])
 (.cond (.t 42)
 .skip
 (.exit 0)))
 (.seq
 (.block 1
 (.seq
 (.reg [mv 45 0,
 mv 46 7,
 oo 47 (.iaddr 11 (.t 45) (.t 46)),
 oo 48 (.faddr 0 (.t 47)),
 oo 49 (.load none (.t 48)),
 mv 50 1,
 mv 51 7,
 oo 52 (.iaddr 11 (.t 50) (.t 51)),
 oo 53 (.faddr 0 (.t 52)),
 oo 54 (.load none (.t 53)),
 oo 55 (.bin .str .neq (.t 49) (.t 54))])
 (.cond (.t 55)
 (.seq
 (.reg [oo 56 (.call 26 []),
 mv 6 56])
 .ret)
 .skip)))
 (.reg [mv 43 7,
 oo 44 (.bin .int .add (.t 43) (.c (.int .i64 1))),
 mv 7 44]))))))
 (.seq
 (.seq
 (.reg [mv 57 0,
 mv 58 2,
 oo 59 (.iaddr 11 (.t 57) (.t 58)),
 oo 60 (.faddr 1 (.t 59)),
 oo 61 (.load none (.t 60)),
 mv 62 1,
 mv 63 2,
 oo 64 (.iaddr 11 (.t 62) (.t 63)),
 oo 65 (.faddr 1 (.t 64)),
 oo 66 (.load none (.t 65)),
 oo 67 (.call 29 [(.t 61), (.t 66)]),
 oo 68 (.not (.t 67)),
 mv 69 68,
 og 70 69 false (.move (.t 0)),
 og 71 69 false (.move (.t 2)),
 og 72 69 false (.iaddr 11 (.t 70) (.t 71)),
 og 73 69 false (.faddr 2 (.t 72)),
 og 74 69 false (.load (some 9) (.t 73)),
 og 75 69 false (.move (.t 1)),
 og 76 69 false (.move (.t 2)),
 og 77 69 false (.iaddr 11 (.t 75) (.t 76)),
 og 78 69 false (.faddr 2 (.t 77)),
 og 79 69 false (.load (some 9) (.t 78)),
 og 80 69 false (.call 30 [(.t 74), (.t 79)]),
 og 81 69 false (.not (.t 80)),
 oo 82 (.pick (.t 69) (.c (.bool true)) (.t 81))])
 (.cond (.t 82)
 (.seq
 (.reg [oo 83 (.call 26 []),
 mv 6 83])
 .ret)
 .skip))
 (.seq
 (.reg [oo 84 (.call 31 []),
 oo 85 (.build [(.str ⟨#[]⟩), (.str ⟨#[]⟩), (.int .i64 0), (.int .i64 0), .nils] [(0, 1, (.c (.str ⟨#[78]⟩)))]),
 oo 86 (.build [(.int .i64 0), (.int .i64 0), (.str ⟨#[]⟩), .nils] []),
 oo 87 (.build [(.int .i64 0), (.int .i64 0), (.str ⟨#[]⟩), .nils] []),
 oo 88 (.lit false 33 4 [(.t 86), (.t 87)]),
 oo 89 (.build [(.str ⟨#[]⟩), (.str ⟨#[]⟩), (.int .i64 0), (.int .i64 0), .nils] [(0, 1, (.c (.str ⟨#[67]⟩))), (2, 1, (.c (.int .i64 1))), (4, 1, (.t 88))]),
 oo 90 (.lit false 87 5 [(.t 85), (.t 89)]),
 oo 91 (.append 87 5 72 (.t 84) (.t 90)),
 mv 8 91])
 (.seq
 (.reg [mv 93 0,
 mv 94 8,
 oo 95 (.call 27 [(.t 93), (.t 94)]),
 mv 92 95,
 oo 96 (.extract (.t 92) 0),
 oo 97 (.extract (.t 92) 1),
 mv 9 96,
 mv 10 97])
 (.seq
 (.reg [mv 99 1,
 mv 100 8,
 oo 101 (.call 27 [(.t 99), (.t 100)]),
 mv 98 101,
 oo 102 (.extract (.t 98) 0),
 oo 103 (.extract (.t 98) 1),
 mv 11 102,
 mv 12 103])
 (.seq
 (.seq
 (.reg [mv 104 10,
 oo 105 (.bin .int .neq (.t 104) (.c (.int .i64 0))),
 mv 106 105,
 og 107 106 false (.move (.t 12)),
 og 108 106 false (.bin .int .neq (.t 107) (.c (.int .i64 0))),
 oo 109 (.pick (.t 106) (.c (.bool true)) (.t 108))])
 (.cond (.t 109)
 (.seq
 (.reg [oo 110 (.call 26 []),
 mv 6 110])
 .ret)
 .skip))
 (.seq
 (.reg [mv 111 2,
 mv 112 9,
 oo 113 (.len .slice (.t 112)),
 oo 114 (.bin .int .lss (.t 111) (.t 113)),
 mv 115 114,
 og 116 115 true (.move (.t 2)),
 og 117 115 true (.move (.t 11)),
 og 118 115 true (.len .slice (.t 117)),
 og 119 115 true (.bin .int .lss (.t 116) (.t 118)),
 oo 120 (.pick (.t 115) (.t 119) (.c (.bool false))),
 mv 121 120,
 og 122 121 true (.move (.t 9)),
 og 123 121 true (.move (.t 2)),
 og 124 121 true (.iaddr 4 (.t 122) (.t 123)),
 og 125 121 true (.load (some 4) (.t 124)),
 og 126 121 true (.move (.t 11)),
 og 127 121 true (.move (.t 2)),
 og 128 121 true (.iaddr 4 (.t 126) (.t 127)),
 og 129 121 true (.load (some 4) (.t 128)),
 og 130 121 true (.call 32 [(.t 125), (.t 129)]),
 oo 131 (.pick (.t 121) (.t 130) (.c (.bool false))),
 mv 132 131,
 og 133 132 true (.call 26 []),
 oo 134 (.pick (.t 132) (.t 133) (.c (.bool false))),
 mv 6 134])
 .ret)))))))))
/-- changeling/changelinglaw17.small -/
def c25 : ACode :=
(.seq
 (.reg [oo 2 (.move (.c (.bool false)))])
 (.seq
 (.reg [oo 3 (.move (.c (.int .i64 0)))])
 (.seq
 (.seq
 (.reg [oo 4 (.move (.c (.int .i64 0)))])
 (.block 0
 (.loop
 (.seq
 (.seq
 (.reg [mv 5 4,
 mv 6 0,
 oo 7 (.len .slice (.t 6)),
 oo 8 (.bin .int .lss (.t 5) (.t 7))])
 (.cond (.t 8)
 .skip
 (.exit 0)))
 (.seq
 (.block 1
 (.seq
 (.seq
 (.reg [mv 11 4,
 oo 12 (.bin .int .gtr (.t 11) (.c (.int .i64 100))),
 mv 13 12,
 og 14 13 false (.move (.t 3)),
 og 15 13 false (.bin .int .gtr (.t 14) (.c (.int .i64 2000))),
 oo 16 (.pick (.t 13) (.c (.bool true)) (.t 15)),
 mv 17 16,
 og 18 17 false (.move (.t 0)),
 og 19 17 false (.move (.t 4)),
 og 20 17 false (.iaddr 11 (.t 18) (.t 19)),
 og 21 17 false (.faddr 1 (.t 20)),
 og 22 17 false (.load none (.t 21)),
 og 23 17 false (.len .slice (.t 22)),
 og 24 17 false (.bin .int .gtr (.t 23) (.c (.int .i64 100))),
 oo 25 (.pick (.t 17) (.c (.bool true)) (.t 24))])
 (.cond (.t 25)
 (.seq
 (.reg [oo 2 (.move (.c (.bool false)))])
 .ret)
 .skip))
 (.reg [mv 26 3,
 mv 27 0,
 mv 28 4,
 oo 29 (.iaddr 11 (.t 27) (.t 28)),
 oo 30 (.faddr 2 (.t 29)),
 oo 31 (.load (some 9) (.t 30)),
 oo 32 (.call 17 [(.t 31)]),
 oo 33 (.bin .int .add (.t 26) (.t 32)),
 mv 3 33])))
 (.reg [mv 9 4,
 oo 10 (.bin .int .add (.t 9) (.c (.int .i64 1))),
 mv 4 10]))))))
 (.seq
 (.reg [mv 34 3,
 oo 35 (.bin .int .leq (.t 34) (.c (.int .i64 2000))),
 mv 2 35])
 .ret))))
theorem in25 {args : List AV} {σ : Store} {K : AV → Store → Prop} (hargs : args.length ≤ 36 := by simp) (h : AWP Try.prog Try.f25.ntmps c25 (fun e t s => match e with | .exit _ => False | _ => Res [.slot 2] K t s) (env (argList 0 args)) σ) : ACalls Try.prog 25 args σ K :=
  enter (own := []) Try.func25 (by kernel_rfl) (by kernel_rfl) (by kernel_rfl) hargs h
/-- changeling/code.Compile -/
def c27 : ACode :=
(.seq
 (.reg [oo 4 (.move (.c .nils)),
 oo 5 (.move (.c (.int .i64 0)))])
 (.seq
 (.reg [mv 15 0,
 mv 16 1,
 oo 17 (.call 56 [(.t 15), (.t 16)]),
 mv 14 17,
 oo 18 (.extract (.t 14) 0),
 oo 19 (.extract (.t 14) 1),
 mv 6 18,
 mv 7 19])
 (.seq
 (.seq
 (.reg [mv 20 7,
 oo 21 (.not (.t 20))])
 (.cond (.t 21)
 (.seq
 (.reg [oo 4 (.move (.c .nils)),
 oo 5 (.move (.c (.int .i64 1)))])
 .ret)
 .skip))
 (.seq
 (.reg [oo 8 (.move (.c .nils))])
 (.seq
 (.seq
 (.reg [mv 22 0,
 oo 23 (.len .slice (.t 22)),
 oo 24 (.move (.c (.int .i64 0)))])
 (.block 0
 (.loop
 (.seq
 (.reg [oo 25 (.bin .int .lss (.t 24) (.t 23))])
 (.seq
 (.cond (.t 25)
 .skip
 (.exit 0))
 (.seq
 (.block 1
 (.seq
 (.reg [oo 26 (.iaddr 11 (.t 22) (.t 24)),
 oo 27 (.load (some 11) (.t 26)),
 oo 10 (.new 71 (.c (.agg [(.str ⟨#[]⟩), .nils, (.int .i64 0), (.str ⟨#[]⟩), (.int .i64 0), (.int .i64 0), .nils, .nils, .nils, .nils, .nils]))),
 ⟨none, .store 11 (.t 10) (.t 27), none⟩])
 (.reg [mv 28 8,
 mv 29 6,
 oo 30 (.load (some 11) (.t 10)),
 oo 31 (.call 57 [(.t 29), (.t 30)]),
 oo 32 (.lit false 81 4 [(.t 31)]),
 oo 33 (.append 81 4 56 (.t 28) (.t 32)),
 mv 8 33])))
 (.reg [oo 34 (.bin .int .add (.t 24) (.c (.int .i64 1))),
 mv 24 34])))))))
 (.seq
 (.seq
 (.reg [mv 35 1,
 oo 36 (.len .slice (.t 35)),
 oo 37 (.move (.c (.int .i64 0)))])
 (.block 2
 (.loop
 (.seq
 (.reg [oo 38 (.bin .int .lss (.t 37) (.t 36))])
 (.seq
 (.cond (.t 38)
 .skip
 (.exit 2))
 (.seq
 (.block 3
 (.seq
 (.reg [mv 39 37,
 oo 40 (.iaddr 5 (.t 35) (.t 37)),
 oo 41 (.load (some 5) (.t 40)),
 oo 12 (.new 87 (.c (.agg [(.str ⟨#[]⟩), (.str ⟨#[]⟩), (.int .i64 0), (.int .i64 0), .nils]))),
 mv 11 39,
 ⟨none, .store 5 (.t 12) (.t 41), none⟩])
 (.reg [mv 42 8,
 mv 43 6,
 mv 44 11,
 oo 45 (.faddr 0 (.t 12)),
 oo 46 (.load none (.t 45)),
 oo 47 (.call 58 [(.t 43), (.t 44), (.t 46)]),
 oo 48 (.lit false 81 4 [(.t 47)]),
 oo 49 (.append 81 4 56 (.t 42) (.t 48)),
 mv 8 49])))
 (.reg [oo 50 (.bin .int .add (.t 37) (.c (.int .i64 1))),
 mv 37 50])))))))
 (.seq
 (.seq
 (.reg [oo 13 (.move (.c (.int .i64 1)))])
 (.block 4
 (.loop
 (.seq
 (.seq
 (.reg [mv 51 13,
 oo 52 (.bin .int .leq (.t 51) (.c (.int .i64 11)))])
 (.cond (.t 52)
 .skip
 (.exit 4)))
 (.seq
 (.block 5
 (.reg [mv 55 8,
 mv 56 6,
 mv 57 13,
 oo 58 (.call 59 [(.t 56), (.t 57)]),
 oo 59 (.lit false 81 4 [(.t 58)]),
 oo 60 (.append 81 4 56 (.t 55) (.t 59)),
 mv 8 60]))
 (.reg [mv 53 13,
 oo 54 (.bin .int .add (.t 53) (.c (.int .i64 1))),
 mv 13 54]))))))
 (.seq
 (.reg [mv 61 8,
 mv 4 61,
 oo 5 (.move (.c (.int .i64 0)))])
 .ret))))))))
theorem in27 {args : List AV} {σ : Store} {K : AV → Store → Prop} (hargs : args.length ≤ 62 := by simp) (h : AWP Try.prog Try.f27.ntmps c27 (fun e t s => match e with | .exit _ => False | _ => Res [.slot 4, .slot 5] K t s) (env (argList 0 args)) σ) : ACalls Try.prog 27 args σ K :=
  enter (own := []) Try.func27 (by kernel_rfl) (by kernel_rfl) (by kernel_rfl) hargs h
/-- changeling/changelinglaw17.truths -/
def c31 : ACode :=
(.seq
 (.reg [oo 0 (.move (.c .nils))])
 (.seq
 (.reg [oo 1 (.build [(.str ⟨#[]⟩), (.str ⟨#[]⟩), (.int .i64 0), (.int .i64 0), .nils] [(0, 1, (.c (.str ⟨#[70, 97, 108, 115, 101]⟩))), (1, 1, (.c (.str ⟨#[66, 111, 111, 108]⟩)))]),
 oo 2 (.build [(.str ⟨#[]⟩), (.str ⟨#[]⟩), (.int .i64 0), (.int .i64 0), .nils] [(0, 1, (.c (.str ⟨#[84, 114, 117, 101]⟩))), (1, 1, (.c (.str ⟨#[66, 111, 111, 108]⟩))), (2, 1, (.c (.int .i64 1)))]),
 oo 3 (.lit false 87 5 [(.t 1), (.t 2)]),
 mv 0 3])
 .ret))
theorem in31 {args : List AV} {σ : Store} {K : AV → Store → Prop} (hargs : args.length ≤ 4 := by simp) (h : AWP Try.prog Try.f31.ntmps c31 (fun e t s => match e with | .exit _ => False | _ => Res [.slot 0] K t s) (env (argList 0 args)) σ) : ACalls Try.prog 31 args σ K :=
  enter (own := []) Try.func31 (by kernel_rfl) (by kernel_rfl) (by kernel_rfl) hargs h
/-- changeling/changelingref17.Same -/
def c32 : ACode :=
(.seq
 (.reg [oo 2 (.new 81 (.t 0)),
 oo 3 (.new 81 (.t 1)),
 oo 4 (.move (.c (.bool false)))])
 (.seq
 (.seq
 (.reg [oo 9 (.faddr 0 (.t 2)),
 oo 10 (.load none (.t 9)),
 oo 11 (.faddr 0 (.t 3)),
 oo 12 (.load none (.t 11)),
 oo 13 (.bin .str .neq (.t 10) (.t 12)),
 mv 14 13,
 og 15 14 false (.faddr 1 (.t 2)),
 og 16 14 false (.load none (.t 15)),
 og 17 14 false (.faddr 1 (.t 3)),
 og 18 14 false (.load none (.t 17)),
 og 19 14 false (.bin .int .neq (.t 16) (.t 18)),
 oo 20 (.pick (.t 14) (.c (.bool true)) (.t 19)),
 mv 21 20,
 og 22 21 false (.faddr 2 (.t 2)),
 og 23 21 false (.load none (.t 22)),
 og 24 21 false (.faddr 2 (.t 3)),
 og 25 21 false (.load none (.t 24)),
 og 26 21 false (.bin .bool .neq (.t 23) (.t 25)),
 oo 27 (.pick (.t 21) (.c (.bool true)) (.t 26)),
 mv 28 27,
 og 29 28 false (.faddr 3 (.t 2)),
 og 30 28 false (.load none (.t 29)),
 og 31 28 false (.len .slice (.t 30)),
 og 32 28 false (.faddr 3 (.t 3)),
 og 33 28 false (.load none (.t 32)),
 og 34 28 false (.len .slice (.t 33)),
 og 35 28 false (.bin .int .neq (.t 31) (.t 34)),
 oo 36 (.pick (.t 28) (.c (.bool true)) (.t 35))])
 (.cond (.t 36)
 (.seq
 (.reg [oo 4 (.move (.c (.bool false)))])
 .ret)
 .skip))
 (.seq
 (.seq
 (.reg [oo 5 (.move (.c (.int .i64 0)))])
 (.block 0
 (.loop
 (.seq
 (.seq
 (.reg [mv 37 5,
 oo 38 (.faddr 3 (.t 2)),
 oo 39 (.load none (.t 38)),
 oo 40 (.len .slice (.t 39)),
 oo 41 (.bin .int .lss (.t 37) (.t 40))])
 (.cond (.t 41)
 .skip
 (.exit 0)))
 (.seq
 (.block 1
 (.seq
 (.draw [6, 7] [([⟨(some 44), .faddr 3 (.t 2), none⟩], []),
 ([⟨(some 45), .load none (.t 44), none⟩], []),
 ([⟨(some 46), .move (.t 5), none⟩], []),
 ([⟨(some 47), .iaddr 4 (.t 45) (.t 46), none⟩], []),
 ([⟨(some 48), .load (some 4) (.t 47), none⟩], []),
 ([⟨(some 49), .faddr 3 (.t 3), none⟩], []),
 ([⟨(some 50), .load none (.t 49), none⟩], []),
 ([⟨(some 51), .move (.t 5), none⟩], []),
 ([⟨(some 52), .iaddr 4 (.t 50) (.t 51), none⟩], []),
 ([⟨(some 53), .load (some 4) (.t 52), none⟩], []),
 ([⟨(some 6), .new 139 (.c (.agg [(.int .i64 0), (.int .i64 0), (.int .i64 0), .nils])), none⟩, ⟨none, .store 4 (.t 6) (.t 48), none⟩], []),
 ([⟨(some 7), .new 139 (.c (.agg [(.int .i64 0), (.int .i64 0), (.int .i64 0), .nils])), none⟩, ⟨none, .store 4 (.t 7) (.t 53), none⟩], [])])
 (.seq
 (.seq
 (.reg [oo 54 (.faddr 0 (.t 6)),
 oo 55 (.load none (.t 54)),
 oo 56 (.faddr 0 (.t 7)),
 oo 57 (.load none (.t 56)),
 oo 58 (.bin .int .neq (.t 55) (.t 57)),
 mv 59 58,
 og 60 59 false (.faddr 1 (.t 6)),
 og 61 59 false (.load none (.t 60)),
 og 62 59 false (.faddr 1 (.t 7)),
 og 63 59 false (.load none (.t 62)),
 og 64 59 false (.bin .int .neq (.t 61) (.t 63)),
 oo 65 (.pick (.t 59) (.c (.bool true)) (.t 64)),
 mv 66 65,
 og 67 66 false (.faddr 2 (.t 6)),
 og 68 66 false (.load none (.t 67)),
 og 69 66 false (.faddr 2 (.t 7)),
 og 70 66 false (.load none (.t 69)),
 og 71 66 false (.bin .int .neq (.t 68) (.t 70)),
 oo 72 (.pick (.t 66) (.c (.bool true)) (.t 71)),
 mv 73 72,
 og 74 73 false (.faddr 3 (.t 6)),
 og 75 73 false (.load none (.t 74)),
 og 76 73 false (.len .slice (.t 75)),
 og 77 73 false (.faddr 3 (.t 7)),
 og 78 73 false (.load none (.t 77)),
 og 79 73 false (.len .slice (.t 78)),
 og 80 73 false (.bin .int .neq (.t 76) (.t 79)),
 oo 81 (.pick (.t 73) (.c (.bool true)) (.t 80))])
 (.cond (.t 81)
 (.seq
 (.reg [oo 4 (.move (.c (.bool false)))])
 .ret)
 .skip))
 (.seq
 (.reg [oo 8 (.move (.c (.int .i64 0)))])
 (.block 2
 (.loop
 (.seq
 (.seq
 (.reg [mv 82 8,
 oo 83 (.faddr 3 (.t 6)),
 oo 84 (.load none (.t 83)),
 oo 85 (.len .slice (.t 84)),
 oo 86 (.bin .int .lss (.t 82) (.t 85))])
 (.cond (.t 86)
 .skip
 (.exit 2)))
 (.seq
 (.block 3
 (.seq
 (.reg [oo 89 (.faddr 3 (.t 6)),
 oo 90 (.load none (.t 89)),
 mv 91 8,
 oo 92 (.iaddr 2 (.t 90) (.t 91)),
 oo 93 (.load (some 2) (.t 92)),
 oo 94 (.faddr 3 (.t 7)),
 oo 95 (.load none (.t 94)),
 mv 96 8,
 oo 97 (.iaddr 2 (.t 95) (.t 96)),
 oo 98 (.load (some 2) (.t 97)),
 oo 99 (.bin (.row [.int, .int]) .neq (.t 93) (.t 98))])
 (.cond (.t 99)
 (.seq
 (.reg [oo 4 (.move (.c (.bool false)))])
 .ret)
 .skip)))
 (.reg [mv 87 8,
 oo 88 (.bin .int .add (.t 87) (.c (.int .i64 1))),
 mv 8 88])))))))))
 (.reg [mv 42 5,
 oo 43 (.bin .int .add (.t 42) (.c (.int .i64 1))),
 mv 5 43]))))))
 (.seq
 (.reg [oo 4 (.move (.c (.bool true)))])
 .ret))))
theorem in32 {args : List AV} {σ : Store} {K : AV → Store → Prop} (hargs : args.length ≤ 100 := by simp) (h : AWP Try.prog Try.f32.ntmps c32 (fun e t s => match e with | .exit _ => False | _ => Res [.slot 4] K t s) (env (argList 0 args)) σ) : ACalls Try.prog 32 args σ K :=
  enter (own := []) Try.func32 (by kernel_rfl) (by kernel_rfl) (by kernel_rfl) hargs h
/-- changeling/code.open -/
def c56 : ACode :=
(.seq
 (.reg [oo 4 (.move (.c .nilp)),
 oo 5 (.move (.c (.bool false)))])
 (.seq
 (.seq
 (.reg [mv 10 0,
 oo 11 (.call 62 [(.t 10)]),
 oo 12 (.not (.t 11))])
 (.cond (.t 12)
 (.seq
 (.reg [oo 4 (.move (.c .nilp)),
 oo 5 (.move (.c (.bool false)))])
 .ret)
 .skip))
 (.seq
 (.reg [mv 14 0,
 mv 15 1,
 oo 16 (.call 105 [(.t 14), (.t 15)]),
 mv 13 16,
 oo 17 (.extract (.t 13) 0),
 oo 18 (.extract (.t 13) 1),
 mv 6 17,
 mv 7 18])
 (.seq
 (.seq
 (.reg [mv 19 7,
 oo 20 (.not (.t 19))])
 (.cond (.t 20)
 (.seq
 (.reg [oo 4 (.move (.c .nilp)),
 oo 5 (.move (.c (.bool false)))])
 .ret)
 .skip))
 (.seq
 (.seq
 (.reg [mv 21 0,
 oo 22 (.len .slice (.t 21)),
 oo 23 (.move (.c (.int .i64 0)))])
 (.block 0
 (.loop
 (.seq
 (.reg [oo 24 (.bin .int .lss (.t 23) (.t 22))])
 (.seq
 (.cond (.t 24)
 .skip
 (.exit 0))
 (.seq
 (.block 1
 (.seq
 (.reg [oo 25 (.iaddr 11 (.t 21) (.t 23)),
 oo 26 (.load (some 11) (.t 25)),
 oo 9 (.new 71 (.c (.agg [(.str ⟨#[]⟩), .nils, (.int .i64 0), (.str ⟨#[]⟩), (.int .i64 0), (.int .i64 0), .nils, .nils, .nils, .nils, .nils]))),
 ⟨none, .store 11 (.t 9) (.t 26), none⟩])
 (.seq
 (.reg [mv 27 6,
 oo 28 (.faddr 2 (.t 9)),
 oo 29 (.load (some 9) (.t 28)),
 oo 30 (.call 64 [(.t 27), (.t 29)]),
 oo 31 (.not (.t 30))])
 (.cond (.t 31)
 (.seq
 (.reg [oo 4 (.move (.c .nilp)),
 oo 5 (.move (.c (.bool false)))])
 .ret)
 .skip))))
 (.reg [oo 32 (.bin .int .add (.t 23) (.c (.int .i64 1))),
 mv 23 32])))))))
 (.seq
 (.reg [mv 33 6,
 mv 4 33,
 oo 5 (.move (.c (.bool true)))])
 .ret))))))
theorem in56 {args : List AV} {σ : Store} {K : AV → Store → Prop} (hargs : args.length ≤ 34 := by simp) (h : AWP Try.prog Try.f56.ntmps c56 (fun e t s => match e with | .exit _ => False | _ => Res [.slot 4, .slot 5] K t s) (env (argList 0 args)) σ) : ACalls Try.prog 56 args σ K :=
  enter (own := []) Try.func56 (by kernel_rfl) (by kernel_rfl) (by kernel_rfl) hargs h
/-- changeling/lift.Flat -/
def c62 : ACode :=
(.seq
 (.reg [oo 2 (.move (.c (.bool false)))])
 (.seq
 (.reg [oo 8 (.build [.nils] []),
 oo 9 (.new 196 (.t 8)),
 mv 3 9])
 (.seq
 (.seq
 (.reg [mv 10 0,
 oo 11 (.len .slice (.t 10)),
 oo 12 (.move (.c (.int .i64 0)))])
 (.block 0
 (.loop
 (.seq
 (.reg [oo 13 (.bin .int .lss (.t 12) (.t 11))])
 (.seq
 (.cond (.t 13)
 .skip
 (.exit 0))
 (.seq
 (.block 1
 (.seq
 (.reg [oo 14 (.iaddr 11 (.t 10) (.t 12)),
 oo 15 (.load (some 11) (.t 14)),
 oo 5 (.new 71 (.c (.agg [(.str ⟨#[]⟩), .nils, (.int .i64 0), (.str ⟨#[]⟩), (.int .i64 0), (.int .i64 0), .nils, .nils, .nils, .nils, .nils]))),
 ⟨none, .store 11 (.t 5) (.t 15), none⟩])
 (.seq
 (.seq
 (.reg [oo 16 (.faddr 0 (.t 5)),
 oo 17 (.load none (.t 16)),
 oo 18 (.bin .str .eql (.t 17) (.c (.str ⟨#[]⟩))),
 mv 19 18,
 og 20 19 false (.faddr 0 (.t 5)),
 og 21 19 false (.load none (.t 20)),
 og 22 19 false (.call 83 [(.t 21)]),
 og 23 19 false (.bin .int .gtr (.t 22) (.c (.int .i64 0))),
 oo 24 (.pick (.t 19) (.c (.bool true)) (.t 23)),
 mv 25 24,
 og 26 25 false (.move (.t 3)),
 og 27 25 false (.nilck (.t 26)),
 og 28 25 false (.faddr 0 (.t 27)),
 og 29 25 false (.load none (.t 28)),
 og 30 25 false (.faddr 0 (.t 5)),
 og 31 25 false (.load none (.t 30)),
 og 32 25 false (.call 85 [(.t 29), (.t 31)]),
 oo 33 (.pick (.t 25) (.c (.bool true)) (.t 32)),
 mv 34 33,
 og 35 34 false (.faddr 1 (.t 5)),
 og 36 34 false (.load none (.t 35)),
 og 37 34 false (.call 111 [(.t 36)]),
 og 38 34 false (.not (.t 37)),
 oo 39 (.pick (.t 34) (.c (.bool true)) (.t 38))])
 (.cond (.t 39)
 (.seq
 (.reg [oo 2 (.move (.c (.bool false)))])
 .ret)
 .skip))
 (.reg [mv 40 3,
 mv 41 3,
 oo 42 (.nilck (.t 41)),
 oo 43 (.faddr 0 (.t 42)),
 oo 44 (.load none (.t 43)),
 oo 45 (.faddr 0 (.t 5)),
 oo 46 (.load none (.t 45)),
 oo 47 (.lit false 9 1 [(.t 46)]),
 oo 48 (.append 9 1 16 (.t 44) (.t 47)),
 oo 49 (.nilck (.t 40)),
 oo 50 (.faddr 0 (.t 49)),
 ⟨none, .store 1 (.t 50) (.t 48), none⟩]))))
 (.reg [oo 51 (.bin .int .add (.t 12) (.c (.int .i64 1))),
 mv 12 51])))))))
 (.seq
 (.seq
 (.reg [mv 52 0,
 oo 53 (.len .slice (.t 52)),
 oo 54 (.move (.c (.int .i64 0)))])
 (.block 2
 (.loop
 (.seq
 (.reg [oo 55 (.bin .int .lss (.t 54) (.t 53))])
 (.seq
 (.cond (.t 55)
 .skip
 (.exit 2))
 (.seq
 (.block 3
 (.seq
 (.reg [oo 56 (.iaddr 11 (.t 52) (.t 54)),
 oo 57 (.load (some 11) (.t 56)),
 oo 7 (.new 71 (.c (.agg [(.str ⟨#[]⟩), .nils, (.int .i64 0), (.str ⟨#[]⟩), (.int .i64 0), (.int .i64 0), .nils, .nils, .nils, .nils, .nils]))),
 ⟨none, .store 11 (.t 7) (.t 57), none⟩])
 (.seq
 (.reg [oo 58 (.faddr 2 (.t 7)),
 oo 59 (.load (some 9) (.t 58)),
 oo 60 (.call 112 [(.t 59), (.c (.bool true))]),
 oo 61 (.not (.t 60)),
 mv 62 61,
 og 63 62 false (.move (.t 3)),
 og 64 62 false (.faddr 2 (.t 7)),
 og 65 62 false (.load (some 9) (.t 64)),
 og 66 62 false (.faddr 1 (.t 7)),
 og 67 62 false (.load none (.t 66)),
 og 68 62 false (.call 86 [(.t 63), (.t 65), (.t 67)]),
 og 69 62 false (.not (.t 68)),
 oo 70 (.pick (.t 62) (.c (.bool true)) (.t 69))])
 (.cond (.t 70)
 (.seq
 (.reg [oo 2 (.move (.c (.bool false)))])
 .ret)
 .skip))))
 (.reg [oo 71 (.bin .int .add (.t 54) (.c (.int .i64 1))),
 mv 54 71])))))))
 (.seq
 (.reg [oo 2 (.move (.c (.bool true)))])
 .ret)))))
theorem in62 {args : List AV} {σ : Store} {K : AV → Store → Prop} (hargs : args.length ≤ 72 := by simp) (h : AWP Try.prog Try.f62.ntmps c62 (fun e t s => match e with | .exit _ => False | _ => Res [.slot 2] K t s) (env (argList 0 args)) σ) : ACalls Try.prog 62 args σ K :=
  enter (own := []) Try.func62 (by kernel_rfl) (by kernel_rfl) (by kernel_rfl) hargs h
/-- changeling/lift.flat -/
def c112 : ACode :=
(.seq
 (.reg [oo 2 (.new 54 (.t 0)),
 oo 4 (.move (.c (.bool false)))])
 (.seq
 (.reg [oo 14 (.faddr 0 (.t 2)),
 oo 15 (.load none (.t 14)),
 oo 16 (.bin .int .eql (.t 15) (.c (.int .i64 8))),
 mv 17 16,
 og 18 17 false (.faddr 0 (.t 2)),
 og 19 17 false (.load none (.t 18)),
 og 20 17 false (.bin .int .eql (.t 19) (.c (.int .i64 11))),
 oo 21 (.pick (.t 17) (.c (.bool true)) (.t 20)),
 mv 22 21,
 og 23 22 false (.faddr 0 (.t 2)),
 og 24 22 false (.load none (.t 23)),
 og 25 22 false (.bin .int .eql (.t 24) (.c (.int .i64 10))),
 oo 26 (.pick (.t 22) (.c (.bool true)) (.t 25)),
 mv 5 26])
 (.seq
 (.seq
 (.reg [oo 27 (.faddr 0 (.t 2)),
 oo 28 (.load none (.t 27)),
 oo 29 (.bin .int .eql (.t 28) (.c (.int .i64 6))),
 mv 30 29,
 og 31 30 false (.move (.t 1)),
 og 32 30 false (.not (.t 31)),
 og 33 30 false (.move (.t 32)),
 og 34 33 true (.move (.t 5)),
 og 35 30 false (.pick (.t 33) (.t 34) (.c (.bool false))),
 oo 36 (.pick (.t 30) (.c (.bool true)) (.t 35))])
 (.cond (.t 36)
 (.seq
 (.reg [oo 4 (.move (.c (.bool false)))])
 .ret)
 .skip))
 (.seq
 (.seq
 (.reg [oo 37 (.faddr 5 (.t 2)),
 oo 38 (.load none (.t 37)),
 oo 39 (.len .slice (.t 38)),
 oo 40 (.move (.c (.int .i64 0)))])
 (.block 0
 (.loop
 (.seq
 (.reg [oo 41 (.bin .int .lss (.t 40) (.t 39))])
 (.seq
 (.cond (.t 41)
 .skip
 (.exit 0))
 (.seq
 (.block 1
 (.seq
 (.reg [oo 42 (.iaddr 9 (.t 38) (.t 40)),
 oo 43 (.load (some 9) (.t 42)),
 oo 7 (.new 54 (.c (.agg [(.int .i64 0), (.str ⟨#[]⟩), (.int .i64 0), (.int .i64 0), .nils, .nils, .nils, .nils, .nils]))),
 ⟨none, .store 9 (.t 7) (.t 43), none⟩])
 (.seq
 (.reg [oo 44 (.load (some 9) (.t 7)),
 mv 45 1,
 mv 46 45,
 og 47 46 true (.faddr 0 (.t 2)),
 og 48 46 true (.load none (.t 47)),
 og 49 46 true (.bin .int .neq (.t 48) (.c (.int .i64 5))),
 oo 50 (.pick (.t 46) (.t 49) (.c (.bool false))),
 oo 51 (.call 112 [(.t 44), (.t 50)]),
 oo 52 (.not (.t 51))])
 (.cond (.t 52)
 (.seq
 (.reg [oo 4 (.move (.c (.bool false)))])
 .ret)
 .skip))))
 (.reg [oo 53 (.bin .int .add (.t 40) (.c (.int .i64 1))),
 mv 40 53])))))))
 (.seq
 (.seq
 (.reg [oo 54 (.faddr 6 (.t 2)),
 oo 55 (.load none (.t 54)),
 oo 56 (.len .slice (.t 55)),
 oo 57 (.move (.c (.int .i64 0)))])
 (.block 2
 (.loop
 (.seq
 (.reg [oo 58 (.bin .int .lss (.t 57) (.t 56))])
 (.seq
 (.cond (.t 58)
 .skip
 (.exit 2))
 (.seq
 (.block 3
 (.seq
 (.reg [oo 59 (.iaddr 13 (.t 55) (.t 57)),
 oo 60 (.load (some 13) (.t 59)),
 oo 9 (.new 113 (.c (.agg [(.int .i64 0), (.str ⟨#[]⟩), (.int .i64 0), .nils, (.int .i64 0), (.str ⟨#[]⟩), (.int .i64 0), (.int .i64 0), .nils, .nils, .nils, .nils, .nils]))),
 ⟨none, .store 13 (.t 9) (.t 60), none⟩])
 (.seq
 (.reg [oo 61 (.faddr 4 (.t 9)),
 oo 62 (.load (some 9) (.t 61)),
 mv 63 1,
 oo 64 (.call 112 [(.t 62), (.t 63)]),
 oo 65 (.not (.t 64))])
 (.cond (.t 65)
 (.seq
 (.reg [oo 4 (.move (.c (.bool false)))])
 .ret)
 .skip))))
 (.reg [oo 66 (.bin .int .add (.t 57) (.c (.int .i64 1))),
 mv 57 66])))))))
 (.seq
 (.seq
 (.reg [oo 67 (.faddr 7 (.t 2)),
 oo 68 (.load none (.t 67)),
 oo 69 (.len .slice (.t 68)),
 oo 70 (.move (.c (.int .i64 0)))])
 (.block 4
 (.loop
 (.seq
 (.reg [oo 71 (.bin .int .lss (.t 70) (.t 69))])
 (.seq
 (.cond (.t 71)
 .skip
 (.exit 4))
 (.seq
 (.block 5
 (.seq
 (.reg [oo 72 (.iaddr 10 (.t 68) (.t 70)),
 oo 73 (.load (some 10) (.t 72)),
 oo 11 (.new 114 (.c (.agg [(.str ⟨#[]⟩), (.int .i64 0), (.str ⟨#[]⟩), (.int .i64 0), (.int .i64 0), .nils, .nils, .nils, .nils, .nils]))),
 ⟨none, .store 10 (.t 11) (.t 73), none⟩])
 (.seq
 (.reg [oo 74 (.faddr 1 (.t 11)),
 oo 75 (.load (some 9) (.t 74)),
 oo 76 (.call 112 [(.t 75), (.c (.bool false))]),
 oo 77 (.not (.t 76))])
 (.cond (.t 77)
 (.seq
 (.reg [oo 4 (.move (.c (.bool false)))])
 .ret)
 .skip))))
 (.reg [oo 78 (.bin .int .add (.t 70) (.c (.int .i64 1))),
 mv 70 78])))))))
 (.seq
 (.seq
 (.reg [oo 79 (.faddr 8 (.t 2)),
 oo 80 (.load none (.t 79)),
 oo 81 (.len .slice (.t 80)),
 oo 82 (.move (.c (.int .i64 0)))])
 (.block 6
 (.loop
 (.seq
 (.reg [oo 83 (.bin .int .lss (.t 82) (.t 81))])
 (.seq
 (.cond (.t 83)
 .skip
 (.exit 6))
 (.seq
 (.block 7
 (.seq
 (.reg [oo 84 (.iaddr 10 (.t 80) (.t 82)),
 oo 85 (.load (some 10) (.t 84)),
 oo 13 (.new 116 (.c (.agg [(.int .i64 0), (.int .i64 0), (.str ⟨#[]⟩), (.int .i64 0), (.int .i64 0), .nils, .nils, .nils, .nils, .nils]))),
 ⟨none, .store 10 (.t 13) (.t 85), none⟩])
 (.seq
 (.reg [oo 86 (.faddr 1 (.t 13)),
 oo 87 (.load (some 9) (.t 86)),
 mv 88 1,
 oo 89 (.call 112 [(.t 87), (.t 88)]),
 oo 90 (.not (.t 89))])
 (.cond (.t 90)
 (.seq
 (.reg [oo 4 (.move (.c (.bool false)))])
 .ret)
 .skip))))
 (.reg [oo 91 (.bin .int .add (.t 82) (.c (.int .i64 1))),
 mv 82 91])))))))
 (.seq
 (.reg [oo 4 (.move (.c (.bool true)))])
 .ret))))))))
theorem in112 {args : List AV} {σ : Store} {K : AV → Store → Prop} (hargs : args.length ≤ 92 := by simp) (h : AWP Try.prog Try.f112.ntmps c112 (fun e t s => match e with | .exit _ => False | _ => Res [.slot 4] K t s) (env (argList 0 args)) σ) : ACalls Try.prog 112 args σ K :=
  enter (own := []) Try.func112 (by kernel_rfl) (by kernel_rfl) (by kernel_rfl) hargs h
/-- changeling/code.tableOf -/
def c105 : ACode :=
(.seq
 (.reg [oo 4 (.move (.c .nilp)),
 oo 5 (.move (.c (.bool false)))])
 (.seq
 (.reg [oo 13 (.mkmap),
 oo 14 (.mkmap),
 oo 15 (.build [.nilm, .nilm, .nils] [(0, 1, (.t 13)), (1, 1, (.t 14))]),
 oo 16 (.new 223 (.t 15)),
 mv 6 16])
 (.seq
 (.seq
 (.reg [mv 17 0,
 oo 18 (.len .slice (.t 17)),
 oo 19 (.move (.c (.int .i64 0)))])
 (.block 0
 (.loop
 (.seq
 (.reg [oo 20 (.bin .int .lss (.t 19) (.t 18))])
 (.seq
 (.cond (.t 20)
 .skip
 (.exit 0))
 (.seq
 (.block 1
 (.seq
 (.reg [mv 21 19,
 oo 22 (.iaddr 11 (.t 17) (.t 19)),
 oo 23 (.load (some 11) (.t 22)),
 oo 8 (.new 71 (.c (.agg [(.str ⟨#[]⟩), .nils, (.int .i64 0), (.str ⟨#[]⟩), (.int .i64 0), (.int .i64 0), .nils, .nils, .nils, .nils, .nils]))),
 mv 7 21,
 ⟨none, .store 11 (.t 8) (.t 23), none⟩])
 (.reg [mv 24 6,
 oo 25 (.nilck (.t 24)),
 oo 26 (.faddr 0 (.t 25)),
 oo 27 (.load none (.t 26)),
 oo 28 (.faddr 0 (.t 8)),
 oo 29 (.load none (.t 28)),
 mv 30 7,
 ⟨none, .mapset .str (.t 27) (.t 29) (.t 30), none⟩])))
 (.reg [oo 31 (.bin .int .add (.t 19) (.c (.int .i64 1))),
 mv 19 31])))))))
 (.seq
 (.seq
 (.reg [mv 32 1,
 oo 33 (.len .slice (.t 32)),
 oo 34 (.move (.c (.int .i64 0)))])
 (.block 2
 (.loop
 (.seq
 (.reg [oo 35 (.bin .int .lss (.t 34) (.t 33))])
 (.seq
 (.cond (.t 35)
 .skip
 (.exit 2))
 (.seq
 (.block 3
 (.seq
 (.reg [mv 36 34,
 oo 37 (.iaddr 5 (.t 32) (.t 34)),
 oo 38 (.load (some 5) (.t 37)),
 oo 10 (.new 87 (.c (.agg [(.str ⟨#[]⟩), (.str ⟨#[]⟩), (.int .i64 0), (.int .i64 0), .nils]))),
 mv 9 36,
 ⟨none, .store 5 (.t 10) (.t 38), none⟩])
 (.seq
 (.seq
 (.reg [mv 40 6,
 oo 41 (.nilck (.t 40)),
 oo 42 (.faddr 1 (.t 41)),
 oo 43 (.load none (.t 42)),
 oo 44 (.faddr 0 (.t 10)),
 oo 45 (.load none (.t 44)),
 oo 46 (.lookup .str (.int .i64 0) true (.t 43) (.t 45)),
 mv 39 46,
 oo 47 (.extract (.t 39) 0),
 oo 48 (.extract (.t 39) 1),
 mv 11 47,
 mv 12 48])
 (.seq
 (.reg [mv 49 12,
 mv 50 49,
 og 51 50 false (.faddr 0 (.t 10)),
 og 52 50 false (.load none (.t 51)),
 og 53 50 false (.bin .str .eql (.t 52) (.c (.str ⟨#[]⟩))),
 oo 54 (.pick (.t 50) (.c (.bool true)) (.t 53))])
 (.cond (.t 54)
 (.seq
 (.reg [oo 4 (.move (.c .nilp)),
 oo 5 (.move (.c (.bool false)))])
 .ret)
 .skip)))
 (.seq
 (.reg [mv 55 6,
 oo 56 (.nilck (.t 55)),
 oo 57 (.faddr 1 (.t 56)),
 oo 58 (.load none (.t 57)),
 oo 59 (.faddr 0 (.t 10)),
 oo 60 (.load none (.t 59)),
 mv 61 9,
 ⟨none, .mapset .str (.t 58) (.t 60) (.t 61), none⟩])
 (.reg [mv 62 6,
 mv 63 6,
 oo 64 (.nilck (.t 63)),
 oo 65 (.faddr 2 (.t 64)),
 oo 66 (.load none (.t 65)),
 oo 67 (.faddr 4 (.t 10)),
 oo 68 (.load none (.t 67)),
 oo 69 (.len .slice (.t 68)),
 oo 70 (.lit false 3 1 [(.t 69)]),
 oo 71 (.append 3 1 8 (.t 66) (.t 70)),
 oo 72 (.nilck (.t 62)),
 oo 73 (.faddr 2 (.t 72)),
 ⟨none, .store 1 (.t 73) (.t 71), none⟩])))))
 (.reg [oo 74 (.bin .int .add (.t 34) (.c (.int .i64 1))),
 mv 34 74])))))))
 (.seq
 (.reg [mv 75 6,
 mv 76 6,
 oo 77 (.call 113 [(.t 76), (.c (.str ⟨#[70, 97, 108, 115, 101]⟩)), (.c (.int .i64 0))]),
 mv 78 77,
 og 79 78 true (.move (.t 6)),
 og 80 78 true (.call 113 [(.t 79), (.c (.str ⟨#[84, 114, 117, 101]⟩)), (.c (.int .i64 0))]),
 oo 81 (.pick (.t 78) (.t 80) (.c (.bool false))),
 mv 4 75,
 mv 5 81])
 .ret)))))
theorem in105 {args : List AV} {σ : Store} {K : AV → Store → Prop} (hargs : args.length ≤ 82 := by simp) (h : AWP Try.prog Try.f105.ntmps c105 (fun e t s => match e with | .exit _ => False | _ => Res [.slot 4, .slot 5] K t s) (env (argList 0 args)) σ) : ACalls Try.prog 105 args σ K :=
  enter (own := []) Try.func105 (by kernel_rfl) (by kernel_rfl) (by kernel_rfl) hargs h
/-- (*changeling/code.table).fits -/
def c113 : ACode :=
(.seq
 (.reg [oo 6 (.move (.c (.bool false)))])
 (.seq
 (.reg [mv 10 0,
 oo 11 (.nilck (.t 10)),
 oo 12 (.faddr 1 (.t 11)),
 oo 13 (.load none (.t 12)),
 mv 14 1,
 oo 15 (.lookup .str (.int .i64 0) true (.t 13) (.t 14)),
 mv 9 15,
 oo 16 (.extract (.t 9) 0),
 oo 17 (.extract (.t 9) 1),
 mv 7 16,
 mv 8 17])
 (.seq
 (.reg [mv 18 8,
 mv 19 18,
 og 20 19 true (.move (.t 0)),
 og 21 19 true (.nilck (.t 20)),
 og 22 19 true (.faddr 2 (.t 21)),
 og 23 19 true (.load none (.t 22)),
 og 24 19 true (.move (.t 7)),
 og 25 19 true (.iaddr 1 (.t 23) (.t 24)),
 og 26 19 true (.load none (.t 25)),
 og 27 19 true (.move (.t 2)),
 og 28 19 true (.bin .int .eql (.t 26) (.t 27)),
 oo 29 (.pick (.t 19) (.t 28) (.c (.bool false))),
 mv 6 29])
 .ret)))
theorem in113 {args : List AV} {σ : Store} {K : AV → Store → Prop} (hargs : args.length ≤ 30 := by simp) (h : AWP Try.prog Try.f113.ntmps c113 (fun e t s => match e with | .exit _ => False | _ => Res [.slot 6] K t s) (env (argList 0 args)) σ) : ACalls Try.prog 113 args σ K :=
  enter (own := []) Try.func113 (by kernel_rfl) (by kernel_rfl) (by kernel_rfl) hargs h
/-- (*changeling/code.table).known -/
def c64 : ACode :=
(.seq
 (.reg [oo 3 (.new 54 (.t 1)),
 oo 4 (.move (.c (.bool false)))])
 (.seq
 (.seq
 (.reg [oo 13 (.faddr 0 (.t 3)),
 oo 14 (.load none (.t 13)),
 oo 15 (.bin .int .eql (.t 14) (.c (.int .i64 4))),
 mv 16 15,
 og 17 16 true (.move (.t 0)),
 og 18 16 true (.faddr 1 (.t 3)),
 og 19 16 true (.load none (.t 18)),
 og 20 16 true (.faddr 3 (.t 3)),
 og 21 16 true (.load none (.t 20)),
 og 22 16 true (.call 113 [(.t 17), (.t 19), (.t 21)]),
 og 23 16 true (.not (.t 22)),
 oo 24 (.pick (.t 16) (.t 23) (.c (.bool false)))])
 (.cond (.t 24)
 (.seq
 (.reg [oo 4 (.move (.c (.bool false)))])
 .ret)
 .skip))
 (.seq
 (.seq
 (.reg [oo 25 (.faddr 5 (.t 3)),
 oo 26 (.load none (.t 25)),
 oo 27 (.len .slice (.t 26)),
 oo 28 (.move (.c (.int .i64 0)))])
 (.block 0
 (.loop
 (.seq
 (.reg [oo 29 (.bin .int .lss (.t 28) (.t 27))])
 (.seq
 (.cond (.t 29)
 .skip
 (.exit 0))
 (.seq
 (.block 1
 (.seq
 (.reg [oo 30 (.iaddr 9 (.t 26) (.t 28)),
 oo 31 (.load (some 9) (.t 30)),
 oo 6 (.new 54 (.c (.agg [(.int .i64 0), (.str ⟨#[]⟩), (.int .i64 0), (.int .i64 0), .nils, .nils, .nils, .nils, .nils]))),
 ⟨none, .store 9 (.t 6) (.t 31), none⟩])
 (.seq
 (.reg [mv 32 0,
 oo 33 (.load (some 9) (.t 6)),
 oo 34 (.call 64 [(.t 32), (.t 33)]),
 oo 35 (.not (.t 34))])
 (.cond (.t 35)
 (.seq
 (.reg [oo 4 (.move (.c (.bool false)))])
 .ret)
 .skip))))
 (.reg [oo 36 (.bin .int .add (.t 28) (.c (.int .i64 1))),
 mv 28 36])))))))
 (.seq
 (.seq
 (.reg [oo 37 (.faddr 6 (.t 3)),
 oo 38 (.load none (.t 37)),
 oo 39 (.len .slice (.t 38)),
 oo 40 (.move (.c (.int .i64 0)))])
 (.block 2
 (.loop
 (.seq
 (.reg [oo 41 (.bin .int .lss (.t 40) (.t 39))])
 (.seq
 (.cond (.t 41)
 .skip
 (.exit 2))
 (.seq
 (.block 3
 (.seq
 (.reg [oo 42 (.iaddr 13 (.t 38) (.t 40)),
 oo 43 (.load (some 13) (.t 42)),
 oo 8 (.new 113 (.c (.agg [(.int .i64 0), (.str ⟨#[]⟩), (.int .i64 0), .nils, (.int .i64 0), (.str ⟨#[]⟩), (.int .i64 0), (.int .i64 0), .nils, .nils, .nils, .nils, .nils]))),
 ⟨none, .store 13 (.t 8) (.t 43), none⟩])
 (.seq
 (.reg [oo 44 (.faddr 0 (.t 8)),
 oo 45 (.load none (.t 44)),
 oo 46 (.bin .int .eql (.t 45) (.c (.int .i64 1))),
 mv 47 46,
 og 48 47 true (.move (.t 0)),
 og 49 47 true (.faddr 1 (.t 8)),
 og 50 47 true (.load none (.t 49)),
 og 51 47 true (.faddr 3 (.t 8)),
 og 52 47 true (.load none (.t 51)),
 og 53 47 true (.len .slice (.t 52)),
 og 54 47 true (.call 113 [(.t 48), (.t 50), (.t 53)]),
 og 55 47 true (.not (.t 54)),
 oo 56 (.pick (.t 47) (.t 55) (.c (.bool false))),
 mv 57 56,
 og 58 57 false (.move (.t 0)),
 og 59 57 false (.faddr 4 (.t 8)),
 og 60 57 false (.load (some 9) (.t 59)),
 og 61 57 false (.call 64 [(.t 58), (.t 60)]),
 og 62 57 false (.not (.t 61)),
 oo 63 (.pick (.t 57) (.c (.bool true)) (.t 62))])
 (.cond (.t 63)
 (.seq
 (.reg [oo 4 (.move (.c (.bool false)))])
 .ret)
 .skip))))
 (.reg [oo 64 (.bin .int .add (.t 40) (.c (.int .i64 1))),
 mv 40 64])))))))
 (.seq
 (.seq
 (.reg [oo 65 (.faddr 7 (.t 3)),
 oo 66 (.load none (.t 65)),
 oo 67 (.len .slice (.t 66)),
 oo 68 (.move (.c (.int .i64 0)))])
 (.block 4
 (.loop
 (.seq
 (.reg [oo 69 (.bin .int .lss (.t 68) (.t 67))])
 (.seq
 (.cond (.t 69)
 .skip
 (.exit 4))
 (.seq
 (.block 5
 (.seq
 (.reg [oo 70 (.iaddr 10 (.t 66) (.t 68)),
 oo 71 (.load (some 10) (.t 70)),
 oo 10 (.new 114 (.c (.agg [(.str ⟨#[]⟩), (.int .i64 0), (.str ⟨#[]⟩), (.int .i64 0), (.int .i64 0), .nils, .nils, .nils, .nils, .nils]))),
 ⟨none, .store 10 (.t 10) (.t 71), none⟩])
 (.seq
 (.reg [mv 72 0,
 oo 73 (.faddr 1 (.t 10)),
 oo 74 (.load (some 9) (.t 73)),
 oo 75 (.call 64 [(.t 72), (.t 74)]),
 oo 76 (.not (.t 75))])
 (.cond (.t 76)
 (.seq
 (.reg [oo 4 (.move (.c (.bool false)))])
 .ret)
 .skip))))
 (.reg [oo 77 (.bin .int .add (.t 68) (.c (.int .i64 1))),
 mv 68 77])))))))
 (.seq
 (.seq
 (.reg [oo 78 (.faddr 8 (.t 3)),
 oo 79 (.load none (.t 78)),
 oo 80 (.len .slice (.t 79)),
 oo 81 (.move (.c (.int .i64 0)))])
 (.block 6
 (.loop
 (.seq
 (.reg [oo 82 (.bin .int .lss (.t 81) (.t 80))])
 (.seq
 (.cond (.t 82)
 .skip
 (.exit 6))
 (.seq
 (.block 7
 (.seq
 (.reg [oo 83 (.iaddr 10 (.t 79) (.t 81)),
 oo 84 (.load (some 10) (.t 83)),
 oo 12 (.new 116 (.c (.agg [(.int .i64 0), (.int .i64 0), (.str ⟨#[]⟩), (.int .i64 0), (.int .i64 0), .nils, .nils, .nils, .nils, .nils]))),
 ⟨none, .store 10 (.t 12) (.t 84), none⟩])
 (.seq
 (.reg [mv 85 0,
 oo 86 (.faddr 1 (.t 12)),
 oo 87 (.load (some 9) (.t 86)),
 oo 88 (.call 64 [(.t 85), (.t 87)]),
 oo 89 (.not (.t 88))])
 (.cond (.t 89)
 (.seq
 (.reg [oo 4 (.move (.c (.bool false)))])
 .ret)
 .skip))))
 (.reg [oo 90 (.bin .int .add (.t 81) (.c (.int .i64 1))),
 mv 81 90])))))))
 (.seq
 (.reg [oo 4 (.move (.c (.bool true)))])
 .ret)))))))
theorem in64 {args : List AV} {σ : Store} {K : AV → Store → Prop} (hargs : args.length ≤ 91 := by simp) (h : AWP Try.prog Try.f64.ntmps c64 (fun e t s => match e with | .exit _ => False | _ => Res [.slot 4] K t s) (env (argList 0 args)) σ) : ACalls Try.prog 64 args σ K :=
  enter (own := []) Try.func64 (by kernel_rfl) (by kernel_rfl) (by kernel_rfl) hargs h
/-- (*changeling/code.table).super -/
def c57 : ACode :=
(.seq
 (.reg [oo 3 (.new 71 (.t 1)),
 oo 4 (.new 81 (.c (.agg [(.str ⟨#[]⟩), (.int .i64 0), (.bool false), .nils])))])
 (.seq
 (.reg [mv 7 0,
 oo 8 (.build [.nilp, .nils] [(0, 1, (.t 7))]),
 oo 9 (.new 157 (.t 8)),
 mv 5 9])
 (.seq
 (.reg [oo 10 (.faddr 1 (.t 3)),
 oo 11 (.load none (.t 10)),
 oo 12 (.len .slice (.t 11)),
 mv 6 12])
 (.seq
 (.draw [] [([⟨(some 13), .move (.t 5), none⟩], []),
 ([⟨(some 14), .faddr 2 (.t 3), none⟩], []),
 ([⟨(some 15), .load (some 9) (.t 14), none⟩], []),
 ([⟨(some 16), .faddr 1 (.t 3), none⟩], []),
 ([⟨(some 17), .load none (.t 16), none⟩], []),
 ([⟨(some 18), .move (.t 6), none⟩], []),
 ([⟨(some 19), .bin .int .sub (.t 18) (.c (.int .i64 1)), none⟩], []),
 ([⟨(some 21), .move (.t 6), none⟩], []),
 ([⟨(some 20), .call 107 [(.c .nils), (.t 17), (.t 19), (.c (.int .i64 (-1)))], none⟩], [⟨(some 14), .faddr 2 (.t 3), none⟩, ⟨(some 15), .load (some 9) (.t 14), none⟩]),
 ([⟨(some 22), .call 106 [(.t 13), (.t 15), (.t 20), (.t 21), (.c (.bool true))], none⟩], [])])
 (.seq
 (.reg [oo 23 (.faddr 0 (.t 3)),
 oo 24 (.load none (.t 23)),
 mv 25 6,
 mv 26 5,
 oo 27 (.nilck (.t 26)),
 oo 28 (.faddr 1 (.t 27)),
 oo 29 (.load none (.t 28)),
 oo 30 (.build [(.str ⟨#[]⟩), (.int .i64 0), (.bool false), .nils] [(0, 1, (.t 24)), (1, 1, (.t 25)), (3, 1, (.t 29))]),
 ⟨none, .store 4 (.t 4) (.t 30), none⟩])
 .ret)))))
theorem in57 {args : List AV} {σ : Store} {K : AV → Store → Prop} (hargs : args.length ≤ 31 := by simp) (h : AWP Try.prog Try.f57.ntmps c57 (fun e t s => match e with | .exit _ => False | _ => Res [.cell 4 (some 4)] K t s) (env (argList 0 args)) σ) : ACalls Try.prog 57 args σ K :=
  enter (own := []) Try.func57 (by kernel_rfl) (by kernel_rfl) (by kernel_rfl) hargs h
/-- changeling/code.with -/
def c107 : ACode :=
(.seq
 (.reg [oo 8 (.move (.c .nils))])
 (.seq
 (.reg [oo 9 (.move (.c .nils))])
 (.seq
 (.reg [mv 12 9,
 mv 13 0,
 oo 14 (.append 255 2 24 (.t 12) (.t 13)),
 mv 9 14])
 (.seq
 (.seq
 (.reg [mv 15 1,
 oo 16 (.len .slice (.t 15)),
 oo 17 (.move (.c (.int .i64 0)))])
 (.block 0
 (.loop
 (.seq
 (.reg [oo 18 (.bin .int .lss (.t 17) (.t 16))])
 (.seq
 (.cond (.t 18)
 .skip
 (.exit 0))
 (.seq
 (.block 1
 (.seq
 (.reg [mv 19 17,
 oo 20 (.iaddr 1 (.t 15) (.t 17)),
 oo 21 (.load none (.t 20)),
 mv 10 19,
 mv 11 21])
 (.reg [mv 22 9,
 mv 23 11,
 mv 24 2,
 mv 25 10,
 mv 26 3,
 oo 27 (.bin .int .mul (.t 25) (.t 26)),
 oo 28 (.bin .int .add (.t 24) (.t 27)),
 oo 29 (.build [(.str ⟨#[]⟩), (.int .i64 0)] [(0, 1, (.t 23)), (1, 1, (.t 28))]),
 oo 30 (.lit false 255 2 [(.t 29)]),
 oo 31 (.append 255 2 24 (.t 22) (.t 30)),
 mv 9 31])))
 (.reg [oo 32 (.bin .int .add (.t 17) (.c (.int .i64 1))),
 mv 17 32])))))))
 (.seq
 (.reg [mv 33 9,
 mv 8 33])
 .ret)))))
theorem in107 {args : List AV} {σ : Store} {K : AV → Store → Prop} (hargs : args.length ≤ 34 := by simp) (h : AWP Try.prog Try.f107.ntmps c107 (fun e t s => match e with | .exit _ => False | _ => Res [.slot 8] K t s) (env (argList 0 args)) σ) : ACalls Try.prog 107 args σ K :=
  enter (own := []) Try.func107 (by kernel_rfl) (by kernel_rfl) (by kernel_rfl) hargs h
/-- (*changeling/code.builder).value -/
def c106 : ACode :=
(.seq
 (.reg [oo 6 (.new 54 (.t 1))])
 (.seq
 (.seq
 (.reg [oo 11 (.faddr 0 (.t 6)),
 oo 12 (.load none (.t 11))])
 (.block 0
 (.seq
 (.reg [oo 23 (.bin .int .eql (.t 12) (.c (.int .i64 9))),
 mv 22 23])
 (.cond (.t 22)
 (.seq
 (.reg [mv 24 0,
 oo 25 (.faddr 5 (.t 6)),
 oo 26 (.load none (.t 25)),
 oo 27 (.iaddr 9 (.t 26) (.c (.int .i64 0))),
 oo 28 (.load (some 9) (.t 27)),
 mv 29 2,
 mv 30 3,
 oo 31 (.call 106 [(.t 24), (.t 28), (.t 29), (.t 30), (.c (.bool false))])])
 (.seq
 (.reg [mv 32 0,
 oo 33 (.faddr 5 (.t 6)),
 oo 34 (.load none (.t 33)),
 oo 35 (.iaddr 9 (.t 34) (.c (.int .i64 1))),
 oo 36 (.load (some 9) (.t 35)),
 mv 37 2,
 mv 38 3,
 oo 39 (.bin .int .add (.t 38) (.c (.int .i64 1))),
 oo 40 (.call 106 [(.t 32), (.t 36), (.t 37), (.t 39), (.c (.bool false))])])
 (.reg [mv 41 0,
 oo 42 (.faddr 2 (.t 6)),
 oo 43 (.load none (.t 42)),
 oo 44 (.call 109 [(.t 41), (.c (.int .i64 16)), (.t 43)])])))
 (.seq
 (.reg [oo 46 (.bin .int .eql (.t 12) (.c (.int .i64 7))),
 mv 45 46])
 (.cond (.t 45)
 (.seq
 (.reg [oo 47 (.faddr 7 (.t 6)),
 oo 48 (.load none (.t 47)),
 oo 49 (.len .slice (.t 48)),
 mv 10 49])
 (.seq
 (.reg [mv 50 0,
 oo 51 (.faddr 7 (.t 6)),
 oo 52 (.load none (.t 51)),
 mv 53 2,
 mv 54 3,
 oo 55 (.call 117 [(.t 50), (.t 52), (.t 53), (.t 54)]),
 mv 2 55])
 (.seq
 (.reg [mv 56 0,
 oo 57 (.faddr 5 (.t 6)),
 oo 58 (.load none (.t 57)),
 oo 59 (.iaddr 9 (.t 58) (.c (.int .i64 0))),
 oo 60 (.load (some 9) (.t 59)),
 mv 61 2,
 mv 62 3,
 mv 63 10,
 oo 64 (.bin .int .add (.t 62) (.t 63)),
 mv 65 4,
 oo 66 (.call 106 [(.t 56), (.t 60), (.t 61), (.t 64), (.t 65)])])
 (.seq
 (.seq
 (.reg [mv 67 4,
 oo 68 (.not (.t 67))])
 (.cond (.t 68)
 (.reg [mv 69 0,
 mv 70 10,
 oo 71 (.call 67 [(.t 69), (.c (.int .i64 7)), (.t 70)])])
 .skip))
 .ret))))
 (.seq
 (.reg [oo 73 (.bin .int .eql (.t 12) (.c (.int .i64 8))),
 mv 72 73])
 (.cond (.t 72)
 (.seq
 (.reg [mv 74 0,
 oo 75 (.load (some 9) (.t 6)),
 mv 76 2,
 mv 77 3,
 mv 78 4,
 oo 79 (.call 152 [(.t 74), (.t 75), (.t 76), (.t 77), (.t 78)])])
 .ret)
 (.seq
 (.reg [oo 81 (.bin .int .eql (.t 12) (.c (.int .i64 11))),
 mv 80 81])
 (.cond (.t 80)
 (.seq
 (.reg [mv 82 0,
 oo 83 (.load (some 9) (.t 6)),
 mv 84 2,
 mv 85 3,
 mv 86 4,
 oo 87 (.call 153 [(.t 82), (.t 83), (.t 84), (.t 85), (.t 86)])])
 .ret)
 (.seq
 (.reg [oo 89 (.bin .int .eql (.t 12) (.c (.int .i64 10))),
 mv 88 89])
 (.cond (.t 88)
 (.seq
 (.reg [mv 90 0,
 oo 91 (.call 67 [(.t 90), (.c (.int .i64 17)), (.c (.int .i64 0))])])
 .ret)
 (.seq
 (.reg [oo 93 (.bin .int .eql (.t 12) (.c (.int .i64 3))),
 mv 92 93])
 (.cond (.t 92)
 (.reg [mv 94 0,
 oo 95 (.faddr 2 (.t 6)),
 oo 96 (.load none (.t 95)),
 oo 97 (.call 109 [(.t 94), (.c (.int .i64 3)), (.t 96)])])
 (.seq
 (.reg [mv 13 0,
 oo 14 (.load (some 9) (.t 6)),
 mv 15 2,
 mv 16 3,
 oo 17 (.call 66 [(.t 13), (.t 14), (.t 15), (.t 16)])])
 (.seq
 (.reg [mv 18 4,
 oo 19 (.not (.t 18))])
 (.cond (.t 19)
 (.reg [mv 20 0,
 oo 21 (.call 67 [(.t 20), (.c (.int .i64 9)), (.c (.int .i64 0))])])
 .skip)))))))))))))))))
 (.seq
 (.reg [mv 98 4])
 (.cond (.t 98)
 (.reg [mv 99 0,
 mv 100 3,
 oo 101 (.call 108 [(.t 99), (.t 100)])])
 .skip))))
theorem in106 {args : List AV} {σ : Store} {K : AV → Store → Prop} (hargs : args.length ≤ 102 := by simp) (h : AWP Try.prog Try.f106.ntmps c106 (fun e t s => match e with | .exit _ => False | _ => Res [] K t s) (env (argList 0 args)) σ) : ACalls Try.prog 106 args σ K :=
  enter (own := []) Try.func106 (by kernel_rfl) (by kernel_rfl) (by kernel_rfl) hargs h
/-- (*changeling/code.builder).number -/
def c109 : ACode :=
(.reg [mv 6 0,
 mv 7 0,
 oo 8 (.nilck (.t 7)),
 oo 9 (.faddr 1 (.t 8)),
 oo 10 (.load none (.t 9)),
 mv 11 1,
 mv 12 2,
 oo 13 (.build [(.int .i64 0), (.int .i64 0), (.int .i64 0), .nils] [(0, 1, (.t 11)), (2, 1, (.t 12))]),
 oo 14 (.lit false 139 4 [(.t 13)]),
 oo 15 (.append 139 4 48 (.t 10) (.t 14)),
 oo 16 (.nilck (.t 6)),
 oo 17 (.faddr 1 (.t 16)),
 ⟨none, .store 1 (.t 17) (.t 15), none⟩])
theorem in109 {args : List AV} {σ : Store} {K : AV → Store → Prop} (hargs : args.length ≤ 18 := by simp) (h : AWP Try.prog Try.f109.ntmps c109 (fun e t s => match e with | .exit _ => False | _ => Res [] K t s) (env (argList 0 args)) σ) : ACalls Try.prog 109 args σ K :=
  enter (own := []) Try.func109 (by kernel_rfl) (by kernel_rfl) (by kernel_rfl) hargs h
/-- (*changeling/code.builder).binds -/
def c117 : ACode :=
(.seq
 (.reg [oo 8 (.move (.c .nils))])
 (.seq
 (.reg [oo 9 (.move (.c .nils))])
 (.seq
 (.seq
 (.reg [mv 15 1,
 oo 16 (.len .slice (.t 15)),
 oo 17 (.move (.c (.int .i64 0)))])
 (.block 0
 (.loop
 (.seq
 (.reg [oo 18 (.bin .int .lss (.t 17) (.t 16))])
 (.seq
 (.cond (.t 18)
 .skip
 (.exit 0))
 (.seq
 (.block 1
 (.seq
 (.reg [oo 19 (.iaddr 10 (.t 15) (.t 17)),
 oo 20 (.load (some 10) (.t 19)),
 oo 11 (.new 114 (.c (.agg [(.str ⟨#[]⟩), (.int .i64 0), (.str ⟨#[]⟩), (.int .i64 0), (.int .i64 0), .nils, .nils, .nils, .nils, .nils]))),
 ⟨none, .store 10 (.t 11) (.t 20), none⟩])
 (.reg [mv 21 9,
 oo 22 (.faddr 0 (.t 11)),
 oo 23 (.load none (.t 22)),
 oo 24 (.lit false 9 1 [(.t 23)]),
 oo 25 (.append 9 1 16 (.t 21) (.t 24)),
 mv 9 25])))
 (.reg [oo 26 (.bin .int .add (.t 17) (.c (.int .i64 1))),
 mv 17 26])))))))
 (.seq
 (.reg [mv 27 1,
 oo 28 (.len .slice (.t 27)),
 mv 12 28])
 (.seq
 (.reg [mv 29 2,
 mv 30 9,
 mv 31 3,
 oo 32 (.call 107 [(.t 29), (.t 30), (.t 31), (.c (.int .i64 1))]),
 mv 2 32])
 (.seq
 (.reg [mv 33 0,
 mv 34 12,
 oo 35 (.call 67 [(.t 33), (.c (.int .i64 8)), (.t 34)])])
 (.seq
 (.seq
 (.reg [mv 36 1,
 oo 37 (.len .slice (.t 36)),
 oo 38 (.move (.c (.int .i64 0)))])
 (.block 2
 (.loop
 (.seq
 (.reg [oo 39 (.bin .int .lss (.t 38) (.t 37))])
 (.seq
 (.cond (.t 39)
 .skip
 (.exit 2))
 (.seq
 (.block 3
 (.seq
 (.reg [mv 40 38,
 oo 41 (.iaddr 10 (.t 36) (.t 38)),
 oo 42 (.load (some 10) (.t 41)),
 oo 14 (.new 114 (.c (.agg [(.str ⟨#[]⟩), (.int .i64 0), (.str ⟨#[]⟩), (.int .i64 0), (.int .i64 0), .nils, .nils, .nils, .nils, .nils]))),
 mv 13 40,
 ⟨none, .store 10 (.t 14) (.t 42), none⟩])
 (.seq
 (.reg [mv 43 0,
 oo 44 (.faddr 1 (.t 14)),
 oo 45 (.load (some 9) (.t 44)),
 mv 46 2,
 mv 47 3,
 mv 48 12,
 oo 49 (.bin .int .add (.t 47) (.t 48)),
 oo 50 (.call 66 [(.t 43), (.t 45), (.t 46), (.t 49)])])
 (.reg [mv 51 0,
 mv 52 12,
 oo 53 (.bin .int .sub (.t 52) (.c (.int .i64 1))),
 mv 54 13,
 oo 55 (.bin .int .sub (.t 53) (.t 54)),
 oo 56 (.call 67 [(.t 51), (.c (.int .i64 5)), (.t 55)])]))))
 (.reg [oo 57 (.bin .int .add (.t 38) (.c (.int .i64 1))),
 mv 38 57])))))))
 (.seq
 (.reg [mv 58 2,
 mv 8 58])
 .ret))))))))
theorem in117 {args : List AV} {σ : Store} {K : AV → Store → Prop} (hargs : args.length ≤ 59 := by simp) (h : AWP Try.prog Try.f117.ntmps c117 (fun e t s => match e with | .exit _ => False | _ => Res [.slot 8] K t s) (env (argList 0 args)) σ) : ACalls Try.prog 117 args σ K :=
  enter (own := []) Try.func117 (by kernel_rfl) (by kernel_rfl) (by kernel_rfl) hargs h
/-- (*changeling/code.builder).put -/
def c67 : ACode :=
(.seq
 (.reg [oo 6 (.move (.c (.int .i64 0)))])
 (.seq
 (.reg [mv 7 0,
 mv 8 0,
 oo 9 (.nilck (.t 8)),
 oo 10 (.faddr 1 (.t 9)),
 oo 11 (.load none (.t 10)),
 mv 12 1,
 mv 13 2,
 oo 14 (.build [(.int .i64 0), (.int .i64 0), (.int .i64 0), .nils] [(0, 1, (.t 12)), (1, 1, (.t 13))]),
 oo 15 (.lit false 139 4 [(.t 14)]),
 oo 16 (.append 139 4 48 (.t 11) (.t 15)),
 oo 17 (.nilck (.t 7)),
 oo 18 (.faddr 1 (.t 17)),
 ⟨none, .store 1 (.t 18) (.t 16), none⟩])
 (.seq
 (.reg [mv 19 0,
 oo 20 (.nilck (.t 19)),
 oo 21 (.faddr 1 (.t 20)),
 oo 22 (.load none (.t 21)),
 oo 23 (.len .slice (.t 22)),
 oo 24 (.bin .int .sub (.t 23) (.c (.int .i64 1))),
 mv 6 24])
 .ret)))
theorem in67 {args : List AV} {σ : Store} {K : AV → Store → Prop} (hargs : args.length ≤ 25 := by simp) (h : AWP Try.prog Try.f67.ntmps c67 (fun e t s => match e with | .exit _ => False | _ => Res [.slot 6] K t s) (env (argList 0 args)) σ) : ACalls Try.prog 67 args σ K :=
  enter (own := []) Try.func67 (by kernel_rfl) (by kernel_rfl) (by kernel_rfl) hargs h
/-- (*changeling/code.builder).later -/
def c66 : ACode :=
(.seq
 (.reg [oo 5 (.new 54 (.t 1))])
 (.seq
 (.reg [oo 9 (.faddr 0 (.t 5)),
 oo 10 (.load none (.t 9))])
 (.block 0
 (.seq
 (.reg [oo 12 (.bin .int .eql (.t 10) (.c (.int .i64 1))),
 mv 11 12])
 (.cond (.t 11)
 (.reg [mv 13 0,
 mv 14 3,
 oo 15 (.bin .int .sub (.t 14) (.c (.int .i64 1))),
 mv 16 2,
 oo 17 (.faddr 1 (.t 5)),
 oo 18 (.load none (.t 17)),
 oo 19 (.call 114 [(.t 16), (.t 18)]),
 oo 20 (.bin .int .sub (.t 15) (.t 19)),
 oo 21 (.call 67 [(.t 13), (.c (.int .i64 1)), (.t 20)])])
 (.seq
 (.reg [oo 23 (.bin .int .eql (.t 10) (.c (.int .i64 2))),
 mv 22 23])
 (.cond (.t 22)
 (.reg [mv 24 0,
 mv 25 0,
 oo 26 (.faddr 1 (.t 5)),
 oo 27 (.load none (.t 26)),
 oo 28 (.call 115 [(.t 25), (.t 27)]),
 oo 29 (.call 67 [(.t 24), (.c (.int .i64 2)), (.t 28)])])
 (.seq
 (.reg [oo 31 (.bin .int .eql (.t 10) (.c (.int .i64 4))),
 mv 30 31])
 (.cond (.t 30)
 (.reg [mv 32 0,
 mv 33 0,
 oo 34 (.nilck (.t 33)),
 oo 35 (.faddr 0 (.t 34)),
 oo 36 (.load none (.t 35)),
 oo 37 (.nilck (.t 36)),
 oo 38 (.faddr 0 (.t 37)),
 oo 39 (.load none (.t 38)),
 oo 40 (.len .map (.t 39)),
 mv 41 0,
 oo 42 (.nilck (.t 41)),
 oo 43 (.faddr 0 (.t 42)),
 oo 44 (.load none (.t 43)),
 oo 45 (.nilck (.t 44)),
 oo 46 (.faddr 1 (.t 45)),
 oo 47 (.load none (.t 46)),
 oo 48 (.faddr 1 (.t 5)),
 oo 49 (.load none (.t 48)),
 oo 50 (.lookup .str (.int .i64 0) false (.t 47) (.t 49)),
 oo 51 (.bin .int .add (.t 40) (.t 50)),
 oo 52 (.call 67 [(.t 32), (.c (.int .i64 2)), (.t 51)])])
 (.seq
 (.reg [oo 54 (.bin .int .eql (.t 10) (.c (.int .i64 3))),
 mv 53 54])
 (.cond (.t 53)
 (.reg [mv 55 0,
 oo 56 (.faddr 2 (.t 5)),
 oo 57 (.load none (.t 56)),
 oo 58 (.call 109 [(.t 55), (.c (.int .i64 3)), (.t 57)])])
 (.seq
 (.reg [oo 60 (.bin .int .eql (.t 10) (.c (.int .i64 5))),
 mv 59 60])
 (.cond (.t 59)
 (.seq
 (.reg [mv 61 0,
 oo 62 (.faddr 5 (.t 5)),
 oo 63 (.load none (.t 62)),
 oo 64 (.iaddr 9 (.t 63) (.c (.int .i64 1))),
 oo 65 (.load (some 9) (.t 64)),
 mv 66 2,
 mv 67 3,
 oo 68 (.call 66 [(.t 61), (.t 65), (.t 66), (.t 67)])])
 (.seq
 (.reg [mv 69 0,
 oo 70 (.faddr 5 (.t 5)),
 oo 71 (.load none (.t 70)),
 oo 72 (.iaddr 9 (.t 71) (.c (.int .i64 0))),
 oo 73 (.load (some 9) (.t 72)),
 mv 74 2,
 mv 75 3,
 oo 76 (.bin .int .add (.t 75) (.c (.int .i64 1))),
 oo 77 (.call 66 [(.t 69), (.t 73), (.t 74), (.t 76)])])
 (.reg [mv 78 0,
 oo 79 (.call 67 [(.t 78), (.c (.int .i64 4)), (.c (.int .i64 0))])])))
 (.seq
 (.reg [oo 81 (.bin .int .eql (.t 10) (.c (.int .i64 9))),
 mv 80 81])
 (.cond (.t 80)
 (.seq
 (.reg [mv 82 0,
 oo 83 (.faddr 5 (.t 5)),
 oo 84 (.load none (.t 83)),
 oo 85 (.iaddr 9 (.t 84) (.c (.int .i64 1))),
 oo 86 (.load (some 9) (.t 85)),
 mv 87 2,
 mv 88 3,
 oo 89 (.call 66 [(.t 82), (.t 86), (.t 87), (.t 88)])])
 (.seq
 (.reg [mv 90 0,
 oo 91 (.faddr 5 (.t 5)),
 oo 92 (.load none (.t 91)),
 oo 93 (.iaddr 9 (.t 92) (.c (.int .i64 0))),
 oo 94 (.load (some 9) (.t 93)),
 mv 95 2,
 mv 96 3,
 oo 97 (.bin .int .add (.t 96) (.c (.int .i64 1))),
 oo 98 (.call 66 [(.t 90), (.t 94), (.t 95), (.t 97)])])
 (.seq
 (.reg [mv 99 0,
 mv 100 0,
 oo 101 (.faddr 2 (.t 5)),
 oo 102 (.load none (.t 101)),
 oo 103 (.call 116 [(.t 100), (.t 102)]),
 oo 104 (.call 67 [(.t 99), (.c (.int .i64 2)), (.t 103)])])
 (.seq
 (.reg [mv 105 0,
 oo 106 (.call 67 [(.t 105), (.c (.int .i64 4)), (.c (.int .i64 0))])])
 (.reg [mv 107 0,
 oo 108 (.call 67 [(.t 107), (.c (.int .i64 4)), (.c (.int .i64 0))])])))))
 (.seq
 (.reg [oo 110 (.bin .int .eql (.t 10) (.c (.int .i64 7))),
 mv 109 110])
 (.cond (.t 109)
 (.seq
 (.reg [oo 111 (.faddr 7 (.t 5)),
 oo 112 (.load none (.t 111)),
 oo 113 (.len .slice (.t 112)),
 mv 8 113])
 (.seq
 (.reg [mv 114 0,
 oo 115 (.faddr 7 (.t 5)),
 oo 116 (.load none (.t 115)),
 mv 117 2,
 mv 118 3,
 oo 119 (.call 117 [(.t 114), (.t 116), (.t 117), (.t 118)]),
 mv 2 119])
 (.seq
 (.reg [mv 120 0,
 oo 121 (.faddr 5 (.t 5)),
 oo 122 (.load none (.t 121)),
 oo 123 (.iaddr 9 (.t 122) (.c (.int .i64 0))),
 oo 124 (.load (some 9) (.t 123)),
 mv 125 2,
 mv 126 3,
 mv 127 8,
 oo 128 (.bin .int .add (.t 126) (.t 127)),
 oo 129 (.call 66 [(.t 120), (.t 124), (.t 125), (.t 128)])])
 (.reg [mv 130 0,
 mv 131 8,
 oo 132 (.call 67 [(.t 130), (.c (.int .i64 7)), (.t 131)])]))))
 .skip)))))))))))))))))
theorem in66 {args : List AV} {σ : Store} {K : AV → Store → Prop} (hargs : args.length ≤ 133 := by simp) (h : AWP Try.prog Try.f66.ntmps c66 (fun e t s => match e with | .exit _ => False | _ => Res [] K t s) (env (argList 0 args)) σ) : ACalls Try.prog 66 args σ K :=
  enter (own := []) Try.func66 (by kernel_rfl) (by kernel_rfl) (by kernel_rfl) hargs h
/-- changeling/code.find -/
def c114 : ACode :=
(.seq
 (.reg [oo 4 (.move (.c (.int .i64 0)))])
 (.seq
 (.seq
 (.reg [mv 6 0,
 oo 7 (.len .slice (.t 6)),
 oo 8 (.bin .int .sub (.t 7) (.c (.int .i64 1))),
 mv 5 8])
 (.block 0
 (.loop
 (.seq
 (.seq
 (.reg [mv 9 5,
 oo 10 (.bin .int .geq (.t 9) (.c (.int .i64 0)))])
 (.cond (.t 10)
 .skip
 (.exit 0)))
 (.seq
 (.block 1
 (.seq
 (.reg [mv 13 0,
 mv 14 5,
 oo 15 (.iaddr 2 (.t 13) (.t 14)),
 oo 16 (.faddr 0 (.t 15)),
 oo 17 (.load none (.t 16)),
 mv 18 1,
 oo 19 (.bin .str .eql (.t 17) (.t 18))])
 (.cond (.t 19)
 (.seq
 (.reg [mv 20 0,
 mv 21 5,
 oo 22 (.iaddr 2 (.t 20) (.t 21)),
 oo 23 (.faddr 1 (.t 22)),
 oo 24 (.load none (.t 23)),
 mv 4 24])
 .ret)
 .skip)))
 (.reg [mv 11 5,
 oo 12 (.bin .int .sub (.t 11) (.c (.int .i64 1))),
 mv 5 12]))))))
 (.seq
 (.reg [oo 4 (.move (.c (.int .i64 0)))])
 .ret)))
theorem in114 {args : List AV} {σ : Store} {K : AV → Store → Prop} (hargs : args.length ≤ 25 := by simp) (h : AWP Try.prog Try.f114.ntmps c114 (fun e t s => match e with | .exit _ => False | _ => Res [.slot 4] K t s) (env (argList 0 args)) σ) : ACalls Try.prog 114 args σ K :=
  enter (own := []) Try.func114 (by kernel_rfl) (by kernel_rfl) (by kernel_rfl) hargs h
/-- (*changeling/code.builder).global -/
def c115 : ACode :=
(.seq
 (.reg [oo 4 (.move (.c (.int .i64 0)))])
 (.seq
 (.seq
 (.reg [mv 8 0,
 oo 9 (.nilck (.t 8)),
 oo 10 (.faddr 0 (.t 9)),
 oo 11 (.load none (.t 10)),
 oo 12 (.nilck (.t 11)),
 oo 13 (.faddr 0 (.t 12)),
 oo 14 (.load none (.t 13)),
 mv 15 1,
 oo 16 (.lookup .str (.int .i64 0) true (.t 14) (.t 15)),
 mv 7 16,
 oo 17 (.extract (.t 7) 0),
 oo 18 (.extract (.t 7) 1),
 mv 5 17,
 mv 6 18])
 (.seq
 (.reg [mv 19 6])
 (.cond (.t 19)
 (.seq
 (.reg [mv 20 5,
 mv 4 20])
 .ret)
 .skip)))
 (.seq
 (.reg [mv 21 0,
 mv 22 1,
 oo 23 (.call 83 [(.t 22)]),
 oo 24 (.call 116 [(.t 21), (.t 23)]),
 mv 4 24])
 .ret)))
theorem in115 {args : List AV} {σ : Store} {K : AV → Store → Prop} (hargs : args.length ≤ 25 := by simp) (h : AWP Try.prog Try.f115.ntmps c115 (fun e t s => match e with | .exit _ => False | _ => Res [.slot 4] K t s) (env (argList 0 args)) σ) : ACalls Try.prog 115 args σ K :=
  enter (own := []) Try.func115 (by kernel_rfl) (by kernel_rfl) (by kernel_rfl) hargs h
/-- (*changeling/code.builder).operator -/
def c116 : ACode :=
(.seq
 (.reg [oo 4 (.move (.c (.int .i64 0)))])
 (.seq
 (.reg [mv 5 0,
 oo 6 (.nilck (.t 5)),
 oo 7 (.faddr 0 (.t 6)),
 oo 8 (.load none (.t 7)),
 oo 9 (.nilck (.t 8)),
 oo 10 (.faddr 0 (.t 9)),
 oo 11 (.load none (.t 10)),
 oo 12 (.len .map (.t 11)),
 mv 13 0,
 oo 14 (.nilck (.t 13)),
 oo 15 (.faddr 0 (.t 14)),
 oo 16 (.load none (.t 15)),
 oo 17 (.nilck (.t 16)),
 oo 18 (.faddr 2 (.t 17)),
 oo 19 (.load none (.t 18)),
 oo 20 (.len .slice (.t 19)),
 oo 21 (.bin .int .add (.t 12) (.t 20)),
 mv 22 1,
 oo 23 (.bin .int .add (.t 21) (.t 22)),
 oo 24 (.bin .int .sub (.t 23) (.c (.int .i64 1))),
 mv 4 24])
 .ret))
theorem in116 {args : List AV} {σ : Store} {K : AV → Store → Prop} (hargs : args.length ≤ 25 := by simp) (h : AWP Try.prog Try.f116.ntmps c116 (fun e t s => match e with | .exit _ => False | _ => Res [.slot 4] K t s) (env (argList 0 args)) σ) : ACalls Try.prog 116 args σ K :=
  enter (own := []) Try.func116 (by kernel_rfl) (by kernel_rfl) (by kernel_rfl) hargs h
/-- (*changeling/code.builder).cases -/
def c152 : ACode :=
(.seq
 (.reg [oo 6 (.new 54 (.t 1))])
 (.seq
 (.reg [mv 16 0,
 oo 17 (.faddr 5 (.t 6)),
 oo 18 (.load none (.t 17)),
 oo 19 (.iaddr 9 (.t 18) (.c (.int .i64 0))),
 oo 20 (.load (some 9) (.t 19)),
 mv 21 2,
 mv 22 3,
 oo 23 (.call 106 [(.t 16), (.t 20), (.t 21), (.t 22), (.c (.bool false))])])
 (.seq
 (.reg [mv 24 0,
 oo 25 (.call 67 [(.t 24), (.c (.int .i64 13)), (.c (.int .i64 (-1)))]),
 mv 10 25])
 (.seq
 (.reg [oo 11 (.move (.c .nils))])
 (.seq
 (.seq
 (.reg [oo 26 (.faddr 6 (.t 6)),
 oo 27 (.load none (.t 26)),
 oo 28 (.len .slice (.t 27)),
 oo 29 (.move (.c (.int .i64 0)))])
 (.block 0
 (.loop
 (.seq
 (.reg [oo 30 (.bin .int .lss (.t 29) (.t 28))])
 (.seq
 (.cond (.t 30)
 .skip
 (.exit 0))
 (.seq
 (.block 1
 (.seq
 (.reg [oo 31 (.iaddr 13 (.t 27) (.t 29)),
 oo 32 (.load (some 13) (.t 31)),
 oo 13 (.new 113 (.c (.agg [(.int .i64 0), (.str ⟨#[]⟩), (.int .i64 0), .nils, (.int .i64 0), (.str ⟨#[]⟩), (.int .i64 0), (.int .i64 0), .nils, .nils, .nils, .nils, .nils]))),
 ⟨none, .store 13 (.t 13) (.t 32), none⟩])
 (.seq
 (.reg [mv 33 0,
 oo 34 (.nilck (.t 33)),
 oo 35 (.faddr 1 (.t 34)),
 oo 36 (.load none (.t 35)),
 oo 37 (.len .slice (.t 36)),
 mv 14 37])
 (.seq
 (.seq
 (.reg [oo 38 (.faddr 0 (.t 13)),
 oo 39 (.load none (.t 38))])
 (.block 2
 (.seq
 (.reg [oo 49 (.bin .int .eql (.t 39) (.c (.int .i64 1))),
 mv 48 49])
 (.cond (.t 48)
 (.draw [] [([⟨(some 50), .move (.t 0), none⟩], []),
 ([⟨(some 51), .nilck (.t 50), none⟩], []),
 ([⟨(some 52), .faddr 1 (.t 51), none⟩], []),
 ([⟨(some 53), .load none (.t 52), none⟩], []),
 ([⟨(some 54), .move (.t 10), none⟩], []),
 ([⟨(some 55), .move (.t 0), none⟩], []),
 ([⟨(some 56), .nilck (.t 55), none⟩], []),
 ([⟨(some 57), .faddr 1 (.t 56), none⟩], []),
 ([⟨(some 58), .load none (.t 57), none⟩], []),
 ([⟨(some 59), .move (.t 10), none⟩], []),
 ([⟨(some 60), .iaddr 4 (.t 58) (.t 59), none⟩], []),
 ([⟨(some 61), .faddr 3 (.t 60), none⟩], []),
 ([⟨(some 62), .load none (.t 61), none⟩], []),
 ([⟨(some 63), .move (.t 0), none⟩], []),
 ([⟨(some 64), .nilck (.t 63), none⟩], []),
 ([⟨(some 65), .faddr 0 (.t 64), none⟩], []),
 ([⟨(some 66), .load none (.t 65), none⟩], []),
 ([⟨(some 67), .nilck (.t 66), none⟩], []),
 ([⟨(some 68), .faddr 1 (.t 67), none⟩], []),
 ([⟨(some 69), .load none (.t 68), none⟩], []),
 ([⟨(some 70), .faddr 1 (.t 13), none⟩], []),
 ([⟨(some 71), .load none (.t 70), none⟩], []),
 ([⟨(some 72), .lookup .str (.int .i64 0) false (.t 69) (.t 71), none⟩], []),
 ([⟨(some 73), .move (.t 14), none⟩], []),
 ([⟨(some 74), .build [(.int .i64 0), (.int .i64 0)] [(0, 1, (.t 72)), (1, 1, (.t 73))], none⟩], []),
 ([⟨(some 75), .lit false 151 2 [(.t 74)], none⟩], []),
 ([⟨(some 76), .append 151 2 16 (.t 62) (.t 75), none⟩], [⟨(some 52), .faddr 1 (.t 51), none⟩, ⟨(some 53), .load none (.t 52), none⟩]),
 ([⟨(some 77), .iaddr 4 (.t 53) (.t 54), none⟩], []),
 ([⟨(some 78), .faddr 3 (.t 77), none⟩], []),
 ([⟨none, .store 1 (.t 78) (.t 76), none⟩], [])])
 (.seq
 (.reg [oo 80 (.bin .int .eql (.t 39) (.c (.int .i64 2))),
 mv 79 80])
 (.cond (.t 79)
 (.draw [] [([⟨(some 81), .move (.t 0), none⟩], []),
 ([⟨(some 82), .nilck (.t 81), none⟩], []),
 ([⟨(some 83), .faddr 1 (.t 82), none⟩], []),
 ([⟨(some 84), .load none (.t 83), none⟩], []),
 ([⟨(some 85), .move (.t 10), none⟩], []),
 ([⟨(some 86), .move (.t 0), none⟩], []),
 ([⟨(some 87), .nilck (.t 86), none⟩], []),
 ([⟨(some 88), .faddr 1 (.t 87), none⟩], []),
 ([⟨(some 89), .load none (.t 88), none⟩], []),
 ([⟨(some 90), .move (.t 10), none⟩], []),
 ([⟨(some 91), .iaddr 4 (.t 89) (.t 90), none⟩], []),
 ([⟨(some 92), .faddr 3 (.t 91), none⟩], []),
 ([⟨(some 93), .load none (.t 92), none⟩], []),
 ([⟨(some 94), .faddr 2 (.t 13), none⟩], []),
 ([⟨(some 95), .load none (.t 94), none⟩], []),
 ([⟨(some 96), .move (.t 14), none⟩], []),
 ([⟨(some 97), .build [(.int .i64 0), (.int .i64 0)] [(0, 1, (.t 95)), (1, 1, (.t 96))], none⟩], []),
 ([⟨(some 98), .lit false 151 2 [(.t 97)], none⟩], []),
 ([⟨(some 99), .append 151 2 16 (.t 93) (.t 98), none⟩], [⟨(some 83), .faddr 1 (.t 82), none⟩, ⟨(some 84), .load none (.t 83), none⟩]),
 ([⟨(some 100), .iaddr 4 (.t 84) (.t 85), none⟩], []),
 ([⟨(some 101), .faddr 3 (.t 100), none⟩], []),
 ([⟨none, .store 1 (.t 101) (.t 99), none⟩], [])])
 (.reg [mv 40 0,
 oo 41 (.nilck (.t 40)),
 oo 42 (.faddr 1 (.t 41)),
 oo 43 (.load none (.t 42)),
 mv 44 10,
 mv 45 14,
 oo 46 (.iaddr 4 (.t 43) (.t 44)),
 oo 47 (.faddr 1 (.t 46)),
 ⟨none, .store 1 (.t 47) (.t 45), none⟩])))))))
 (.seq
 (.reg [oo 102 (.faddr 3 (.t 13)),
 oo 103 (.load none (.t 102)),
 oo 104 (.len .slice (.t 103)),
 mv 15 104])
 (.seq
 (.seq
 (.reg [oo 105 (.faddr 0 (.t 13)),
 oo 106 (.load none (.t 105)),
 oo 107 (.bin .int .eql (.t 106) (.c (.int .i64 1)))])
 (.cond (.t 107)
 (.reg [mv 108 0,
 mv 109 15,
 oo 110 (.call 67 [(.t 108), (.c (.int .i64 12)), (.t 109)])])
 (.reg [mv 111 0,
 oo 112 (.call 67 [(.t 111), (.c (.int .i64 6)), (.c (.int .i64 1))])])))
 (.seq
 (.draw [] [([⟨(some 113), .move (.t 0), none⟩], []),
 ([⟨(some 114), .faddr 4 (.t 13), none⟩], []),
 ([⟨(some 115), .load (some 9) (.t 114), none⟩], []),
 ([⟨(some 116), .move (.t 2), none⟩], []),
 ([⟨(some 117), .faddr 3 (.t 13), none⟩], []),
 ([⟨(some 118), .load none (.t 117), none⟩], []),
 ([⟨(some 119), .move (.t 3), none⟩], []),
 ([⟨(some 120), .move (.t 15), none⟩], []),
 ([⟨(some 121), .bin .int .add (.t 119) (.t 120), none⟩], []),
 ([⟨(some 122), .bin .int .sub (.t 121) (.c (.int .i64 1)), none⟩], []),
 ([⟨(some 124), .move (.t 3), none⟩], []),
 ([⟨(some 125), .move (.t 15), none⟩], []),
 ([⟨(some 126), .bin .int .add (.t 124) (.t 125), none⟩], []),
 ([⟨(some 127), .move (.t 4), none⟩], []),
 ([⟨(some 123), .call 107 [(.t 116), (.t 118), (.t 122), (.c (.int .i64 (-1)))], none⟩], [⟨(some 114), .faddr 4 (.t 13), none⟩, ⟨(some 115), .load (some 9) (.t 114), none⟩]),
 ([⟨(some 128), .call 106 [(.t 113), (.t 115), (.t 123), (.t 126), (.t 127)], none⟩], [])])
 (.seq
 (.seq
 (.reg [oo 129 (.faddr 0 (.t 13)),
 oo 130 (.load none (.t 129)),
 oo 131 (.bin .int .eql (.t 130) (.c (.int .i64 1))),
 mv 132 131,
 og 133 132 true (.move (.t 4)),
 og 134 132 true (.not (.t 133)),
 oo 135 (.pick (.t 132) (.t 134) (.c (.bool false)))])
 (.cond (.t 135)
 (.reg [mv 136 0,
 mv 137 15,
 oo 138 (.call 67 [(.t 136), (.c (.int .i64 7)), (.t 137)])])
 .skip))
 (.reg [mv 139 0,
 mv 140 11,
 mv 141 4,
 oo 142 (.call 167 [(.t 139), (.t 140), (.t 141)]),
 mv 11 142])))))))))
 (.reg [oo 143 (.bin .int .add (.t 29) (.c (.int .i64 1))),
 mv 29 143])))))))
 (.reg [mv 144 0,
 mv 145 11,
 oo 146 (.call 168 [(.t 144), (.t 145)])]))))))
theorem in152 {args : List AV} {σ : Store} {K : AV → Store → Prop} (hargs : args.length ≤ 147 := by simp) (h : AWP Try.prog Try.f152.ntmps c152 (fun e t s => match e with | .exit _ => False | _ => Res [] K t s) (env (argList 0 args)) σ) : ACalls Try.prog 152 args σ K :=
  enter (own := []) Try.func152 (by kernel_rfl) (by kernel_rfl) (by kernel_rfl) hargs h
/-- (*changeling/code.builder).leave -/
def c167 : ACode :=
(.seq
 (.reg [oo 6 (.move (.c .nils))])
 (.seq
 (.seq
 (.reg [mv 7 2])
 (.cond (.t 7)
 (.seq
 (.reg [mv 8 1,
 mv 6 8])
 .ret)
 .skip))
 (.seq
 (.reg [mv 9 1,
 mv 10 0,
 oo 11 (.call 67 [(.t 10), (.c (.int .i64 15)), (.c (.int .i64 0))]),
 oo 12 (.lit false 3 1 [(.t 11)]),
 oo 13 (.append 3 1 8 (.t 9) (.t 12)),
 mv 6 13])
 .ret)))
theorem in167 {args : List AV} {σ : Store} {K : AV → Store → Prop} (hargs : args.length ≤ 14 := by simp) (h : AWP Try.prog Try.f167.ntmps c167 (fun e t s => match e with | .exit _ => False | _ => Res [.slot 6] K t s) (env (argList 0 args)) σ) : ACalls Try.prog 167 args σ K :=
  enter (own := []) Try.func167 (by kernel_rfl) (by kernel_rfl) (by kernel_rfl) hargs h
/-- (*changeling/code.builder).land -/
def c168 : ACode :=
(.seq
 (.reg [mv 6 1,
 oo 7 (.len .slice (.t 6)),
 oo 8 (.move (.c (.int .i64 0)))])
 (.block 0
 (.loop
 (.seq
 (.reg [oo 9 (.bin .int .lss (.t 8) (.t 7))])
 (.seq
 (.cond (.t 9)
 .skip
 (.exit 0))
 (.seq
 (.block 1
 (.seq
 (.reg [oo 10 (.iaddr 1 (.t 6) (.t 8)),
 oo 11 (.load none (.t 10)),
 mv 5 11])
 (.reg [mv 12 0,
 oo 13 (.nilck (.t 12)),
 oo 14 (.faddr 1 (.t 13)),
 oo 15 (.load none (.t 14)),
 mv 16 5,
 mv 17 0,
 oo 18 (.nilck (.t 17)),
 oo 19 (.faddr 1 (.t 18)),
 oo 20 (.load none (.t 19)),
 oo 21 (.len .slice (.t 20)),
 oo 22 (.iaddr 4 (.t 15) (.t 16)),
 oo 23 (.faddr 1 (.t 22)),
 ⟨none, .store 1 (.t 23) (.t 21), none⟩])))
 (.reg [oo 24 (.bin .int .add (.t 8) (.c (.int .i64 1))),
 mv 8 24])))))))
theorem in168 {args : List AV} {σ : Store} {K : AV → Store → Prop} (hargs : args.length ≤ 25 := by simp) (h : AWP Try.prog Try.f168.ntmps c168 (fun e t s => match e with | .exit _ => False | _ => Res [] K t s) (env (argList 0 args)) σ) : ACalls Try.prog 168 args σ K :=
  enter (own := []) Try.func168 (by kernel_rfl) (by kernel_rfl) (by kernel_rfl) hargs h
/-- (*changeling/code.builder).pick -/
def c153 : ACode :=
(.seq
 (.reg [oo 6 (.new 54 (.t 1))])
 (.seq
 (.reg [mv 14 0,
 oo 15 (.call 67 [(.t 14), (.c (.int .i64 14)), (.c (.int .i64 0))]),
 mv 10 15])
 (.seq
 (.reg [mv 16 0,
 oo 17 (.nilck (.t 16)),
 oo 18 (.faddr 1 (.t 17)),
 oo 19 (.load none (.t 18)),
 mv 20 10,
 mv 21 0,
 oo 22 (.nilck (.t 21)),
 oo 23 (.faddr 1 (.t 22)),
 oo 24 (.load none (.t 23)),
 oo 25 (.len .slice (.t 24)),
 oo 26 (.iaddr 4 (.t 19) (.t 20)),
 oo 27 (.faddr 1 (.t 26)),
 ⟨none, .store 1 (.t 27) (.t 25), none⟩])
 (.seq
 (.reg [oo 11 (.move (.c .nils))])
 (.seq
 (.reg [mv 28 0,
 oo 29 (.faddr 5 (.t 6)),
 oo 30 (.load none (.t 29)),
 oo 31 (.iaddr 9 (.t 30) (.c (.int .i64 0))),
 oo 32 (.load (some 9) (.t 31)),
 mv 33 2,
 mv 34 3,
 mv 35 4,
 oo 36 (.call 106 [(.t 28), (.t 32), (.t 33), (.t 34), (.t 35)])])
 (.seq
 (.reg [mv 37 0,
 mv 38 11,
 mv 39 4,
 oo 40 (.call 167 [(.t 37), (.t 38), (.t 39)]),
 mv 11 40])
 (.seq
 (.seq
 (.reg [oo 41 (.faddr 8 (.t 6)),
 oo 42 (.load none (.t 41)),
 oo 43 (.len .slice (.t 42)),
 oo 44 (.move (.c (.int .i64 0)))])
 (.block 0
 (.loop
 (.seq
 (.reg [oo 45 (.bin .int .lss (.t 44) (.t 43))])
 (.seq
 (.cond (.t 45)
 .skip
 (.exit 0))
 (.seq
 (.block 1
 (.seq
 (.reg [oo 46 (.iaddr 10 (.t 42) (.t 44)),
 oo 47 (.load (some 10) (.t 46)),
 oo 13 (.new 116 (.c (.agg [(.int .i64 0), (.int .i64 0), (.str ⟨#[]⟩), (.int .i64 0), (.int .i64 0), .nils, .nils, .nils, .nils, .nils]))),
 ⟨none, .store 10 (.t 13) (.t 47), none⟩])
 (.seq
 (.draw [] [([⟨(some 48), .move (.t 0), none⟩], []),
 ([⟨(some 49), .nilck (.t 48), none⟩], []),
 ([⟨(some 50), .faddr 1 (.t 49), none⟩], []),
 ([⟨(some 51), .load none (.t 50), none⟩], []),
 ([⟨(some 52), .move (.t 10), none⟩], []),
 ([⟨(some 53), .move (.t 0), none⟩], []),
 ([⟨(some 54), .nilck (.t 53), none⟩], []),
 ([⟨(some 55), .faddr 1 (.t 54), none⟩], []),
 ([⟨(some 56), .load none (.t 55), none⟩], []),
 ([⟨(some 57), .move (.t 10), none⟩], []),
 ([⟨(some 58), .iaddr 4 (.t 56) (.t 57), none⟩], []),
 ([⟨(some 59), .faddr 3 (.t 58), none⟩], []),
 ([⟨(some 60), .load none (.t 59), none⟩], []),
 ([⟨(some 61), .faddr 0 (.t 13), none⟩], []),
 ([⟨(some 62), .load none (.t 61), none⟩], []),
 ([⟨(some 63), .move (.t 0), none⟩], []),
 ([⟨(some 64), .nilck (.t 63), none⟩], []),
 ([⟨(some 65), .faddr 1 (.t 64), none⟩], []),
 ([⟨(some 66), .load none (.t 65), none⟩], []),
 ([⟨(some 67), .len .slice (.t 66), none⟩], []),
 ([⟨(some 68), .build [(.int .i64 0), (.int .i64 0)] [(0, 1, (.t 62)), (1, 1, (.t 67))], none⟩], []),
 ([⟨(some 69), .lit false 151 2 [(.t 68)], none⟩], []),
 ([⟨(some 70), .append 151 2 16 (.t 60) (.t 69), none⟩], [⟨(some 50), .faddr 1 (.t 49), none⟩, ⟨(some 51), .load none (.t 50), none⟩]),
 ([⟨(some 71), .iaddr 4 (.t 51) (.t 52), none⟩], []),
 ([⟨(some 72), .faddr 3 (.t 71), none⟩], []),
 ([⟨none, .store 1 (.t 72) (.t 70), none⟩], [])])
 (.seq
 (.reg [mv 73 0,
 oo 74 (.faddr 1 (.t 13)),
 oo 75 (.load (some 9) (.t 74)),
 mv 76 2,
 mv 77 3,
 mv 78 4,
 oo 79 (.call 106 [(.t 73), (.t 75), (.t 76), (.t 77), (.t 78)])])
 (.reg [mv 80 0,
 mv 81 11,
 mv 82 4,
 oo 83 (.call 167 [(.t 80), (.t 81), (.t 82)]),
 mv 11 83])))))
 (.reg [oo 84 (.bin .int .add (.t 44) (.c (.int .i64 1))),
 mv 44 84])))))))
 (.reg [mv 85 0,
 mv 86 11,
 oo 87 (.call 168 [(.t 85), (.t 86)])]))))))))
theorem in153 {args : List AV} {σ : Store} {K : AV → Store → Prop} (hargs : args.length ≤ 88 := by simp) (h : AWP Try.prog Try.f153.ntmps c153 (fun e t s => match e with | .exit _ => False | _ => Res [] K t s) (env (argList 0 args)) σ) : ACalls Try.prog 153 args σ K :=
  enter (own := []) Try.func153 (by kernel_rfl) (by kernel_rfl) (by kernel_rfl) hargs h
/-- (*changeling/code.builder).end -/
def c108 : ACode :=
(.seq
 (.reg [mv 4 0,
 mv 5 1,
 oo 6 (.call 67 [(.t 4), (.c (.int .i64 5)), (.t 5)])])
 (.seq
 (.reg [mv 7 0,
 mv 8 1,
 oo 9 (.call 67 [(.t 7), (.c (.int .i64 6)), (.t 8)])])
 (.reg [mv 10 0,
 oo 11 (.call 67 [(.t 10), (.c (.int .i64 10)), (.c (.int .i64 0))])])))
theorem in108 {args : List AV} {σ : Store} {K : AV → Store → Prop} (hargs : args.length ≤ 12 := by simp) (h : AWP Try.prog Try.f108.ntmps c108 (fun e t s => match e with | .exit _ => False | _ => Res [] K t s) (env (argList 0 args)) σ) : ACalls Try.prog 108 args σ K :=
  enter (own := []) Try.func108 (by kernel_rfl) (by kernel_rfl) (by kernel_rfl) hargs h
/-- (*changeling/code.table).con -/
def c58 : ACode :=
(.seq
 (.reg [oo 6 (.new 81 (.c (.agg [(.str ⟨#[]⟩), (.int .i64 0), (.bool false), .nils])))])
 (.seq
 (.reg [mv 8 0,
 oo 9 (.build [.nilp, .nils] [(0, 1, (.t 8))]),
 oo 10 (.new 157 (.t 9)),
 mv 7 10])
 (.seq
 (.reg [mv 11 7,
 mv 12 7,
 oo 13 (.nilck (.t 12)),
 oo 14 (.faddr 1 (.t 13)),
 oo 15 (.load none (.t 14)),
 mv 16 0,
 oo 17 (.nilck (.t 16)),
 oo 18 (.faddr 2 (.t 17)),
 oo 19 (.load none (.t 18)),
 mv 20 1,
 oo 21 (.iaddr 1 (.t 19) (.t 20)),
 oo 22 (.load none (.t 21)),
 mv 23 1,
 oo 24 (.build [(.int .i64 0), (.int .i64 0), (.int .i64 0), .nils] [(0, 1, (.c (.int .i64 11))), (1, 1, (.t 22)), (2, 1, (.t 23))]),
 oo 25 (.lit false 139 4 [(.t 24)]),
 oo 26 (.append 139 4 48 (.t 15) (.t 25)),
 oo 27 (.nilck (.t 11)),
 oo 28 (.faddr 1 (.t 27)),
 ⟨none, .store 1 (.t 28) (.t 26), none⟩])
 (.seq
 (.reg [mv 29 7,
 oo 30 (.call 108 [(.t 29), (.c (.int .i64 0))])])
 (.seq
 (.reg [mv 31 2,
 mv 32 0,
 oo 33 (.nilck (.t 32)),
 oo 34 (.faddr 2 (.t 33)),
 oo 35 (.load none (.t 34)),
 mv 36 1,
 oo 37 (.iaddr 1 (.t 35) (.t 36)),
 oo 38 (.load none (.t 37)),
 mv 39 7,
 oo 40 (.nilck (.t 39)),
 oo 41 (.faddr 1 (.t 40)),
 oo 42 (.load none (.t 41)),
 oo 43 (.build [(.str ⟨#[]⟩), (.int .i64 0), (.bool false), .nils] [(0, 1, (.t 31)), (1, 1, (.t 38)), (2, 1, (.c (.bool true))), (3, 1, (.t 42))]),
 ⟨none, .store 4 (.t 6) (.t 43), none⟩])
 .ret)))))
theorem in58 {args : List AV} {σ : Store} {K : AV → Store → Prop} (hargs : args.length ≤ 44 := by simp) (h : AWP Try.prog Try.f58.ntmps c58 (fun e t s => match e with | .exit _ => False | _ => Res [.cell 6 (some 4)] K t s) (env (argList 0 args)) σ) : ACalls Try.prog 58 args σ K :=
  enter (own := []) Try.func58 (by kernel_rfl) (by kernel_rfl) (by kernel_rfl) hargs h
/-- (*changeling/code.table).op -/
def c59 : ACode :=
(.seq
 (.reg [oo 4 (.new 81 (.c (.agg [(.str ⟨#[]⟩), (.int .i64 0), (.bool false), .nils])))])
 (.seq
 (.reg [mv 6 0,
 oo 7 (.build [.nilp, .nils] [(0, 1, (.t 6))]),
 oo 8 (.new 157 (.t 7)),
 mv 5 8])
 (.seq
 (.reg [mv 9 5,
 oo 10 (.call 67 [(.t 9), (.c (.int .i64 1)), (.c (.int .i64 0))])])
 (.seq
 (.reg [mv 11 5,
 oo 12 (.call 67 [(.t 11), (.c (.int .i64 9)), (.c (.int .i64 0))])])
 (.seq
 (.reg [mv 13 5,
 oo 14 (.call 67 [(.t 13), (.c (.int .i64 1)), (.c (.int .i64 2))])])
 (.seq
 (.reg [mv 15 5,
 oo 16 (.call 67 [(.t 15), (.c (.int .i64 9)), (.c (.int .i64 0))])])
 (.seq
 (.reg [mv 17 5,
 mv 18 1,
 oo 19 (.call 109 [(.t 17), (.c (.int .i64 16)), (.t 18)])])
 (.seq
 (.reg [mv 20 5,
 oo 21 (.call 108 [(.t 20), (.c (.int .i64 2))])])
 (.seq
 (.draw [] [([⟨(some 22), .move (.t 1), none⟩], []),
 ([⟨(some 24), .move (.t 5), none⟩], []),
 ([⟨(some 25), .nilck (.t 24), none⟩], []),
 ([⟨(some 26), .faddr 1 (.t 25), none⟩], []),
 ([⟨(some 27), .load none (.t 26), none⟩], []),
 ([⟨(some 23), .call 110 [(.t 22)], none⟩], [⟨(some 26), .faddr 1 (.t 25), none⟩, ⟨(some 27), .load none (.t 26), none⟩]),
 ([⟨(some 28), .build [(.str ⟨#[]⟩), (.int .i64 0), (.bool false), .nils] [(0, 1, (.t 23)), (1, 1, (.c (.int .i64 2))), (3, 1, (.t 27))], none⟩], []),
 ([⟨none, .store 4 (.t 4) (.t 28), none⟩], [])])
 .ret)))))))))
theorem in59 {args : List AV} {σ : Store} {K : AV → Store → Prop} (hargs : args.length ≤ 29 := by simp) (h : AWP Try.prog Try.f59.ntmps c59 (fun e t s => match e with | .exit _ => False | _ => Res [.cell 4 (some 4)] K t s) (env (argList 0 args)) σ) : ACalls Try.prog 59 args σ K :=
  enter (own := []) Try.func59 (by kernel_rfl) (by kernel_rfl) (by kernel_rfl) hargs h
/-- changeling/changelinglaw17.CodeSound -/
def c6 : ACode :=
(.seq
 (.reg [⟨(some 4), .move (.c (.bool false)), none⟩])
 (.seq
  (.seq
   (.reg [⟨(some 8), .move (.t 0), none⟩,
     ⟨(some 9), .call 25 [(.t 8)], none⟩,
     ⟨(some 10), .not (.t 9), none⟩,
     ⟨(some 11), .move (.t 10), none⟩,
     ⟨(some 12), .move (.t 1), some (11, false)⟩,
     ⟨(some 13), .len .slice (.t 12), some (11, false)⟩,
     ⟨(some 14), .bin .int .gtr (.t 13) (.c (.int .i64 100)), some (11, false)⟩,
     ⟨(some 15), .pick (.t 11) (.c (.bool true)) (.t 14), none⟩])
   (.cond (.t 15)
    (.seq
     (.reg [⟨(some 16), .call 26 [], none⟩,
       ⟨(some 4), .move (.t 16), none⟩])
     .ret)
    .skip))
  (.seq
   (.reg [⟨(some 18), .move (.t 0), none⟩,
     ⟨(some 19), .move (.t 1), none⟩,
     ⟨(some 20), .call 27 [(.t 18), (.t 19)], none⟩,
     ⟨(some 17), .move (.t 20), none⟩,
     ⟨(some 21), .extract (.t 17) 0, none⟩,
     ⟨(some 22), .extract (.t 17) 1, none⟩,
     ⟨(some 5), .move (.t 21), none⟩,
     ⟨(some 6), .move (.t 22), none⟩])
   (.seq
    (.seq
     (.reg [⟨(some 23), .move (.t 6), none⟩,
       ⟨(some 24), .bin .int .neq (.t 23) (.c (.int .i64 0)), none⟩])
     (.cond (.t 24)
      (.seq
       (.reg [⟨(some 25), .move (.t 5), none⟩,
         ⟨(some 26), .len .slice (.t 25), none⟩,
         ⟨(some 27), .bin .int .eql (.t 26) (.c (.int .i64 0)), none⟩,
         ⟨(some 28), .move (.t 27), none⟩,
         ⟨(some 29), .call 26 [], some (28, true)⟩,
         ⟨(some 30), .pick (.t 28) (.t 29) (.c (.bool false)), none⟩,
         ⟨(some 4), .move (.t 30), none⟩])
       .ret)
      .skip))
    (.seq
     (.seq
      (.reg [⟨(some 7), .move (.c (.int .i64 0)), none⟩])
      (.block 0
       (.loop
        (.seq
         (.seq
          (.reg [⟨(some 31), .move (.t 7), none⟩,
            ⟨(some 32), .move (.t 5), none⟩,
            ⟨(some 33), .len .slice (.t 32), none⟩,
            ⟨(some 34), .bin .int .lss (.t 31) (.t 33), none⟩])
          (.cond (.t 34)
           .skip
           (.exit 0)))
         (.seq
          (.block 1
           (.seq
            (.reg [⟨(some 37), .move (.t 5), none⟩,
              ⟨(some 38), .move (.t 7), none⟩,
              ⟨(some 39), .iaddr 4 (.t 37) (.t 38), none⟩,
              ⟨(some 40), .load (some 4) (.t 39), none⟩,
              ⟨(some 41), .call 28 [(.t 40)], none⟩,
              ⟨(some 42), .not (.t 41), none⟩])
            (.cond (.t 42)
             (.seq
              (.reg [⟨(some 4), .move (.c (.bool false)), none⟩])
              .ret)
             .skip)))
          (.reg [⟨(some 35), .move (.t 7), none⟩,
            ⟨(some 36), .bin .int .add (.t 35) (.c (.int .i64 1)), none⟩,
            ⟨(some 7), .move (.t 36), none⟩]))))))
     (.seq
      (.reg [⟨(some 43), .move (.t 5), none⟩,
        ⟨(some 44), .len .slice (.t 43), none⟩,
        ⟨(some 45), .bin .int .gtr (.t 44) (.c (.int .i64 0)), none⟩,
        ⟨(some 46), .move (.t 45), none⟩,
        ⟨(some 47), .call 26 [], some (46, true)⟩,
        ⟨(some 48), .pick (.t 46) (.t 47) (.c (.bool false)), none⟩,
        ⟨(some 4), .move (.t 48), none⟩])
      .ret))))))
end Go.Proofs.Ytjjbjibbjbbeaaa
/- The builder: what it holds; instructions put; levels. -/
set_option linter.unusedVariables false
set_option linter.unusedSimpArgs false
namespace Go.AL
structure BAt (σ : Store) (fid : Nat) (v : AV) (df : AV) (es : List (List AV)) : Prop where
  hd : σ.get fid = some (.cells 157 0 2 [[df, v]])
  sl : SliceAt σ v 139 4 es
  nv : fid ∉ slIds v
/-- The lifter behind a call. -/
def BPost (σ : Store) (fid : Nat) (v : AV) (df : AV) (es : List (List AV)) (s : Store) : Prop :=
  ∃ v', BAt s fid v' df es ∧ σ.next ≤ s.next ∧ (∀ j, j < σ.next → j ≠ fid → j ∉ slIds v → s.get j = σ.get j) ∧ (∀ j, j ∈ slIds v' → j ∈ slIds v ∨ σ.next ≤ j)
@[congr] theorem BPost_congr {w : Prop} (hw : Visit = w) {σ : Store} {fid : Nat} {v : AV} {df : AV} {es : List (List AV)} {s s' : Store} (h : s = s') : BPost σ fid v df es s = BPost σ fid v df es s' := by rw [h]
/-- The lifter amid a function's own variables (those from N on are newer). -/
structure MB (σ s : Store) (N fid : Nat) (v v' : AV) (df : AV) (es : List (List AV)) : Prop where
  la : BAt s fid v' df es
  le : σ.next ≤ N
  next : N ≤ s.next
  keep : ∀ j, j < σ.next → j ≠ fid → j ∉ slIds v → s.get j = σ.get j
  fresh : ∀ j, j ∈ slIds v' → (j ∈ slIds v ∧ j < σ.next) ∨ N ≤ j
  fid : fid < σ.next
theorem MB.start {σ s : Store} {N fid : Nat} {v : AV} {df : AV} {es : List (List AV)} (h : BAt σ fid v df es) (k : Kp σ s) (hN : N = s.next) : MB σ s N fid v v df es :=
  ⟨⟨k.get h.hd, h.sl.keep fun i hi => k.keep i (h.sl.lt hi), h.nv⟩, by have := k.next; omega, by omega, fun j hj _ _ => k.keep j hj, fun j hj => .inl ⟨hj, h.sl.lt hj⟩, σ.lt h.hd⟩
section
variable {σ s s2 : Store} {N fid : Nat} {v v' : AV} {df : AV} {es es2 : List (List AV)}
theorem MB.out (h : MB σ s N fid v v' df es) : BPost σ fid v df es s := ⟨v', h.la, by have := h.le; have := h.next; omega, h.keep, fun j hj => (h.fresh j hj).elim (fun a => .inl a.1) (fun a => .inr (by have := h.le; omega))⟩
theorem MB.push (h : MB σ s N fid v v' df es) (o : AObj) : MB σ (s.push o) N fid v v' df es :=
  ⟨⟨(Kp.pushed s o).get h.la.hd, h.la.sl.keep fun i hi => (Kp.pushed s o).keep i (h.la.sl.lt hi), h.la.nv⟩, h.le, by rw [Store.push_next]; have := h.next; omega, fun j hj h1 h2 => by rw [(Kp.pushed s o).keep j (by have := h.le; have := h.next; omega), h.keep j hj h1 h2], h.fresh, h.fid⟩
theorem MB.chg (h : MB σ s N fid v v' df es) {s2 : Store} {id : Nat} (h1 : σ.next ≤ id) (h2 : id ∉ slIds v') (hn : s2.next = s.next) (hg : ∀ j, j ≠ id → s2.get j = s.get j) : MB σ s2 N fid v v' df es :=
  ⟨⟨by rw [hg _ (by have := h.fid; omega)]; exact h.la.hd, h.la.sl.keep fun i hi => hg i (fun e => h2 (e ▸ hi)), h.la.nv⟩, h.le, by rw [hn]; exact h.next, fun j hj a b => by rw [hg j (by omega), h.keep j hj a b], h.fresh, h.fid⟩
theorem MB.upd (h : MB σ s N fid v v' df es) {id : Nat} (o : AObj) (h1 : σ.next ≤ id) (h2 : id ∉ slIds v') : MB σ (s.upd id o) N fid v v' df es :=
  h.chg h1 h2 rfl fun j hj => Store.get_upd_ne _ _ hj
theorem MB.call (h : MB σ s N fid v v' df es) (k : BPost s fid v' df es2 s2) : ∃ v2, MB σ s2 N fid v v2 df es2 ∧ (∀ j, j < s.next → j ≠ fid → j ∉ slIds v' → s2.get j = s.get j) ∧ (∀ j, j ∈ slIds v2 → j ∈ slIds v' ∨ s.next ≤ j) ∧ s.next ≤ s2.next := by
  obtain ⟨v2, hl, hn, hk, hf⟩ := k
  refine ⟨v2, ⟨hl, h.le, by have := h.next; omega, fun j hj a b => ?_, fun j hj => ?_, h.fid⟩, hk, hf, hn⟩
  · rw [hk j (by have := h.le; have := h.next; omega) a (fun hm => (h.fresh j hm).elim (fun q => b q.1) (fun q => by have := h.le; omega)), h.keep j hj a b]
  · rcases hf j hj with q | q
    · exact h.fresh j q
    · exact .inr (by have := h.next; omega)
/-- An own variable is none of the lifter's. -/
theorem MB.loc (h : MB σ s N fid v v' df es) {j : Nat} (h1 : σ.next ≤ j) (h2 : j < N) : j ∉ slIds v' := fun hm => (h.fresh j hm).elim (fun q => by omega) (fun q => by omega)
/-- A slice that is built beside. -/
structure BesB (s : Store) (N : Nat) (v' u : AV) (ty sz : Nat) (us : List (List AV)) : Prop where
  sl : SliceAt s u ty sz us
  new : ∀ j, j ∈ slIds u → N ≤ j
  dj : ∀ j, j ∈ slIds u → j ∉ slIds v'
theorem BesB.start (s : Store) (N : Nat) (v' : AV) (ty sz : Nat) : BesB s N v' .nils ty sz [] := ⟨.nil _ _ _, by simp [slIds], by simp [slIds]⟩
theorem BesB.call {u : AV} {ty sz : Nat} {us : List (List AV)} (hB : BesB s N v' u ty sz us) {v2 : AV} (hf : N > fid) (hk : ∀ j, j < s.next → j ≠ fid → j ∉ slIds v' → s2.get j = s.get j) (hfr : ∀ j, j ∈ slIds v2 → j ∈ slIds v' ∨ s.next ≤ j) : BesB s2 N v2 u ty sz us :=
  ⟨hB.sl.keep fun j hj => hk j (hB.sl.lt hj) (by have := hB.new j hj; omega) (hB.dj j hj), hB.new, fun j hj hm => (hfr j hm).elim (hB.dj j hj) (fun q => by have := hB.sl.lt hj; omega)⟩
theorem BesB.push {u : AV} {ty sz : Nat} {us : List (List AV)} (hB : BesB s N v' u ty sz us) (o : AObj) : BesB (s.push o) N v' u ty sz us :=
  ⟨hB.sl.keep fun j hj => (Kp.pushed s o).keep j (hB.sl.lt hj), hB.new, hB.dj⟩
theorem BesB.upd {u : AV} {ty sz : Nat} {us : List (List AV)} (hB : BesB s N v' u ty sz us) {id : Nat} (o : AObj) (h : id ∉ slIds u) : BesB (s.upd id o) N v' u ty sz us :=
  ⟨hB.sl.keep fun j hj => Store.get_upd_ne _ _ (fun e => h (e ▸ hj)), hB.new, hB.dj⟩
end
section
variable {σ s s2 : Store} {N fid : Nat} {v v' : AV} {df : AV} {es es2 : List (List AV)}
theorem ok_mbapp {K : AV → Store → Prop} (h : MB σ s N fid v v' df es) (q : List AV) (hq : q.length = 4) (hm : es.length + 1 ≤ 100000000)
    (hk : ∀ v1 s', s'.get fid = some (.cells 157 0 2 [[df, v']]) → s.next ≤ s'.next → (∀ j, j < s.next → j ∉ slIds v' → s'.get j = s.get j) → v1.cellsOf = some [v1] →
      MB σ (s'.upd fid (.cells 157 0 2 [[df, v1]])) N fid v v1 df (es ++ [q]) → K v1 s') : ok (eApp 139 4 48 v' (some [q]) s) K := by
  refine ok_app h.la.sl (by simpa using hq) (by simp; omega) (by simp [maxLen]; omega) fun v1 s' h3 h4 => ?_
  have hlt := s.lt h.la.hd
  have hd : s'.get fid = some (.cells 157 0 2 [[df, v']]) := by rw [h4.keep _ hlt h.la.nv]; exact h.la.hd
  have hnv : fid ∉ slIds v1 := fun hm => (h4.fresh _ hm).elim h.la.nv (fun q => by omega)
  have hu : ∀ j, j ≠ fid → (s'.upd fid (.cells 157 0 2 [[df, v1]])).get j = s'.get j := fun j hj => Store.get_upd_ne _ _ hj
  refine hk v1 s' hd h4.next h4.keep h3.co ⟨⟨Store.get_upd_self _ _ (s'.lt hd), h3.keep fun j hj => hu j (fun e => hnv (e ▸ hj)), hnv⟩, h.le, by rw [Store.upd_next]; have := h.next; have := h4.next; omega, fun j hj a b => ?_, fun j hj => ?_, h.fid⟩
  · rw [hu j a, h4.keep j (by have := h.le; have := h.next; omega) (fun hm => (h.fresh j hm).elim (fun q => b q.1) (fun q => by have := h.le; omega)), h.keep j hj a b]
  · rcases h4.fresh j hj with q | q
    · exact h.fresh j q
    · exact .inr (by have := h.next; omega)
end
def rawC (i : Ins) : List AV := [.int .i64 i.op, .int .i64 i.k, .int .i64 i.n, if i.js = [] then .nils else .list (i.js.map jC)]
theorem rawC_len (i : Ins) : (rawC i).length = 4 := rfl
/-- The table of the globals; its objects are all below T. -/
structure TAt (σ : Store) (T tid : Nat) (g : Gl) : Prop where
  ex : ∃ sm cm fv sme cme, σ.get tid = some (.cells 223 0 3 [[.map sm, .map cm, fv]]) ∧ σ.get sm = some (.map sme) ∧ σ.get cm = some (.map cme) ∧ sme.length = g.sup.length ∧
    (∀ k, (idx g.sup k = none ∧ aFind .str (.str k) sme 0 = some none) ∨ ∃ i j, idx g.sup k = some i ∧ aFind .str (.str k) sme 0 = some (some (j, .int .i64 (i : Int)))) ∧
    (∀ k, (idx (g.con.map (·.1)) k = none ∧ aFind .str (.str k) cme 0 = some none) ∨ ∃ i j, idx (g.con.map (·.1)) k = some i ∧ aFind .str (.str k) cme 0 = some (some (j, .int .i64 (i : Int)))) ∧
    SliceAt σ fv 3 1 (g.con.map fun c => [.int .i64 (c.2 : Int)]) ∧ tid < T ∧ sm < T ∧ cm < T ∧ ∀ j, j ∈ slIds fv → j < T
  small : g.sup.length + g.con.length ≤ 1000000000
theorem TAt.keep {σ s : Store} {T tid : Nat} {g : Gl} (h : TAt σ T tid g) (k : ∀ j, j < T → s.get j = σ.get j) : TAt s T tid g := by
  obtain ⟨⟨sm, cm, fv, sme, cme, h1, h2, h3, h4, h5, h6, h7, h8, h9, h10, h11⟩, hs⟩ := h
  exact ⟨⟨sm, cm, fv, sme, cme, by rw [k _ h8]; exact h1, by rw [k _ h9]; exact h2, by rw [k _ h10]; exact h3, h4, h5, h6, h7.keep fun i hi => k i (h11 i hi), h8, h9, h10, h11⟩, hs⟩
/-- The builder stands above the table. -/
structure Ab (σ : Store) (T tid : Nat) (g : Gl) (fid : Nat) (v : AV) : Prop where
  t : TAt σ T tid g
  f : T ≤ fid
  v : ∀ j, j ∈ slIds v → T ≤ j
  n : T ≤ σ.next
theorem Ab.kp {σ s : Store} {T tid fid : Nat} {g : Gl} {v : AV} (h : Ab σ T tid g fid v) (k : Kp σ s) : Ab s T tid g fid v :=
  ⟨h.t.keep fun j hj => k.keep j (by have := h.n; omega), h.f, h.v, by have := h.n; have := k.next; omega⟩
theorem Ab.post {σ s : Store} {T tid fid : Nat} {g : Gl} {v v' : AV} (h : Ab σ T tid g fid v) (hn : σ.next ≤ s.next) (hk : ∀ j, j < σ.next → j ≠ fid → j ∉ slIds v → s.get j = σ.get j) (hf : ∀ j, j ∈ slIds v' → j ∈ slIds v ∨ σ.next ≤ j) : Ab s T tid g fid v' :=
  ⟨h.t.keep fun j hj => hk j (by have := h.n; omega) (by have := h.f; omega) (fun hm => by have := h.v j hm; omega), h.f, fun j hj => (hf j hj).elim (h.v j) (fun q => by have := h.n; omega), by have := h.n; omega⟩
theorem MB.ab {σ s : Store} {N fid : Nat} {v v' : AV} {df : AV} {es : List (List AV)} {T tid : Nat} {g : Gl} (m : MB σ s N fid v v' df es) (h : Ab σ T tid g fid v) : Ab s T tid g fid v' :=
  ⟨h.t.keep fun j hj => m.keep j (by have := h.n; omega) (by have := h.f; omega) (fun hm => by have := h.v j hm; omega), h.f, fun j hj => (m.fresh j hj).elim (fun q => h.v j q.1) (fun q => by have := h.n; have := m.le; omega), by have := h.n; have := m.le; have := m.next; omega⟩
theorem BPost.ab {σ s : Store} {fid : Nat} {v : AV} {df : AV} {es : List (List AV)} {T tid : Nat} {g : Gl} (k : BPost σ fid v df es s) (h : Ab σ T tid g fid v) : ∃ v', BAt s fid v' df es ∧ Ab s T tid g fid v' ∧ BPost σ fid v df es s := by
  have k' := k
  obtain ⟨v', h1, h2, h3, h4⟩ := k
  exact ⟨v', h1, h.post h2 h3 h4, k'⟩
theorem BPost.refl {σ : Store} {fid : Nat} {v : AV} {df : AV} {es : List (List AV)} (h : BAt σ fid v df es) : BPost σ fid v df es σ := ⟨v, h, Nat.le_refl _, fun _ _ _ _ => rfl, fun _ h => .inl h⟩
theorem BPost.trans {σ s u : Store} {fid : Nat} {v : AV} {df : AV} {es es2 : List (List AV)} (h : BPost σ fid v df es s) (k : ∀ v', BAt s fid v' df es → BPost s fid v' df es2 u) : BPost σ fid v df es2 u := by
  obtain ⟨v', h1, h2, h3, h4⟩ := h
  obtain ⟨v2, k1, k2, k3, k4⟩ := k v' h1
  refine ⟨v2, k1, Nat.le_trans h2 k2, fun j hj a b => ?_, fun j hj => ?_⟩
  · rw [k3 j (by omega) a (fun hm => (h4 j hm).elim b (fun q => by omega)), h3 j hj a b]
  · exact (k4 j hj).elim (h4 j) (fun q => .inr (by omega))
theorem nums_app (l m : List ByteArray) : ∀ i fr st, nums i fr st (l ++ m) = nums i fr st l ++ nums (i + l.length) fr st m := by
  induction l with
  | nil => intro i fr st; simp [nums]
  | cons s r ih => intro i fr st; rw [List.cons_append, nums, nums, ih, List.length_cons, List.cons_append, show i + 1 + r.length = i + (r.length + 1) by omega]
theorem nums_one (s : ByteArray) (i : Nat) (fr st : Int) : nums i fr st [s] = [(s, fr + i * st)] := by rw [nums, nums]
end Go.AL
namespace Go.Proofs.Ytjjbjibbjbbeaaa
open Go.AL
theorem put_ok {σ : Store} {fid : Nat} {v df : AV} {es : List (List AV)} (h : BAt σ fid v df es) (he : es.length ≤ 50000000) (op k : Int) :
    ACalls Try.prog 67 [.ptr fid 0 0 0, .int .i64 op, .int .i64 k] σ fun r s => (∃ z : Unit, r = .int .i64 es.length ∧ BPost σ fid v df (es ++ [rawC (ik op k)]) s) := by
  refine in67 (by simp) ?_
  unfold c67
  have M := MB.start h (.refl σ) (N := σ.next) rfl
  refine raw ?_
  repeat (first | (with_reducible refine unr ?_; try simp only [YY, ↓reduceIte, Nat.reduceEqDiff, Nat.reduceAdd, Nat.reduceLeDiff, reduceCtorEq, Int.reduceEq, Int.reduceLT, Int.reduceLE, Int.reduceNeg, Int.reduceAdd, Int.reduceSub, Int.reduceToNat, h.hd]) | (with_reducible refine WW (by decide) ?_))
  refine ok_mbapp M (rawC (ik op k)) rfl (by omega) ?_
  intro v1 s1 hd hn hk hco M1
  have hlen := M1.la.sl.len
  have hlt := s1.lt hd
  have hu := M1.la.hd
  have hw : IntKind.i64.wrap (((es.length + 1 : Nat) : Int) - 1) = (es.length : Int) := by rw [wrap_of (by omega) (by omega)]; omega
  simp only [List.length_append, List.length_cons, List.length_nil, Nat.zero_add] at hlen
  refine raw ?_
  repeat (first | (with_reducible refine unr ?_; try simp only [YY, ↓reduceIte, Nat.reduceEqDiff, Nat.reduceAdd, Nat.reduceLeDiff, reduceCtorEq, Int.reduceEq, Int.reduceLT, Int.reduceLE, Int.reduceNeg, Int.reduceAdd, Int.reduceSub, Int.reduceToNat, hd, hco, hu, hlen, hw]) | (with_reducible refine WW (by decide) ?_))
  exact ⟨(), M1.out⟩
theorem number_ok {σ : Store} {fid : Nat} {v df : AV} {es : List (List AV)} (h : BAt σ fid v df es) (he : es.length ≤ 50000000) (op n : Int) :
    ACalls Try.prog 109 [.ptr fid 0 0 0, .int .i64 op, .int .i64 n] σ fun r s => (∃ z : Unit, r = .tuple [] ∧ BPost σ fid v df (es ++ [rawC ⟨op, 0, n, []⟩]) s) := by
  refine in109 (by simp) ?_
  unfold c109
  have M := MB.start h (.refl σ) (N := σ.next) rfl
  refine raw ?_
  repeat (first | (with_reducible refine unr ?_; try simp only [YY, ↓reduceIte, Nat.reduceEqDiff, Nat.reduceAdd, Nat.reduceLeDiff, reduceCtorEq, Int.reduceEq, Int.reduceLT, Int.reduceLE, Int.reduceNeg, Int.reduceAdd, Int.reduceSub, Int.reduceToNat, h.hd]) | (with_reducible refine WW (by decide) ?_))
  refine ok_mbapp M (rawC ⟨op, 0, n, []⟩) rfl (by omega) ?_
  intro v1 s1 hd hn hk hco M1
  refine raw ?_
  repeat (first | (with_reducible refine unr ?_; try simp only [YY, ↓reduceIte, Nat.reduceEqDiff, Nat.reduceAdd, Nat.reduceLeDiff, reduceCtorEq, Int.reduceEq, Int.reduceLT, Int.reduceLE, Int.reduceNeg, Int.reduceAdd, Int.reduceSub, Int.reduceToNat, hd, hco]) | (with_reducible refine WW (by decide) ?_))
  exact ⟨(), M1.out⟩
theorem with_ok (lv : Lv) (l : List ByteArray) (fr st : Int) (hl : lv.length + l.length ≤ 50000000) (hf : -1000000000 ≤ fr ∧ fr ≤ 1000000000) (hst : st = 1 ∨ st = -1) (σ : Store) :
    ACalls Try.prog 107 [.list (lv.map lvC), strs l, .int .i64 fr, .int .i64 st] σ fun r s => r = .list ((withS lv l fr st).map lvC) ∧ s = σ := by
  refine ACalls_fp (p := fun r => r = .list ((withS lv l fr st).map lvC)) ?_
  refine in107 (by simp) ?_
  unfold c107
  refine raw ?_
  repeat (first | (with_reducible refine unr ?_; try simp only [YY, ↓reduceIte, Nat.reduceEqDiff, Nat.reduceAdd, Nat.reduceLeDiff, reduceCtorEq, Int.reduceEq, Int.reduceLT, Int.reduceLE, Int.reduceNeg, Int.reduceAdd, Int.reduceSub, Int.reduceToNat]) | (with_reducible refine WW (by decide) ?_))
  refine ok_grow (.start σ 255 2) (by intro q hq; obtain ⟨y, _, rfl⟩ := List.mem_map.1 hq; rfl) (by simp; omega) (by simp [maxLen]; omega) ?_
  intro v s1 hG _ _
  refine raw ?_
  repeat (first | (with_reducible refine unr ?_; try simp only [YY, ↓reduceIte, Nat.reduceEqDiff, Nat.reduceAdd, Nat.reduceLeDiff, reduceCtorEq, Int.reduceEq, Int.reduceLT, Int.reduceLE, Int.reduceNeg, Int.reduceAdd, Int.reduceSub, Int.reduceToNat]) | (with_reducible refine WW (by decide) ?_))
  refine AWP_while [2, 3, 9, 15, 16, 17] (fun y : AV × Nat => l.length - y.2) (fun y => [.int .i64 fr, .int .i64 st, y.1, strs l, .int .i64 l.length, .int .i64 y.2])
    (fun y t => y.2 ≤ l.length ∧ Grow σ t y.1 255 2 ((withS lv (l.take y.2) fr st).map lvC)) (v, 0) ⟨by simp, by simpa [withS, nums] using hG⟩ ?_ ?_
  · refine raw ?_
    repeat (first | (with_reducible refine unr ?_; try simp only [YY, ↓reduceIte, Nat.reduceEqDiff, Nat.reduceAdd, Nat.reduceLeDiff, reduceCtorEq, Int.reduceEq, Int.reduceLT, Int.reduceLE, Int.reduceNeg, Int.reduceAdd, Int.reduceSub, Int.reduceToNat]) | (with_reducible refine WW (by decide) ?_))
    rfl
  rintro ⟨w, i⟩ t ⟨hi, hG⟩
  simp only at hi hG
  have hw := wrap_succ (i := i) (by omega)
  by_cases hil : i < l.length
  · have hil' : (i : Int) < (l.length : Int) := by omega
    obtain ⟨x, hx⟩ : ∃ x, l[i]? = some x := ⟨_, List.getElem?_eq_getElem hil⟩
    have hg : (l.map fun s => [AV.str s])[i]? = some [.str x] := by simp [hx]
    have hm1 : IntKind.i64.wrap ((i : Int) * st) = (i : Int) * st := by rcases hst with rfl | rfl <;> exact wrap_of (by omega) (by omega)
    have hm2 : IntKind.i64.wrap (fr + (i : Int) * st) = fr + (i : Int) * st := by rcases hst with rfl | rfl <;> exact wrap_of (by omega) (by omega)
    refine raw ?_
    repeat (first | (with_reducible refine unr ?_; try simp only [YY, ↓reduceIte, Nat.reduceEqDiff, Nat.reduceAdd, Nat.reduceLeDiff, reduceCtorEq, Int.reduceEq, Int.reduceLT, Int.reduceLE, Int.reduceNeg, Int.reduceAdd, Int.reduceSub, Int.reduceToNat, hil', hg, hm1, hm2]) | (with_reducible refine WW (by decide) ?_))
    have hwl := withS_len lv (l.take i) fr st
    have htl : (l.take i).length = i := by simp; omega
    refine ok_grow hG (es2 := [lvC (x, fr + (i : Int) * st)]) (by simp [lvC]) (by simp; omega) (by simp [maxLen]; omega) ?_
    intro w2 t2 hG2 _ _
    refine raw ?_
    repeat (first | (with_reducible refine unr ?_; try simp only [YY, ↓reduceIte, Nat.reduceEqDiff, Nat.reduceAdd, Nat.reduceLeDiff, reduceCtorEq, Int.reduceEq, Int.reduceLT, Int.reduceLE, Int.reduceNeg, Int.reduceAdd, Int.reduceSub, Int.reduceToNat, hw]) | (with_reducible refine WW (by decide) ?_))
    refine ⟨(w2, i + 1), rfl, ⟨by simp only; omega, ?_⟩, by simp only; omega⟩
    have e : withS lv (l.take (i + 1)) fr st = withS lv (l.take i) fr st ++ [(x, fr + (i : Int) * st)] := by
      rw [take_succ_at hx, withS, withS, nums_app, nums_one, List.append_assoc, Nat.zero_add, List.length_take, Nat.min_eq_left (by omega)]
    simp only [e, List.map_append]; exact hG2
  · have hil' : ¬ (i : Int) < (l.length : Int) := by omega
    rw [List.take_of_length_le (by omega)] at hG
    refine raw ?_
    repeat (first | (with_reducible refine unr ?_; try simp only [YY, ↓reduceIte, Nat.reduceEqDiff, Nat.reduceAdd, Nat.reduceLeDiff, reduceCtorEq, Int.reduceEq, Int.reduceLT, Int.reduceLE, Int.reduceNeg, Int.reduceAdd, Int.reduceSub, Int.reduceToNat, hil']) | (with_reducible refine WW (by decide) ?_))
    refine FP.mk (.list ((withS lv l fr st).map lvC)) hG.sl .here rfl (.list' fun e he c hc => ?_) hG.kp hG.fresh
    obtain ⟨y, _, rfl⟩ := List.mem_map.1 he
    simp [lvC] at hc
    rcases hc with rfl | rfl
    · exact .str _
    · exact .int _ _
end Go.Proofs.Ytjjbjibbjbbeaaa
/- Levels found, operators, globals. -/
set_option linter.unusedVariables false
set_option linter.unusedSimpArgs false
namespace Go.AL
def nameS (n : Int) : ByteArray :=
  if n = 1 then ⟨#[43]⟩ else if n = 2 then ⟨#[45]⟩ else if n = 3 then ⟨#[42]⟩ else if n = 4 then ⟨#[47]⟩ else if n = 5 then ⟨#[37]⟩ else if n = 6 then ⟨#[61, 61]⟩ else if n = 7 then ⟨#[47, 61]⟩ else
  if n = 8 then ⟨#[60]⟩ else if n = 9 then ⟨#[60, 61]⟩ else if n = 10 then ⟨#[62]⟩ else if n = 11 then ⟨#[62, 61]⟩ else ⟨#[]⟩
/-- An operator's number, looked for from i on. -/
noncomputable def opFrom (s : ByteArray) : Nat → Nat → Int
  | 0, i => 0
  | f + 1, i => @ite _ (nameS i = s) (Classical.propDecidable _) (i : Int) (opFrom s f (i + 1))
noncomputable def opS (s : ByteArray) : Int := if s.size = 0 then 0 else opFrom s 11 1
theorem findS_none {l : Lv} {s : ByteArray} (h : ∀ q, q ∈ l → q.1 ≠ s) : findS l s = 0 := by
  induction l with
  | nil => rfl
  | cons p r ih =>
    rw [findS, if_neg (by rintro ⟨q, hq, e⟩; exact h q (by simp [hq]) e), if_neg (h p (by simp))]
theorem findS_at {l : Lv} {i : Nat} {p : ByteArray × Int} (hp : l[i]? = some p) (h : ∀ q, q ∈ l.drop (i + 1) → q.1 ≠ p.1) : findS l p.1 = p.2 := by
  induction l generalizing i with
  | nil => simp at hp
  | cons x r ih =>
    rw [findS]
    cases i with
    | zero =>
      simp at hp; subst hp
      rw [if_neg (by rintro ⟨q, hq, e⟩; exact h q (by simpa using hq) e), if_pos rfl]
    | succ i =>
      rw [List.getElem?_cons_succ] at hp
      rw [if_pos ⟨p, List.mem_of_getElem? hp, rfl⟩]
      exact ih hp (by simpa using h)
theorem opFrom_bd (s : ByteArray) : ∀ f i : Nat, 0 ≤ opFrom s f i ∧ opFrom s f i ≤ (i + f : Nat)
  | 0, i => by rw [opFrom]; omega
  | f + 1, i => by
    rw [opFrom]
    have := opFrom_bd s f (i + 1)
    split <;> omega
theorem opS_bd (s : ByteArray) : 0 ≤ opS s ∧ opS s ≤ 12 := by
  unfold opS
  split
  · omega
  · exact opFrom_bd s 11 1
end Go.AL
namespace Go.Proofs.Ytjjbjibbjbbeaaa
open Go.AL
theorem opNameX (n : Int) (σ : Store) : ACalls Try.prog 110 [.int .i64 n] σ fun r σ' => r = .str (nameS n) ∧ σ' = σ := by
  refine in110 (by simp) ?_
  unfold c110
  refine raw ?_
  repeat' (first | (with_reducible refine unr ?_; try simp only [YY, ↓reduceIte, Nat.reduceEqDiff, Nat.reduceAdd, Nat.reduceLeDiff, reduceCtorEq, Int.reduceEq, Int.reduceLT, Int.reduceLE, Int.reduceNeg, Int.reduceAdd, Int.reduceSub, Int.reduceToNat, str_nil, *]) | (with_reducible first | refine WW (by decide) ?_ | refine ok_idx (by first | assumption | omega) (fun b hb => raw ?_) | refine ok_iad (by first | assumption | omega) (fun x hx hxm => raw ?_) | refine And.intro (by omega) (raw ?_) | (refine guardW_b (fun h => raw ?_) (fun h => raw ?_) <;> try simp only [Ty] at h) | (refine ePick_b (fun h => raw ?_) (fun h => raw ?_) <;> try simp only [Ty] at h) | (refine condW_b (fun h => raw ?_) (fun h => raw ?_) <;> try simp only [Ty] at h)))
  all_goals simp only [nameS, AV.str.injEq]
  all_goals (try subst n)
  all_goals simp [*]
theorem opX (s : ByteArray) (σ : Store) : ACalls Try.prog 83 [.str s] σ fun r σ' => r = .int .i64 (opS s) ∧ σ' = σ := by
  refine in83 (by simp) ?_
  unfold c83
  refine raw ?_
  repeat' (first | (with_reducible refine unr ?_; try simp only [YY, ↓reduceIte, Nat.reduceEqDiff, Nat.reduceAdd, Nat.reduceLeDiff, reduceCtorEq, Int.reduceEq, Int.reduceLT, Int.reduceLE, Int.reduceNeg, Int.reduceAdd, Int.reduceSub, Int.reduceToNat, str_nil, *]) | (with_reducible first | refine WW (by decide) ?_ | refine ok_idx (by first | assumption | omega) (fun b hb => raw ?_) | refine ok_iad (by first | assumption | omega) (fun x hx hxm => raw ?_) | refine And.intro (by omega) (raw ?_) | (refine guardW_b (fun h => raw ?_) (fun h => raw ?_) <;> try simp only [Ty] at h) | (refine ePick_b (fun h => raw ?_) (fun h => raw ?_) <;> try simp only [Ty] at h) | (refine condW_b (fun h => raw ?_) (fun h => raw ?_) <;> try simp only [Ty] at h)))
  · simp [opS, *]
  have hs := h
  refine AWP_while [0, 3] (fun i : Nat => 12 - i) (fun i => [.str s, .int .i64 i]) (fun i t => t = σ ∧ i ≤ 12 ∧ 1 ≤ i ∧ opFrom s (12 - i) i = opS s) 1 ⟨rfl, by simp, by simp, by unfold opS; rw [if_neg hs]⟩ ?_ ?_
  · refine raw ?_
    repeat (first | (with_reducible refine unr ?_; try simp only [YY, ↓reduceIte, Nat.reduceEqDiff, Nat.reduceAdd, Nat.reduceLeDiff, reduceCtorEq, Int.reduceEq, Int.reduceLT, Int.reduceLE, Int.reduceNeg, Int.reduceAdd, Int.reduceSub, Int.reduceToNat]) | (with_reducible refine WW (by decide) ?_))
    rfl
  rintro i t ⟨rfl, hi, hi1, ho⟩
  have hw := wrap_succ (i := i) (by omega)
  by_cases h11 : i ≤ 11
  · have h11' : (i : Int) ≤ 11 := by omega
    rw [show 12 - i = (12 - (i + 1)) + 1 by omega, opFrom] at ho
    by_cases hn : nameS i = s
    · rw [if_pos hn] at ho
      refine raw ?_
      repeat (first | (with_reducible refine unr ?_; try simp only [YY, ↓reduceIte, Nat.reduceEqDiff, Nat.reduceAdd, Nat.reduceLeDiff, reduceCtorEq, Int.reduceEq, Int.reduceLT, Int.reduceLE, Int.reduceNeg, Int.reduceAdd, Int.reduceSub, Int.reduceToNat, h11']) | (with_reducible refine WW (by decide) ?_))
      refine (opNameX _ _).mono ?_
      rintro _ _ ⟨rfl, rfl⟩
      refine raw ?_
      repeat (first | (with_reducible refine unr ?_; try simp only [YY, ↓reduceIte, Nat.reduceEqDiff, Nat.reduceAdd, Nat.reduceLeDiff, reduceCtorEq, Int.reduceEq, Int.reduceLT, Int.reduceLE, Int.reduceNeg, Int.reduceAdd, Int.reduceSub, Int.reduceToNat, hn]) | (with_reducible refine WW (by decide) ?_))
      rw [ho]
    · rw [if_neg hn] at ho
      refine raw ?_
      repeat (first | (with_reducible refine unr ?_; try simp only [YY, ↓reduceIte, Nat.reduceEqDiff, Nat.reduceAdd, Nat.reduceLeDiff, reduceCtorEq, Int.reduceEq, Int.reduceLT, Int.reduceLE, Int.reduceNeg, Int.reduceAdd, Int.reduceSub, Int.reduceToNat, h11']) | (with_reducible refine WW (by decide) ?_))
      refine (opNameX _ _).mono ?_
      rintro _ _ ⟨rfl, rfl⟩
      refine raw ?_
      repeat (first | (with_reducible refine unr ?_; try simp only [YY, ↓reduceIte, Nat.reduceEqDiff, Nat.reduceAdd, Nat.reduceLeDiff, reduceCtorEq, Int.reduceEq, Int.reduceLT, Int.reduceLE, Int.reduceNeg, Int.reduceAdd, Int.reduceSub, Int.reduceToNat, hn, hw]) | (with_reducible refine WW (by decide) ?_))
      exact ⟨i + 1, rfl, ⟨by omega, by omega, ho⟩, by omega⟩
  · have h11' : ¬ (i : Int) ≤ 11 := by omega
    rw [show 12 - i = 0 by omega, opFrom] at ho
    refine raw ?_
    repeat (first | (with_reducible refine unr ?_; try simp only [YY, ↓reduceIte, Nat.reduceEqDiff, Nat.reduceAdd, Nat.reduceLeDiff, reduceCtorEq, Int.reduceEq, Int.reduceLT, Int.reduceLE, Int.reduceNeg, Int.reduceAdd, Int.reduceSub, Int.reduceToNat, h11']) | (with_reducible refine WW (by decide) ?_))
    rw [ho]
theorem find_ok (lv : Lv) (s : ByteArray) (hl : lv.length ≤ 100000000) (σ : Store) : ACalls Try.prog 114 [.list (lv.map lvC), .str s] σ fun r σ' => r = .int .i64 (findS lv s) ∧ σ' = σ := by
  refine in114 (by simp) ?_
  unfold c114
  have hw : IntKind.i64.wrap ((lv.length : Int) - 1) = (lv.length : Int) - 1 := wrap_of (by omega) (by omega)
  refine raw ?_
  repeat (first | (with_reducible refine unr ?_; try simp only [YY, ↓reduceIte, Nat.reduceEqDiff, Nat.reduceAdd, Nat.reduceLeDiff, reduceCtorEq, Int.reduceEq, Int.reduceLT, Int.reduceLE, Int.reduceNeg, Int.reduceAdd, Int.reduceSub, Int.reduceToNat, hw]) | (with_reducible refine WW (by decide) ?_))
  refine AWP_while [0, 1, 5] (fun i : Nat => i) (fun i => [.list (lv.map lvC), .str s, .int .i64 ((i : Int) - 1)]) (fun i t => t = σ ∧ i ≤ lv.length ∧ ∀ q, q ∈ lv.drop i → q.1 ≠ s) lv.length ⟨rfl, by simp, by simp⟩ ?_ ?_
  · refine raw ?_
    repeat (first | (with_reducible refine unr ?_; try simp only [YY, ↓reduceIte, Nat.reduceEqDiff, Nat.reduceAdd, Nat.reduceLeDiff, reduceCtorEq, Int.reduceEq, Int.reduceLT, Int.reduceLE, Int.reduceNeg, Int.reduceAdd, Int.reduceSub, Int.reduceToNat]) | (with_reducible refine WW (by decide) ?_))
  rintro i t ⟨rfl, hi, hno⟩
  by_cases h0 : 0 < i
  · obtain ⟨j, rfl⟩ : ∃ j, i = j + 1 := ⟨i - 1, by omega⟩
    have e : ((j + 1 : Nat) : Int) - 1 = (j : Int) := by omega
    have hw2 : IntKind.i64.wrap ((j : Int) - 1) = (j : Int) - 1 := wrap_of (by omega) (by omega)
    obtain ⟨x, hx⟩ : ∃ x, lv[j]? = some x := ⟨_, List.getElem?_eq_getElem (by omega)⟩
    have hg : (lv.map lvC)[j]? = some (lvC x) := by simp [hx]
    by_cases hs : x.1 = s
    · refine raw ?_
      repeat (first | (with_reducible refine unr ?_; try simp only [YY, ↓reduceIte, Nat.reduceEqDiff, Nat.reduceAdd, Nat.reduceLeDiff, reduceCtorEq, Int.reduceEq, Int.reduceLT, Int.reduceLE, Int.reduceNeg, Int.reduceAdd, Int.reduceSub, Int.reduceToNat, e, hg, lvC, hs]) | (with_reducible refine WW (by decide) ?_))
      subst hs
      rw [findS_at hx hno]
    · refine raw ?_
      repeat (first | (with_reducible refine unr ?_; try simp only [YY, ↓reduceIte, Nat.reduceEqDiff, Nat.reduceAdd, Nat.reduceLeDiff, reduceCtorEq, Int.reduceEq, Int.reduceLT, Int.reduceLE, Int.reduceNeg, Int.reduceAdd, Int.reduceSub, Int.reduceToNat, e, hg, lvC, hs, hw2]) | (with_reducible refine WW (by decide) ?_))
      refine ⟨j, rfl, ⟨by omega, fun q hq => ?_⟩, by omega⟩
      rw [List.drop_eq_getElem_cons (by omega)] at hq
      rcases List.mem_cons.1 hq with rfl | hq
      · rw [List.getElem?_eq_getElem (by omega)] at hx
        cases hx; exact hs
      · exact hno q hq
  · have : i = 0 := by omega
    subst this
    have e0 : ¬ (0 : Int) ≤ ((0 : Nat) : Int) - 1 := by omega
    refine raw ?_
    repeat (first | (with_reducible refine unr ?_; try simp only [YY, ↓reduceIte, Nat.reduceEqDiff, Nat.reduceAdd, Nat.reduceLeDiff, reduceCtorEq, Int.reduceEq, Int.reduceLT, Int.reduceLE, Int.reduceNeg, Int.reduceAdd, Int.reduceSub, Int.reduceToNat, e0]) | (with_reducible refine WW (by decide) ?_))
    rw [findS_none (by simpa using hno)]
theorem idx_lt {l : List ByteArray} {s : ByteArray} {i : Nat} (h : idx l s = some i) : i < l.length := by
  unfold idx at h
  have := List.findIdx?_eq_some_iff_findIdx_eq.1 h
  exact this.1
theorem operator_ok {σ : Store} {T tid fid : Nat} {g : Gl} {v : AV} {es : List (List AV)} (h : BAt σ fid v (.ptr tid 0 0 0) es) (ha : Ab σ T tid g fid v) (op : Int) (hop : -1000 ≤ op ∧ op ≤ 1000) :
    ACalls Try.prog 116 [.ptr fid 0 0 0, .int .i64 op] σ fun r s => r = .int .i64 (operS g op) ∧ s = σ := by
  refine in116 (by simp) ?_
  unfold c116
  obtain ⟨⟨sm, cm, fv, sme, cme, h1, h2, h3, h4, h5, h6, h7, h8, h9, h10, h11⟩, hsm⟩ := ha.t
  have hlen := h7.len
  simp only [List.length_map] at hlen
  have w1 : IntKind.i64.wrap ((g.sup.length : Int) + (g.con.length : Int)) = (g.sup.length : Int) + (g.con.length : Int) := wrap_of (by omega) (by omega)
  have w2 : IntKind.i64.wrap ((g.sup.length : Int) + (g.con.length : Int) + op) = (g.sup.length : Int) + (g.con.length : Int) + op := wrap_of (by omega) (by omega)
  have w3 : IntKind.i64.wrap ((g.sup.length : Int) + (g.con.length : Int) + op - 1) = (g.sup.length : Int) + (g.con.length : Int) + op - 1 := wrap_of (by omega) (by omega)
  have hlm : eLen .map (.map sm) σ = some (.int .i64 (g.sup.length : Int), σ) := by simp [eLen, h2, h4]
  refine raw ?_
  repeat (first | (with_reducible refine unr ?_; try simp only [YY, ↓reduceIte, Nat.reduceEqDiff, Nat.reduceAdd, Nat.reduceLeDiff, reduceCtorEq, Int.reduceEq, Int.reduceLT, Int.reduceLE, Int.reduceNeg, Int.reduceAdd, Int.reduceSub, Int.reduceToNat, h.hd, h1, hlm, hlen, w1, w2, w3]) | (with_reducible refine WW (by decide) ?_))
  rfl
theorem global_ok {σ : Store} {T tid fid : Nat} {g : Gl} {v : AV} {es : List (List AV)} (h : BAt σ fid v (.ptr tid 0 0 0) es) (ha : Ab σ T tid g fid v) (s : ByteArray) :
    ACalls Try.prog 115 [.ptr fid 0 0 0, .str s] σ fun r s' => r = .int .i64 (globS g opS s) ∧ s' = σ := by
  refine in115 (by simp) ?_
  unfold c115
  obtain ⟨⟨sm, cm, fv, sme, cme, h1, h2, h3, h4, h5, h6, h7, h8, h9, h10, h11⟩, hsm⟩ := ha.t
  rcases h5 s with ⟨hi, hf⟩ | ⟨i, j, hi, hf⟩
  · refine raw ?_
    repeat (first | (with_reducible refine unr ?_; try simp only [YY, ↓reduceIte, Nat.reduceEqDiff, Nat.reduceAdd, Nat.reduceLeDiff, reduceCtorEq, Int.reduceEq, Int.reduceLT, Int.reduceLE, Int.reduceNeg, Int.reduceAdd, Int.reduceSub, Int.reduceToNat, h.hd, h1, h2, hf, findVal]) | (with_reducible refine WW (by decide) ?_))
    refine (opX s _).mono ?_
    rintro _ _ ⟨rfl, rfl⟩
    refine raw ?_
    repeat (first | (with_reducible refine unr ?_; try simp only [YY, ↓reduceIte, Nat.reduceEqDiff, Nat.reduceAdd, Nat.reduceLeDiff, reduceCtorEq, Int.reduceEq, Int.reduceLT, Int.reduceLE, Int.reduceNeg, Int.reduceAdd, Int.reduceSub, Int.reduceToNat]) | (with_reducible refine WW (by decide) ?_))
    refine (operator_ok h ha (opS s) (by have := opS_bd s; omega)).mono ?_
    rintro _ _ ⟨rfl, rfl⟩
    refine raw ?_
    repeat (first | (with_reducible refine unr ?_; try simp only [YY, ↓reduceIte, Nat.reduceEqDiff, Nat.reduceAdd, Nat.reduceLeDiff, reduceCtorEq, Int.reduceEq, Int.reduceLT, Int.reduceLE, Int.reduceNeg, Int.reduceAdd, Int.reduceSub, Int.reduceToNat]) | (with_reducible refine WW (by decide) ?_))
    rw [globS, hi]
  · refine raw ?_
    repeat (first | (with_reducible refine unr ?_; try simp only [YY, ↓reduceIte, Nat.reduceEqDiff, Nat.reduceAdd, Nat.reduceLeDiff, reduceCtorEq, Int.reduceEq, Int.reduceLT, Int.reduceLE, Int.reduceNeg, Int.reduceAdd, Int.reduceSub, Int.reduceToNat, h.hd, h1, h2, hf, findVal]) | (with_reducible refine WW (by decide) ?_))
    rw [globS, hi]
end Go.Proofs.Ytjjbjibbjbbeaaa
/- What makes a node of an expression. -/
set_option linter.unusedVariables false
set_option linter.unusedSimpArgs false
namespace Go.AL
structure LvOK (lv : Lv) (n : Nat) : Prop where
  len : lv.length + n ≤ 10000000
  bd : ∀ p, p ∈ lv → -1000000000 ≤ p.2 ∧ p.2 ≤ 1000000000
theorem findS_bd {lv : Lv} {n : Nat} (h : LvOK lv n) (s : ByteArray) : -1000000000 ≤ findS lv s ∧ findS lv s ≤ 1000000000 := by
  replace h := h.bd
  induction lv with
  | nil => rw [findS]; omega
  | cons p r ih =>
    rw [findS]
    split
    · exact ih fun q hq => h q (by simp [hq])
    · split
      · exact h p (by simp)
      · omega
theorem nums_mem (l : List ByteArray) (fr st : Int) (hst : st = 1 ∨ st = -1) : ∀ i p, p ∈ nums i fr st l → fr - i - l.length ≤ p.2 ∧ p.2 ≤ fr + i + l.length := by
  induction l with
  | nil => intro i p hp; simp [nums] at hp
  | cons s r ih =>
    intro i p hp
    rw [nums] at hp
    rw [List.length_cons]
    rcases List.mem_cons.1 hp with rfl | hp
    · rcases hst with rfl | rfl <;> simp only <;> omega
    · have := ih (i + 1) p hp; omega
theorem LvOK.with {lv : Lv} {n m : Nat} (h : LvOK lv n) (l : List ByteArray) (fr st : Int) (hst : st = 1 ∨ st = -1) (hf : -900000000 ≤ fr ∧ fr ≤ 900000000) (hl : l.length + m ≤ n) : LvOK (withS lv l fr st) m := by
  have hlen := h.len
  refine ⟨by rw [withS_len]; omega, fun p hp => ?_⟩
  rw [withS] at hp
  rcases List.mem_append.1 hp with hp | hp
  · exact h.bd p hp
  · have := nums_mem l fr st hst 0 p hp; omega
theorem LvOK.mono {lv : Lv} {n m : Nat} (h : LvOK lv n) (hm : m ≤ n) : LvOK lv m := ⟨by have := h.len; omega, h.bd⟩
section
variable (g : Gl) (O : ByteArray → Int)
theorem latB_app (lv : Lv) (d : Int) : ∀ (l m : List (ByteArray × Cr)) (n : Int), latB g O lv d n (l ++ m) = latB g O lv d n l ++ latB g O lv d (n - l.length) m
  | [], m, n => by simp [latB]
  | (s, x) :: r, m, n => by
    rw [List.cons_append, latB, latB, latB_app lv d r m, List.length_cons]
    rw [show n - 1 - (r.length : Int) = n - ((r.length + 1 : Nat) : Int) by omega]
    simp
theorem latB_one (lv : Lv) (d n : Int) (x : ByteArray × Cr) : latB g O lv d n [x] = latS g O lv d x.2 ++ [ik 5 (n - 1)] := by obtain ⟨s, x⟩ := x; rw [latB, latB]; simp
mutual
theorem latS_len : ∀ (x : Cr) (lv : Lv) (d : Int), (latS g O lv d x).length + 1 ≤ 4 * x.bulk
  | .mk k nm n ar ps gs al bs pk, lv, d => by
    have h1 := latL_len gs lv (d + 1)
    have h2 := latL_len gs (withS lv (bs.map (·.1)) d 1) (d + bs.length)
    have h3 := latB_len bs (withS lv (bs.map (·.1)) d 1) (d + bs.length) (bs.length : Int)
    have e0 : ∀ L : List (List Ins), (L.getD 1 []).length + (L.getD 0 []).length ≤ L.flatten.length := by
      intro L
      match L with
      | [] => simp
      | [a] => simp
      | a :: b :: r => simp; omega
    have e1 : ∀ L : List (List Ins), (L.getD 0 []).length ≤ L.flatten.length := fun L => by have := e0 L; omega
    have f1 := e0 (latL g O lv (d + 1) gs)
    have f2 := e1 (latL g O (withS lv (bs.map (·.1)) d 1) (d + bs.length) gs)
    rw [latS, Cr.bulk]
    repeat' split
    all_goals (try simp only [List.length_append, List.length_cons, List.length_nil])
    all_goals omega
theorem latL_len : ∀ (l : List Cr) (lv : Lv) (d : Int), (latL g O lv d l).flatten.length ≤ 4 * Cr.bulkL l
  | [], lv, d => by rw [latL, Cr.bulkL]; simp
  | x :: r, lv, d => by
    rw [latL, Cr.bulkL, List.flatten_cons, List.length_append]
    have := latS_len x lv d
    have := latL_len r lv (d - 1)
    omega
theorem latB_len : ∀ (l : List (ByteArray × Cr)) (lv : Lv) (d n : Int), (latB g O lv d n l).length ≤ 4 * Cr.bulkB l
  | [], lv, d, n => by rw [latB, Cr.bulkB]; simp
  | (s, x) :: r, lv, d, n => by
    rw [latB, Cr.bulkB, List.length_append, List.length_append, List.length_cons, List.length_nil]
    have := latS_len x lv d
    have := latB_len r lv d (n - 1)
    omega
end
end
end Go.AL
namespace Go.Proofs.Ytjjbjibbjbbeaaa
open Go.AL
/-- What makes a node. -/
abbrev LatC (x : Cr) : Prop := ∀ (σ : Store) (T tid fid : Nat) (g : Gl) (v : AV) (es : List (List AV)) (lv : Lv) (d : Int), BAt σ fid v (.ptr tid 0 0 0) es → Ab σ T tid g fid v → LvOK lv x.bulk → es.length + 4 * x.bulk ≤ 40000000 → 0 ≤ d → d + 2 * x.bulk ≤ 100000000 →
  ACalls Try.prog 66 [.ptr fid 0 0 0, .agg x.cells, .list (lv.map lvC), .int .i64 d] σ fun r s => (∃ z : Unit, r = .tuple [] ∧ BPost σ fid v (.ptr tid 0 0 0) (es ++ (latS g opS lv d x).map rawC) s)
theorem binds_ok (bs : List (ByteArray × Cr)) (ih : ∀ x, x ∈ bs → LatC x.2) (σ : Store) (T tid fid : Nat) (g : Gl) (v : AV) (es : List (List AV)) (lv : Lv) (d : Int) (h : BAt σ fid v (.ptr tid 0 0 0) es) (ha : Ab σ T tid g fid v) (hlv : LvOK lv (Cr.bulkB bs)) (hes : es.length + 1 + 4 * Cr.bulkB bs ≤ 40000000) (hd0 : 0 ≤ d) (hd : d + 2 * Cr.bulkB bs ≤ 100000000) :
    ACalls Try.prog 117 [.ptr fid 0 0 0, .list (bs.map bindC), .list (lv.map lvC), .int .i64 d] σ fun r s => (∃ z : Unit, r = .list ((withS lv (bs.map (·.1)) d 1).map lvC) ∧ BPost σ fid v (.ptr tid 0 0 0) (es ++ (bindS g opS lv d bs).map rawC) s) := by
  refine in117 (by simp) ?_
  unfold c117
  have hbl := Cr.lenB2 bs
  have hll := hlv.len
  try simp only [YY, ↓reduceIte, Nat.reduceEqDiff, Nat.reduceAdd, Nat.reduceLeDiff, reduceCtorEq, Int.reduceEq, Int.reduceLT, Int.reduceLE, Int.reduceNeg, Int.reduceAdd, Int.reduceSub, Int.reduceToNat]
  iterate 4 ((with_reducible refine WW (by decide) ?_); refine unr ?_; try simp only [YY, ↓reduceIte, Nat.reduceEqDiff, Nat.reduceAdd, Nat.reduceLeDiff, reduceCtorEq, Int.reduceEq, Int.reduceLT, Int.reduceLE, Int.reduceNeg, Int.reduceAdd, Int.reduceSub, Int.reduceToNat])
  refine AWP_cut [0, 1, 2, 3, 9] (fun u : AV => [.ptr fid 0 0 0, .list (bs.map bindC), .list (lv.map lvC), .int .i64 d, u]) (fun u s => Grow σ s u 9 1 (bs.map fun x => [.str x.1])) ?_ ?_
  · refine raw ?_
    repeat (first | (with_reducible refine unr ?_; try simp only [YY, ↓reduceIte, Nat.reduceEqDiff, Nat.reduceAdd, Nat.reduceLeDiff, reduceCtorEq, Int.reduceEq, Int.reduceLT, Int.reduceLE, Int.reduceNeg, Int.reduceAdd, Int.reduceSub, Int.reduceToNat]) | (with_reducible refine WW (by decide) ?_))
    refine AWP_while [0, 1, 2, 3, 9, 15, 16, 17] (fun y : AV × Nat => bs.length - y.2) (fun y => [.ptr fid 0 0 0, .list (bs.map bindC), .list (lv.map lvC), .int .i64 d, y.1, .list (bs.map bindC), .int .i64 bs.length, .int .i64 y.2])
      (fun y t => y.2 ≤ bs.length ∧ Grow σ t y.1 9 1 ((bs.take y.2).map fun x => [.str x.1])) (.nils, 0) ⟨by simp, .start _ _ _⟩ ?_ ?_
    · refine raw ?_
      repeat (first | (with_reducible refine unr ?_; try simp only [YY, ↓reduceIte, Nat.reduceEqDiff, Nat.reduceAdd, Nat.reduceLeDiff, reduceCtorEq, Int.reduceEq, Int.reduceLT, Int.reduceLE, Int.reduceNeg, Int.reduceAdd, Int.reduceSub, Int.reduceToNat]) | (with_reducible refine WW (by decide) ?_))
      rfl
    rintro ⟨u, i⟩ t ⟨hi, hG⟩
    simp only at hi hG
    have hw := wrap_succ (i := i) (by omega)
    refine raw ?_
    repeat' (first | (with_reducible refine unr ?_; try simp only [YY, ↓reduceIte, Nat.reduceEqDiff, Nat.reduceAdd, Nat.reduceLeDiff, reduceCtorEq, Int.reduceEq, Int.reduceLT, Int.reduceLE, Int.reduceNeg, Int.reduceAdd, Int.reduceSub, Int.reduceToNat, bindC, Cr.len, Cr.take9, str_nil, *]) | (with_reducible first | refine WW (by decide) ?_ | refine ok_idx (by first | assumption | omega) (fun b hb => raw ?_) | refine ok_iad (by first | assumption | omega) (fun x hx hxm => raw ?_) | refine And.intro (by omega) (raw ?_) | (refine guardW_b (fun h => raw ?_) (fun h => raw ?_) <;> try simp only [Ty] at h) | (refine ePick_b (fun h => raw ?_) (fun h => raw ?_) <;> try simp only [Ty] at h) | (refine condW_b (fun h => raw ?_) (fun h => raw ?_) <;> try simp only [Ty] at h)))
    · refine ok_grow (hG.push _) (es2 := [[.str x.1]]) (by simp) (by simp; omega) (by simp [maxLen]; omega) ?_
      intro v' t3 hG3 _ _
      refine raw ?_
      repeat (first | (with_reducible refine unr ?_; try simp only [YY, ↓reduceIte, Nat.reduceEqDiff, Nat.reduceAdd, Nat.reduceLeDiff, reduceCtorEq, Int.reduceEq, Int.reduceLT, Int.reduceLE, Int.reduceNeg, Int.reduceAdd, Int.reduceSub, Int.reduceToNat, hw]) | (with_reducible refine WW (by decide) ?_))
      refine ⟨(v', i + 1), rfl, ⟨by simp only; omega, ?_⟩, by simp only; omega⟩
      simp only [take_succ_at hx, List.map_append]; exact hG3
    · rw [List.take_of_length_le (by omega)] at hG
      exact ⟨u, rfl, hG⟩
  rintro u s hG
  refine AWP_grown 9 rfl hG fun s1 k1 hn1 => ?_
  simp only [List.zip_cons_cons, List.zip_nil_right]
  have hnm : (bs.map fun x => [AV.str x.1]) = (bs.map (·.1)).map fun s => [AV.str s] := by simp [Function.comp_def]
  have M0 := MB.start h k1 (N := s1.next) rfl
  refine raw ?_
  repeat (first | (with_reducible refine unr ?_; try simp only [YY, ↓reduceIte, Nat.reduceEqDiff, Nat.reduceAdd, Nat.reduceLeDiff, reduceCtorEq, Int.reduceEq, Int.reduceLT, Int.reduceLE, Int.reduceNeg, Int.reduceAdd, Int.reduceSub, Int.reduceToNat, hnm]) | (with_reducible refine WW (by decide) ?_))
  refine (with_ok lv (bs.map (·.1)) d 1 (by simp; omega) (by omega) (.inl rfl) _).mono ?_
  rintro _ _ ⟨rfl, rfl⟩
  rename_i s1
  refine raw ?_
  repeat (first | (with_reducible refine unr ?_; try simp only [YY, ↓reduceIte, Nat.reduceEqDiff, Nat.reduceAdd, Nat.reduceLeDiff, reduceCtorEq, Int.reduceEq, Int.reduceLT, Int.reduceLE, Int.reduceNeg, Int.reduceAdd, Int.reduceSub, Int.reduceToNat]) | (with_reducible refine WW (by decide) ?_))
  refine (put_ok M0.la (by omega) 8 (bs.length : Int)).mono ?_
  rintro _ s2 ⟨_, rfl, hP⟩
  obtain ⟨v2, M2, -, -, -⟩ := M0.call hP
  have hlw : LvOK (withS lv (bs.map (·.1)) d 1) (Cr.bulkB bs - bs.length) := hlv.with _ d 1 (.inl rfl) (by omega) (by simp; omega)
  rw [bindS]
  generalize withS lv (bs.map (·.1)) d 1 = lw at hlw ⊢
  have hwd : IntKind.i64.wrap (d + (bs.length : Int)) = d + (bs.length : Int) := wrap_of (by omega) (by omega)
  refine raw ?_
  repeat (first | (with_reducible refine unr ?_; try simp only [YY, ↓reduceIte, Nat.reduceEqDiff, Nat.reduceAdd, Nat.reduceLeDiff, reduceCtorEq, Int.reduceEq, Int.reduceLT, Int.reduceLE, Int.reduceNeg, Int.reduceAdd, Int.reduceSub, Int.reduceToNat]) | (with_reducible refine WW (by decide) ?_))
  refine AWP_while [0, 2, 3, 12, 36, 37, 38] (fun y : AV × Nat => bs.length - y.2) (fun y => [.ptr fid 0 0 0, .list (lw.map lvC), .int .i64 d, .int .i64 bs.length, .list (bs.map bindC), .int .i64 bs.length, .int .i64 y.2])
    (fun y t => y.2 ≤ bs.length ∧ MB σ t s1.next fid v y.1 (.ptr tid 0 0 0) (es ++ [rawC (ik 8 bs.length)] ++ (latB g opS lw (d + bs.length) (bs.length : Int) (bs.take y.2)).map rawC)) (v2, 0) ⟨by simp, by simpa [latB] using M2⟩ ?_ ?_
  · refine raw ?_
    repeat (first | (with_reducible refine unr ?_; try simp only [YY, ↓reduceIte, Nat.reduceEqDiff, Nat.reduceAdd, Nat.reduceLeDiff, reduceCtorEq, Int.reduceEq, Int.reduceLT, Int.reduceLE, Int.reduceNeg, Int.reduceAdd, Int.reduceSub, Int.reduceToNat]) | (with_reducible refine WW (by decide) ?_))
    rfl
  rintro ⟨w, i⟩ t ⟨hi, M⟩
  simp only at hi M
  have hw := wrap_succ (i := i) (by omega)
  by_cases hil : i < bs.length
  · have hil' : (i : Int) < (bs.length : Int) := by omega
    obtain ⟨x, hx⟩ : ∃ x, bs[i]? = some x := ⟨_, List.getElem?_eq_getElem hil⟩
    have hg : (bs.map bindC)[i]? = some (bindC x) := by simp [hx]
    have hxm := List.mem_of_getElem? hx
    have b1 := Cr.bulkB_le2 hxm
    have b2 := Cr.bulkB_take hx
    have b3 := latB_len g opS (bs.take i) lw (d + bs.length) (bs.length : Int)
    have htl : (bs.take i).length = i := by simp; omega
    refine raw ?_
    repeat (first | (with_reducible refine unr ?_; try simp only [YY, ↓reduceIte, Nat.reduceEqDiff, Nat.reduceAdd, Nat.reduceLeDiff, reduceCtorEq, Int.reduceEq, Int.reduceLT, Int.reduceLE, Int.reduceNeg, Int.reduceAdd, Int.reduceSub, Int.reduceToNat, hil', hg, bindC, Cr.len, Cr.take9, hwd]) | (with_reducible refine WW (by decide) ?_))
    have Mp := M.push (.cells 114 0 10 [.str x.1 :: x.2.cells])
    refine (ih x hxm _ T tid fid g w _ lw (d + bs.length) Mp.la (Mp.ab ha) (hlw.mono (by omega)) (by simp only [List.length_append, List.length_map, List.length_cons, List.length_nil]; omega) (by omega) (by omega)).mono ?_
    rintro _ s3 ⟨_, rfl, hP3⟩
    obtain ⟨w3, M3, -, -, -⟩ := Mp.call hP3
    have hx4 := latS_len g opS x.2 lw (d + bs.length)
    have e1 : IntKind.i64.wrap ((bs.length : Int) - 1) = (bs.length : Int) - 1 := wrap_of (by omega) (by omega)
    have e2 : IntKind.i64.wrap ((bs.length : Int) - 1 - (i : Int)) = (bs.length : Int) - 1 - (i : Int) := wrap_of (by omega) (by omega)
    refine raw ?_
    repeat (first | (with_reducible refine unr ?_; try simp only [YY, ↓reduceIte, Nat.reduceEqDiff, Nat.reduceAdd, Nat.reduceLeDiff, reduceCtorEq, Int.reduceEq, Int.reduceLT, Int.reduceLE, Int.reduceNeg, Int.reduceAdd, Int.reduceSub, Int.reduceToNat, e1, e2]) | (with_reducible refine WW (by decide) ?_))
    refine (put_ok M3.la (by simp only [List.length_append, List.length_map, List.length_cons, List.length_nil]; omega) 5 _).mono ?_
    rintro _ s4 ⟨_, rfl, hP4⟩
    obtain ⟨w4, M4, -, -, -⟩ := M3.call hP4
    refine raw ?_
    repeat (first | (with_reducible refine unr ?_; try simp only [YY, ↓reduceIte, Nat.reduceEqDiff, Nat.reduceAdd, Nat.reduceLeDiff, reduceCtorEq, Int.reduceEq, Int.reduceLT, Int.reduceLE, Int.reduceNeg, Int.reduceAdd, Int.reduceSub, Int.reduceToNat, hw]) | (with_reducible refine WW (by decide) ?_))
    refine ⟨(w4, i + 1), rfl, ⟨by simp only; omega, ?_⟩, by simp only; omega⟩
    have e : latB g opS lw (d + bs.length) (bs.length : Int) (bs.take (i + 1)) = latB g opS lw (d + bs.length) (bs.length : Int) (bs.take i) ++ (latS g opS lw (d + bs.length) x.2 ++ [ik 5 ((bs.length : Int) - 1 - i)]) := by
      rw [take_succ_at hx, latB_app, latB_one, htl, show (bs.length : Int) - (i : Int) - 1 = (bs.length : Int) - 1 - i by omega]
    simp only [e, List.map_append, List.map_cons, List.map_nil, ← List.append_assoc]
    simpa only [List.append_assoc] using M4
  · have hil' : ¬ (i : Int) < (bs.length : Int) := by omega
    rw [List.take_of_length_le (by omega)] at M
    refine raw ?_
    repeat (first | (with_reducible refine unr ?_; try simp only [YY, ↓reduceIte, Nat.reduceEqDiff, Nat.reduceAdd, Nat.reduceLeDiff, reduceCtorEq, Int.reduceEq, Int.reduceLT, Int.reduceLE, Int.reduceNeg, Int.reduceAdd, Int.reduceSub, Int.reduceToNat, hil']) | (with_reducible refine WW (by decide) ?_))
    refine ⟨(), ?_⟩
    have := M.out
    simpa only [List.map_cons, List.append_assoc, List.cons_append, List.nil_append] using this
end Go.Proofs.Ytjjbjibbjbbeaaa
/- What makes a node of an expression: later. -/
set_option linter.unusedVariables false
set_option linter.unusedSimpArgs false
namespace Go.Proofs.Ytjjbjibbjbbeaaa
open Go.AL
set_option maxHeartbeats 1000000 in
theorem later_ok : ∀ x : Cr, x.Tw → LatC x := by
  intro x
  induction x using Cr.ind with
  | _ k nm n ar ps gs al bs pk ih1 ih2 ih3 ih4 =>
    intro htw
    cases htw with
    | mk h0 h2 h1 g1 g2 g3 g4 =>
    have i1 := fun x hx => ih1 x hx (g1 x hx)
    have i3 := fun x hx => ih3 x hx (g3 x hx)
    intro σ T tid fid g v es lv d h ha hlv hes hd0 hd
    rw [Cr.bulk] at hlv hes hd
    have hbl := Cr.lenB2 bs
    refine in66 (by simp) ?_
    unfold c66
    rw [Cr.cells_eq]
    try simp only [YY, ↓reduceIte, Nat.reduceEqDiff, Nat.reduceAdd, Nat.reduceLeDiff, reduceCtorEq, Int.reduceEq, Int.reduceLT, Int.reduceLE, Int.reduceNeg, Int.reduceAdd, Int.reduceSub, Int.reduceToNat]
    iterate 2 ((with_reducible refine WW (by decide) ?_); refine unr ?_; try simp only [YY, ↓reduceIte, Nat.reduceEqDiff, Nat.reduceAdd, Nat.reduceLeDiff, reduceCtorEq, Int.reduceEq, Int.reduceLT, Int.reduceLE, Int.reduceNeg, Int.reduceAdd, Int.reduceSub, Int.reduceToNat])
    generalize hs : Store.push _ _ = s1
    have k1 : Kp σ s1 := by rw [← hs]; exact (Kp.pushed _ _)
    have hn1 : s1.next = σ.next + 1 := by rw [← hs]; rfl
    have M0 := MB.start h k1 (N := σ.next + 1) (by omega)
    have hff := M0.fid
    have e1 : s1.get σ.next = some (.cells 54 0 9 [[.int .i64 k, .str nm, .int .i64 n, .int .i64 ar, strs ps, .list (gs.map Cr.cells), .list (al.map altC), .list (bs.map bindC), .list (pk.map pickC)]]) := by rw [← hs]; simp [Store.push_get, Store.push_next]
    clear hs
    by_cases hk1 : k = 1
    · subst hk1
      rw [latS, if_pos rfl]
      have hw1 : IntKind.i64.wrap (d - 1) = d - 1 := wrap_of (by omega) (by omega)
      have hfb := findS_bd hlv nm
      have hw2 : IntKind.i64.wrap (d - 1 - findS lv nm) = d - 1 - findS lv nm := wrap_of (by omega) (by omega)
      refine raw ?_
      repeat (first | (with_reducible refine unr ?_; try simp only [YY, ↓reduceIte, Nat.reduceEqDiff, Nat.reduceAdd, Nat.reduceLeDiff, reduceCtorEq, Int.reduceEq, Int.reduceLT, Int.reduceLE, Int.reduceNeg, Int.reduceAdd, Int.reduceSub, Int.reduceToNat, e1, hw1]) | (with_reducible refine WW (by decide) ?_))
      refine (find_ok lv nm (by have := hlv.len; omega) _).mono ?_
      rintro _ _ ⟨rfl, rfl⟩
      refine raw ?_
      repeat (first | (with_reducible refine unr ?_; try simp only [YY, ↓reduceIte, Nat.reduceEqDiff, Nat.reduceAdd, Nat.reduceLeDiff, reduceCtorEq, Int.reduceEq, Int.reduceLT, Int.reduceLE, Int.reduceNeg, Int.reduceAdd, Int.reduceSub, Int.reduceToNat, hw2]) | (with_reducible refine WW (by decide) ?_))
      refine (put_ok M0.la (by omega) 1 _).mono ?_
      rintro _ s2 ⟨_, rfl, hP⟩
      obtain ⟨v2, M2, -, -, -⟩ := M0.call hP
      refine raw ?_
      repeat (first | (with_reducible refine unr ?_; try simp only [YY, ↓reduceIte, Nat.reduceEqDiff, Nat.reduceAdd, Nat.reduceLeDiff, reduceCtorEq, Int.reduceEq, Int.reduceLT, Int.reduceLE, Int.reduceNeg, Int.reduceAdd, Int.reduceSub, Int.reduceToNat]) | (with_reducible refine WW (by decide) ?_))
      exact ⟨(), M2.out⟩
    by_cases hk2 : k = 2
    · subst hk2
      rw [latS, if_neg (by decide), if_pos rfl]
      refine raw ?_
      repeat (first | (with_reducible refine unr ?_; try simp only [YY, ↓reduceIte, Nat.reduceEqDiff, Nat.reduceAdd, Nat.reduceLeDiff, reduceCtorEq, Int.reduceEq, Int.reduceLT, Int.reduceLE, Int.reduceNeg, Int.reduceAdd, Int.reduceSub, Int.reduceToNat, e1]) | (with_reducible refine WW (by decide) ?_))
      refine (global_ok M0.la (M0.ab ha) nm).mono ?_
      rintro _ _ ⟨rfl, rfl⟩
      refine raw ?_
      repeat (first | (with_reducible refine unr ?_; try simp only [YY, ↓reduceIte, Nat.reduceEqDiff, Nat.reduceAdd, Nat.reduceLeDiff, reduceCtorEq, Int.reduceEq, Int.reduceLT, Int.reduceLE, Int.reduceNeg, Int.reduceAdd, Int.reduceSub, Int.reduceToNat]) | (with_reducible refine WW (by decide) ?_))
      refine (put_ok M0.la (by omega) 2 _).mono ?_
      rintro _ s2 ⟨_, rfl, hP⟩
      obtain ⟨v2, M2, -, -, -⟩ := M0.call hP
      refine raw ?_
      repeat (first | (with_reducible refine unr ?_; try simp only [YY, ↓reduceIte, Nat.reduceEqDiff, Nat.reduceAdd, Nat.reduceLeDiff, reduceCtorEq, Int.reduceEq, Int.reduceLT, Int.reduceLE, Int.reduceNeg, Int.reduceAdd, Int.reduceSub, Int.reduceToNat]) | (with_reducible refine WW (by decide) ?_))
      exact ⟨(), M2.out⟩
    by_cases hk4 : k = 4
    · subst hk4
      rw [latS, if_neg (by decide), if_neg (by decide), if_pos rfl]
      obtain ⟨⟨sm, cm, fv, sme, cme, t1, t2, t3, t4, t5, t6, t7, t8, t9, t10, t11⟩, hsm⟩ := (M0.ab ha).t
      have hlm : eLen .map (.map sm) s1 = some (.int .i64 (g.sup.length : Int), s1) := by simp [eLen, t2, t4]
      have hci : 0 ≤ conIdx g nm ∧ conIdx g nm ≤ g.con.length := by
        unfold conIdx
        split
        · rename_i i hi
          have := idx_lt hi
          simp at this
          omega
        · omega
      have hw : IntKind.i64.wrap ((g.sup.length : Int) + conIdx g nm) = (g.sup.length : Int) + conIdx g nm := wrap_of (by omega) (by omega)
      rcases t6 nm with ⟨hi, hf⟩ | ⟨i, j, hi, hf⟩
      · have hcz : conIdx g nm = 0 := by unfold conIdx; rw [hi]
        rw [hcz] at hw ⊢
        refine raw ?_
        repeat (first | (with_reducible refine unr ?_; try simp only [YY, ↓reduceIte, Nat.reduceEqDiff, Nat.reduceAdd, Nat.reduceLeDiff, reduceCtorEq, Int.reduceEq, Int.reduceLT, Int.reduceLE, Int.reduceNeg, Int.reduceAdd, Int.reduceSub, Int.reduceToNat, e1, M0.la.hd, t1, t3, hlm, hf, findVal, hw]) | (with_reducible refine WW (by decide) ?_))
        refine (put_ok M0.la (by omega) 2 _).mono ?_
        rintro _ s2 ⟨_, rfl, hP⟩
        obtain ⟨v2, M2, -, -, -⟩ := M0.call hP
        refine raw ?_
        repeat (first | (with_reducible refine unr ?_; try simp only [YY, ↓reduceIte, Nat.reduceEqDiff, Nat.reduceAdd, Nat.reduceLeDiff, reduceCtorEq, Int.reduceEq, Int.reduceLT, Int.reduceLE, Int.reduceNeg, Int.reduceAdd, Int.reduceSub, Int.reduceToNat]) | (with_reducible refine WW (by decide) ?_))
        exact ⟨(), M2.out⟩
      · have hcz : conIdx g nm = i := by unfold conIdx; rw [hi]
        rw [hcz] at hw ⊢
        refine raw ?_
        repeat (first | (with_reducible refine unr ?_; try simp only [YY, ↓reduceIte, Nat.reduceEqDiff, Nat.reduceAdd, Nat.reduceLeDiff, reduceCtorEq, Int.reduceEq, Int.reduceLT, Int.reduceLE, Int.reduceNeg, Int.reduceAdd, Int.reduceSub, Int.reduceToNat, e1, M0.la.hd, t1, t3, hlm, hf, findVal, hw]) | (with_reducible refine WW (by decide) ?_))
        refine (put_ok M0.la (by omega) 2 _).mono ?_
        rintro _ s2 ⟨_, rfl, hP⟩
        obtain ⟨v2, M2, -, -, -⟩ := M0.call hP
        refine raw ?_
        repeat (first | (with_reducible refine unr ?_; try simp only [YY, ↓reduceIte, Nat.reduceEqDiff, Nat.reduceAdd, Nat.reduceLeDiff, reduceCtorEq, Int.reduceEq, Int.reduceLT, Int.reduceLE, Int.reduceNeg, Int.reduceAdd, Int.reduceSub, Int.reduceToNat]) | (with_reducible refine WW (by decide) ?_))
        exact ⟨(), M2.out⟩
    by_cases hk3 : k = 3
    · subst hk3
      rw [latS, if_neg (by decide), if_neg (by decide), if_neg (by decide), if_pos rfl]
      refine raw ?_
      repeat (first | (with_reducible refine unr ?_; try simp only [YY, ↓reduceIte, Nat.reduceEqDiff, Nat.reduceAdd, Nat.reduceLeDiff, reduceCtorEq, Int.reduceEq, Int.reduceLT, Int.reduceLE, Int.reduceNeg, Int.reduceAdd, Int.reduceSub, Int.reduceToNat, e1]) | (with_reducible refine WW (by decide) ?_))
      refine (number_ok M0.la (by omega) 3 _).mono ?_
      rintro _ s2 ⟨_, rfl, hP⟩
      obtain ⟨v2, M2, -, -, -⟩ := M0.call hP
      refine raw ?_
      repeat (first | (with_reducible refine unr ?_; try simp only [YY, ↓reduceIte, Nat.reduceEqDiff, Nat.reduceAdd, Nat.reduceLeDiff, reduceCtorEq, Int.reduceEq, Int.reduceLT, Int.reduceLE, Int.reduceNeg, Int.reduceAdd, Int.reduceSub, Int.reduceToNat]) | (with_reducible refine WW (by decide) ?_))
      exact ⟨(), M2.out⟩
    by_cases hk5 : k = 5
    · obtain ⟨a, b, rfl⟩ : ∃ a b, gs = [a, b] := by
        match gs, h2 (.inl hk5) with
        | [a, b], _ => exact ⟨a, b, rfl⟩
      subst hk5
      rw [latS, if_neg (by decide), if_neg (by decide), if_neg (by decide), if_neg (by decide), if_pos rfl]
      have hb1 := Cr.bulkL_le (l := [a, b]) (x := a) (by simp)
      have hb2 : a.bulk + b.bulk = Cr.bulkL [a, b] := by rw [Cr.bulkL, Cr.bulkL, Cr.bulkL]; omega
      have hL : latL g opS lv (d + 1) [a, b] = [latS g opS lv (d + 1) a, latS g opS lv d b] := by rw [latL, latL, latL, show d + 1 - 1 = d by omega]
      have l1 := latS_len g opS b lv d
      have l2 := latS_len g opS a lv (d + 1)
      have hwd : IntKind.i64.wrap (d + 1) = d + 1 := wrap_of (by omega) (by omega)
      refine raw ?_
      repeat (first | (with_reducible refine unr ?_; try simp only [YY, ↓reduceIte, Nat.reduceEqDiff, Nat.reduceAdd, Nat.reduceLeDiff, reduceCtorEq, Int.reduceEq, Int.reduceLT, Int.reduceLE, Int.reduceNeg, Int.reduceAdd, Int.reduceSub, Int.reduceToNat, e1, Cr.len, Cr.take9]) | (with_reducible refine WW (by decide) ?_))
      refine (i1 b (by simp) _ T tid fid g v es lv d M0.la (M0.ab ha) (hlv.mono (by omega)) (by omega) hd0 (by omega)).mono ?_
      rintro _ s2 ⟨_, rfl, hP⟩
      obtain ⟨v2, M2, hk2', -, hn2⟩ := M0.call hP
      have e2 := hk2' σ.next (by omega) (by omega) (M0.loc (Nat.le_refl _) (by omega))
      rw [e1] at e2
      refine raw ?_
      repeat (first | (with_reducible refine unr ?_; try simp only [YY, ↓reduceIte, Nat.reduceEqDiff, Nat.reduceAdd, Nat.reduceLeDiff, reduceCtorEq, Int.reduceEq, Int.reduceLT, Int.reduceLE, Int.reduceNeg, Int.reduceAdd, Int.reduceSub, Int.reduceToNat, e2, Cr.len, Cr.take9, hwd]) | (with_reducible refine WW (by decide) ?_))
      refine (i1 a (by simp) _ T tid fid g v2 _ lv (d + 1) M2.la (M2.ab ha) (hlv.mono (by omega)) (by simp only [List.length_append, List.length_map]; omega) (by omega) (by omega)).mono ?_
      rintro _ s3 ⟨_, rfl, hP⟩
      obtain ⟨v3, M3, hk3', -, hn3⟩ := M2.call hP
      have e3 := hk3' σ.next (by omega) (by omega) (M2.loc (Nat.le_refl _) (by omega))
      rw [e2] at e3
      refine raw ?_
      repeat (first | (with_reducible refine unr ?_; try simp only [YY, ↓reduceIte, Nat.reduceEqDiff, Nat.reduceAdd, Nat.reduceLeDiff, reduceCtorEq, Int.reduceEq, Int.reduceLT, Int.reduceLE, Int.reduceNeg, Int.reduceAdd, Int.reduceSub, Int.reduceToNat]) | (with_reducible refine WW (by decide) ?_))
      refine (put_ok M3.la (by simp only [List.length_append, List.length_map]; omega) 4 0).mono ?_
      rintro _ s4 ⟨_, rfl, hP⟩
      obtain ⟨v4, M4, -, -, -⟩ := M3.call hP
      refine raw ?_
      repeat (first | (with_reducible refine unr ?_; try simp only [YY, ↓reduceIte, Nat.reduceEqDiff, Nat.reduceAdd, Nat.reduceLeDiff, reduceCtorEq, Int.reduceEq, Int.reduceLT, Int.reduceLE, Int.reduceNeg, Int.reduceAdd, Int.reduceSub, Int.reduceToNat]) | (with_reducible refine WW (by decide) ?_))
      refine ⟨(), ?_⟩
      have := M4.out
      rw [hL]
      simpa only [List.getD_cons_succ, List.getD_cons_zero, List.map_append, List.map_cons, List.map_nil, List.append_assoc] using this
    by_cases hk9 : k = 9
    · obtain ⟨a, b, rfl⟩ : ∃ a b, gs = [a, b] := by
        match gs, h2 (.inr hk9) with
        | [a, b], _ => exact ⟨a, b, rfl⟩
      have hn9 := h0 hk9
      subst hk9
      rw [latS, if_neg (by decide), if_neg (by decide), if_neg (by decide), if_neg (by decide), if_neg (by decide), if_pos rfl]
      have hb1 := Cr.bulkL_le (l := [a, b]) (x := a) (by simp)
      have hb2 : a.bulk + b.bulk = Cr.bulkL [a, b] := by rw [Cr.bulkL, Cr.bulkL, Cr.bulkL]; omega
      have hL : latL g opS lv (d + 1) [a, b] = [latS g opS lv (d + 1) a, latS g opS lv d b] := by rw [latL, latL, latL, show d + 1 - 1 = d by omega]
      have l1 := latS_len g opS b lv d
      have l2 := latS_len g opS a lv (d + 1)
      have hwd : IntKind.i64.wrap (d + 1) = d + 1 := wrap_of (by omega) (by omega)
      refine raw ?_
      repeat (first | (with_reducible refine unr ?_; try simp only [YY, ↓reduceIte, Nat.reduceEqDiff, Nat.reduceAdd, Nat.reduceLeDiff, reduceCtorEq, Int.reduceEq, Int.reduceLT, Int.reduceLE, Int.reduceNeg, Int.reduceAdd, Int.reduceSub, Int.reduceToNat, e1, Cr.len, Cr.take9]) | (with_reducible refine WW (by decide) ?_))
      refine (i1 b (by simp) _ T tid fid g v es lv d M0.la (M0.ab ha) (hlv.mono (by omega)) (by omega) hd0 (by omega)).mono ?_
      rintro _ s2 ⟨_, rfl, hP⟩
      obtain ⟨v2, M2, hk2', -, hn2⟩ := M0.call hP
      have e2 := hk2' σ.next (by omega) (by omega) (M0.loc (Nat.le_refl _) (by omega))
      rw [e1] at e2
      refine raw ?_
      repeat (first | (with_reducible refine unr ?_; try simp only [YY, ↓reduceIte, Nat.reduceEqDiff, Nat.reduceAdd, Nat.reduceLeDiff, reduceCtorEq, Int.reduceEq, Int.reduceLT, Int.reduceLE, Int.reduceNeg, Int.reduceAdd, Int.reduceSub, Int.reduceToNat, e2, Cr.len, Cr.take9, hwd]) | (with_reducible refine WW (by decide) ?_))
      refine (i1 a (by simp) _ T tid fid g v2 _ lv (d + 1) M2.la (M2.ab ha) (hlv.mono (by omega)) (by simp only [List.length_append, List.length_map]; omega) (by omega) (by omega)).mono ?_
      rintro _ s3 ⟨_, rfl, hP⟩
      obtain ⟨v3, M3, hk3', -, hn3⟩ := M2.call hP
      have e3 := hk3' σ.next (by omega) (by omega) (M2.loc (Nat.le_refl _) (by omega))
      rw [e2] at e3
      refine raw ?_
      repeat (first | (with_reducible refine unr ?_; try simp only [YY, ↓reduceIte, Nat.reduceEqDiff, Nat.reduceAdd, Nat.reduceLeDiff, reduceCtorEq, Int.reduceEq, Int.reduceLT, Int.reduceLE, Int.reduceNeg, Int.reduceAdd, Int.reduceSub, Int.reduceToNat, e3]) | (with_reducible refine WW (by decide) ?_))
      refine (operator_ok M3.la (M3.ab ha) n (by omega)).mono ?_
      rintro _ _ ⟨rfl, rfl⟩
      rename_i s3
      refine raw ?_
      repeat (first | (with_reducible refine unr ?_; try simp only [YY, ↓reduceIte, Nat.reduceEqDiff, Nat.reduceAdd, Nat.reduceLeDiff, reduceCtorEq, Int.reduceEq, Int.reduceLT, Int.reduceLE, Int.reduceNeg, Int.reduceAdd, Int.reduceSub, Int.reduceToNat]) | (with_reducible refine WW (by decide) ?_))
      refine (put_ok M3.la (by simp only [List.length_append, List.length_map]; omega) 2 _).mono ?_
      rintro _ s4 ⟨_, rfl, hP⟩
      obtain ⟨v4, M4, -, -, -⟩ := M3.call hP
      refine raw ?_
      repeat (first | (with_reducible refine unr ?_; try simp only [YY, ↓reduceIte, Nat.reduceEqDiff, Nat.reduceAdd, Nat.reduceLeDiff, reduceCtorEq, Int.reduceEq, Int.reduceLT, Int.reduceLE, Int.reduceNeg, Int.reduceAdd, Int.reduceSub, Int.reduceToNat]) | (with_reducible refine WW (by decide) ?_))
      refine (put_ok M4.la (by simp only [List.length_append, List.length_map, List.length_cons, List.length_nil]; omega) 4 0).mono ?_
      rintro _ s5 ⟨_, rfl, hP⟩
      obtain ⟨v5, M5, -, -, -⟩ := M4.call hP
      refine raw ?_
      repeat (first | (with_reducible refine unr ?_; try simp only [YY, ↓reduceIte, Nat.reduceEqDiff, Nat.reduceAdd, Nat.reduceLeDiff, reduceCtorEq, Int.reduceEq, Int.reduceLT, Int.reduceLE, Int.reduceNeg, Int.reduceAdd, Int.reduceSub, Int.reduceToNat]) | (with_reducible refine WW (by decide) ?_))
      refine (put_ok M5.la (by simp only [List.length_append, List.length_map, List.length_cons, List.length_nil]; omega) 4 0).mono ?_
      rintro _ s6 ⟨_, rfl, hP⟩
      obtain ⟨v6, M6, -, -, -⟩ := M5.call hP
      refine raw ?_
      repeat (first | (with_reducible refine unr ?_; try simp only [YY, ↓reduceIte, Nat.reduceEqDiff, Nat.reduceAdd, Nat.reduceLeDiff, reduceCtorEq, Int.reduceEq, Int.reduceLT, Int.reduceLE, Int.reduceNeg, Int.reduceAdd, Int.reduceSub, Int.reduceToNat]) | (with_reducible refine WW (by decide) ?_))
      refine ⟨(), ?_⟩
      have := M6.out
      rw [hL]
      simpa only [List.getD_cons_succ, List.getD_cons_zero, List.map_append, List.map_cons, List.map_nil, List.append_assoc, List.cons_append, List.nil_append] using this
    by_cases hk7 : k = 7
    · obtain ⟨a, rfl⟩ : ∃ a, gs = [a] := by
        match gs, h1 (.inr (.inl hk7)) with
        | [a], _ => exact ⟨a, rfl⟩
      subst hk7
      rw [latS, if_neg (by decide), if_neg (by decide), if_neg (by decide), if_neg (by decide), if_neg (by decide), if_neg (by decide), if_pos rfl]
      have hb2 : a.bulk = Cr.bulkL [a] := by rw [Cr.bulkL, Cr.bulkL]; omega
      have l1 := latB_len g opS bs (withS lv (bs.map (·.1)) d 1) (d + bs.length) (bs.length : Int)
      have l2 := latS_len g opS a (withS lv (bs.map (·.1)) d 1) (d + bs.length)
      have hwd : IntKind.i64.wrap (d + (bs.length : Int)) = d + (bs.length : Int) := wrap_of (by omega) (by omega)
      refine raw ?_
      repeat (first | (with_reducible refine unr ?_; try simp only [YY, ↓reduceIte, Nat.reduceEqDiff, Nat.reduceAdd, Nat.reduceLeDiff, reduceCtorEq, Int.reduceEq, Int.reduceLT, Int.reduceLE, Int.reduceNeg, Int.reduceAdd, Int.reduceSub, Int.reduceToNat, e1, Cr.len, Cr.take9]) | (with_reducible refine WW (by decide) ?_))
      refine (binds_ok bs i3 _ T tid fid g v es lv d M0.la (M0.ab ha) (hlv.mono (by omega)) (by omega) hd0 (by omega)).mono ?_
      rintro _ s2 ⟨_, rfl, hP⟩
      obtain ⟨v2, M2, hk2', -, hn2⟩ := M0.call hP
      have e2 := hk2' σ.next (by omega) (by omega) (M0.loc (Nat.le_refl _) (by omega))
      rw [e1] at e2
      have hlw : LvOK (withS lv (bs.map (·.1)) d 1) a.bulk := hlv.with _ d 1 (.inl rfl) (by omega) (by simp; omega)
      have hbl2 : (bindS g opS lv d bs).length = 1 + (latB g opS (withS lv (bs.map (·.1)) d 1) (d + bs.length) (bs.length : Int) bs).length := by rw [bindS, List.length_cons]; omega
      refine raw ?_
      repeat (first | (with_reducible refine unr ?_; try simp only [YY, ↓reduceIte, Nat.reduceEqDiff, Nat.reduceAdd, Nat.reduceLeDiff, reduceCtorEq, Int.reduceEq, Int.reduceLT, Int.reduceLE, Int.reduceNeg, Int.reduceAdd, Int.reduceSub, Int.reduceToNat, e2, Cr.len, Cr.take9, hwd]) | (with_reducible refine WW (by decide) ?_))
      refine (i1 a (by simp) _ T tid fid g v2 _ (withS lv (bs.map (·.1)) d 1) (d + bs.length) M2.la (M2.ab ha) hlw (by simp only [List.length_append, List.length_map]; omega) (by omega) (by omega)).mono ?_
      rintro _ s3 ⟨_, rfl, hP⟩
      obtain ⟨v3, M3, hk3', -, hn3⟩ := M2.call hP
      refine raw ?_
      repeat (first | (with_reducible refine unr ?_; try simp only [YY, ↓reduceIte, Nat.reduceEqDiff, Nat.reduceAdd, Nat.reduceLeDiff, reduceCtorEq, Int.reduceEq, Int.reduceLT, Int.reduceLE, Int.reduceNeg, Int.reduceAdd, Int.reduceSub, Int.reduceToNat]) | (with_reducible refine WW (by decide) ?_))
      refine (put_ok M3.la (by simp only [List.length_append, List.length_map]; omega) 7 _).mono ?_
      rintro _ s4 ⟨_, rfl, hP⟩
      obtain ⟨v4, M4, -, -, -⟩ := M3.call hP
      refine raw ?_
      repeat (first | (with_reducible refine unr ?_; try simp only [YY, ↓reduceIte, Nat.reduceEqDiff, Nat.reduceAdd, Nat.reduceLeDiff, reduceCtorEq, Int.reduceEq, Int.reduceLT, Int.reduceLE, Int.reduceNeg, Int.reduceAdd, Int.reduceSub, Int.reduceToNat]) | (with_reducible refine WW (by decide) ?_))
      refine ⟨(), ?_⟩
      have := M4.out
      rw [latL, latL]
      simpa only [bindS, List.getD_cons_zero, List.map_append, List.map_cons, List.map_nil, List.append_assoc, List.cons_append, List.nil_append] using this
    rw [latS, if_neg hk1, if_neg hk2, if_neg hk4, if_neg hk3, if_neg hk5, if_neg hk9, if_neg hk7]
    refine raw ?_
    repeat (first | (with_reducible refine unr ?_; try simp only [YY, ↓reduceIte, Nat.reduceEqDiff, Nat.reduceAdd, Nat.reduceLeDiff, reduceCtorEq, Int.reduceEq, Int.reduceLT, Int.reduceLE, Int.reduceNeg, Int.reduceAdd, Int.reduceSub, Int.reduceToNat, e1, hk1, hk2, hk4, hk3, hk5, hk9, hk7]) | (with_reducible refine WW (by decide) ?_))
    refine ⟨(), ?_⟩
    simpa using M0.out
end Go.Proofs.Ytjjbjibbjbbeaaa
/- Codes of values, as plain functions: lengths, parts, jumps that are landed. -/
set_option linter.unusedVariables false
set_option linter.unusedSimpArgs false
namespace Go.AL
section
variable (g : Gl) (O : ByteArray → Int)
end
end Go.AL
/- How long codes are; ends, jumps put and landed. -/
set_option linter.unusedVariables false
set_option linter.unusedSimpArgs false
namespace Go.AL
section
variable (g : Gl) (O : ByteArray → Int)
end
/-- Jumps' places. -/
def placesC (ps : List Nat) : List (List AV) := ps.map (fun p : Nat => [AV.int .i64 (p : Int)])
end Go.AL
namespace Go.Proofs.Ytjjbjibbjbbeaaa
open Go.AL
end Go.Proofs.Ytjjbjibbjbbeaaa
/- Jumps are landed. -/
set_option linter.unusedVariables false
set_option linter.unusedSimpArgs false
namespace Go.AL
end Go.AL
namespace Go.Proofs.Ytjjbjibbjbbeaaa
open Go.AL
end Go.Proofs.Ytjjbjibbjbbeaaa
/- Cases. -/
set_option linter.unusedVariables false
set_option linter.unusedSimpArgs false
namespace Go.AL
theorem MB.own {σ s : Store} {N fid : Nat} {v v' df : AV} {es : List (List AV)} (h : MB σ s N fid v v' df es) (hne : es ≠ []) : ∃ id ver es', v' = .own id ver 4 0 es.length ∧ s.get id = some (.cells 139 ver 4 (es ++ es')) := h.la.sl.own hne
theorem SubE.rf {v w : AV} : ∀ a : List (List AV), SubE v w a a
  | [] => .nil
  | x :: r => .cons (SubL.rf x) (SubE.rf r)
theorem SubE.app {v w : AV} {a b c d : List (List AV)} (h : SubE v w a b) (k : SubE v w c d) : SubE v w (a ++ c) (b ++ d) := by
  induction h with
  | nil => exact k
  | cons h t ih => exact .cons h ih
/-- The state amid a case or a choice: the jumps that are told so far, and the places of those that lead behind all. -/
structure CS (σ s : Store) (N fid : Nat) (v v' df : AV) (es1 : List (List AV)) (op K : Int) (U W : AV) (js : List (Int × Int)) (ps : List Nat) (body : List Ins) : Prop where
  m : MB σ s N fid v v' df (es1 ++ [[.int .i64 op, .int .i64 K, .int .i64 0, U]] ++ body.map rawC)
  u : BesB s N v' U 151 2 (js.map jC)
  w : BesB s N v' W 3 1 (placesC ps)
  d : ∀ j, j ∈ slIds U → j ∉ slIds W
  u0 : js = [] → U = .nils
section
variable {σ s s2 : Store} {N fid : Nat} {v v' df U W : AV} {es1 : List (List AV)} {op K : Int} {js : List (Int × Int)} {ps : List Nat} {body : List Ins}
theorem CS.push (h : CS σ s N fid v v' df es1 op K U W js ps body) (o : AObj) : CS σ (s.push o) N fid v v' df es1 op K U W js ps body := ⟨h.m.push o, h.u.push o, h.w.push o, h.d, h.u0⟩
theorem CS.call (h : CS σ s N fid v v' df es1 op K U W js ps body) (more : List Ins) (k : BPost s fid v' df (es1 ++ [[.int .i64 op, .int .i64 K, .int .i64 0, U]] ++ body.map rawC ++ more.map rawC) s2) :
    ∃ v2, CS σ s2 N fid v v2 df es1 op K U W js ps (body ++ more) ∧ (∀ j, j < s.next → j ≠ fid → j ∉ slIds v' → s2.get j = s.get j) ∧ s.next ≤ s2.next ∧ ∀ j, j ∈ slIds v2 → j ∈ slIds v' ∨ s.next ≤ j := by
  obtain ⟨v2, M2, hk, hf, hn⟩ := h.m.call k
  have hN : N > fid := by have := h.m.fid; have := h.m.le; omega
  refine ⟨v2, ⟨by rw [List.map_append, ← List.append_assoc]; exact M2, h.u.call hN hk hf, h.w.call hN hk hf, h.d, h.u0⟩, hk, hn, hf⟩
theorem CS.len (h : CS σ s N fid v v' df es1 op K U W js ps body) : (es1 ++ [[.int .i64 op, .int .i64 K, .int .i64 0, U]] ++ body.map rawC).length = es1.length + 1 + body.length := by simp; omega
end
end Go.AL
namespace Go.Proofs.Ytjjbjibbjbbeaaa
open Go.AL
end Go.Proofs.Ytjjbjibbjbbeaaa
/- Choices. -/
set_option linter.unusedVariables false
set_option linter.unusedSimpArgs false
namespace Go.AL
theorem CS.leave {σ s s2 : Store} {N fid : Nat} {v v' v2 df U W r : AV} {es1 : List (List AV)} {op K : Int} {js : List (Int × Int)} {ps : List Nat} {body : List Ins} (C : CS σ s N fid v v' df es1 op K U W js ps body) (last : Bool)
    (M : MB σ s2 N fid v v2 df (es1 ++ [[.int .i64 op, .int .i64 K, .int .i64 0, U]] ++ body.map rawC ++ (if last then [] else [rawC (ik 15 0)]))) (B : BesB s2 N v2 r 3 1 (placesC (ps ++ if last then [] else [(es1 ++ [[.int .i64 op, .int .i64 K, .int .i64 0, U]] ++ body.map rawC).length])))
    (k5 : ∀ j, j < s.next → j ≠ fid → j ∉ slIds v' → j ∉ slIds W → s2.get j = s.get j) (fv5 : ∀ j, j ∈ slIds v2 → j ∈ slIds v' ∨ s.next ≤ j) (fw5 : ∀ j, j ∈ slIds r → j ∈ slIds W ∨ s.next ≤ j) :
    CS σ s2 N fid v v2 df es1 op K U r js (ps ++ if last then [] else [es1.length + 1 + body.length]) (body ++ if last then [] else [ik 15 0]) := by
  have hf : N > fid := by have := C.m.fid; have := C.m.le; omega
  refine ⟨?_, ⟨C.u.sl.keep fun j hj => ?_, C.u.new, fun j hj hm => ?_⟩, ?_, fun j hj hm => ?_, C.u0⟩
  · have e : (body ++ (if last then [] else [ik 15 0])).map rawC = body.map rawC ++ (if last then [] else [rawC (ik 15 0)]) := by cases last <;> simp
    rw [e, ← List.append_assoc]
    exact M
  · exact k5 j (C.u.sl.lt hj) (fun e => by have := C.u.new j hj; omega) (C.u.dj j hj) (C.d j hj)
  · exact (fv5 j hm).elim (C.u.dj j hj) (fun q => by have := C.u.sl.lt hj; omega)
  · rw [C.len] at B; exact B
  · exact (fw5 j hm).elim (C.d j hj) (fun q => by have := C.u.sl.lt hj; omega)
end Go.AL
namespace Go.Proofs.Ytjjbjibbjbbeaaa
open Go.AL
end Go.Proofs.Ytjjbjibbjbbeaaa
/- Values' codes. -/
set_option linter.unusedVariables false
set_option linter.unusedSimpArgs false
namespace Go.AL
section
variable (g : Gl) (O : ByteArray → Int)
end
end Go.AL
namespace Go.Proofs.Ytjjbjibbjbbeaaa
open Go.AL
end Go.Proofs.Ytjjbjibbjbbeaaa
/- Codes of supercombinators, constructors, operators. -/
set_option linter.unusedVariables false
set_option linter.unusedSimpArgs false
namespace Go.AL
structure Cd where
  nm : ByteArray
  ar : Int
  con : Bool
  ops : List Ins
def codeC (c : Cd) : List AV := [.str c.nm, .int .i64 c.ar, .bool c.con, .list (c.ops.map insC)]
def codeR (c : Cd) : List AV := [.str c.nm, .int .i64 c.ar, .bool c.con, .list (c.ops.map rawC)]
theorem leD_raw (i : Ins) : LeDL (rawC i) (insC i) := by
  unfold rawC insC
  refine .cons (.refl _) (.cons (.refl _) (.cons (.refl _) (.cons ?_ .nil)))
  split
  · rename_i h; rw [h]; exact .nil
  · exact .refl _
theorem leD_code (c : Cd) : LeD (.agg (codeR c)) (.agg (codeC c)) := .agg (.cons (.refl _) (.cons (.refl _) (.cons (.refl _) (.cons (.list (leDE_map leD_raw c.ops)) .nil))))
noncomputable def superS (g : Gl) (p : Sup) : Cd := ⟨p.nm, p.ps.length, false, valS g opS (withS [] p.ps ((p.ps.length : Int) - 1) (-1)) p.ps.length true 0 p.bd⟩
def conS (k : Nat) (c : ByteArray × Nat) : Cd := ⟨c.1, c.2, true, ⟨11, c.2, k, []⟩ :: endS 0⟩
def opS' (op : Int) : Cd := ⟨nameS op, 2, false, [ik 1 0, ik 9 0, ik 1 2, ik 9 0, ⟨16, 0, op, []⟩] ++ endS 2⟩
theorem rawC_cln {n : Nat} (i : Ins) : ∀ c, c ∈ rawC i → Cln n c := by
  intro c hc
  simp only [rawC, List.mem_cons, List.not_mem_nil, or_false] at hc
  rcases hc with rfl | rfl | rfl | rfl
  · exact .int _ _
  · exact .int _ _
  · exact .int _ _
  · split
    · exact .nils
    · refine .list' fun e he c hc => ?_
      obtain ⟨p, _, rfl⟩ := List.mem_map.1 he
      simp only [jC, List.mem_cons, List.not_mem_nil, or_false] at hc
      rcases hc with rfl | rfl <;> exact .int _ _
theorem codeR_cln {n : Nat} (c : Cd) : Cln n (.agg (codeR c)) := by
  refine .agg' fun x hx => ?_
  simp only [codeR, List.mem_cons, List.not_mem_nil, or_false] at hx
  rcases hx with rfl | rfl | rfl | rfl
  · exact .str _
  · exact .int _ _
  · exact .bool _
  · refine .list' fun e he c hc => ?_
    obtain ⟨p, _, rfl⟩ := List.mem_map.1 he
    exact rawC_cln p c hc
/-- What a builder of one's own leaves. -/
theorem FP.code {σ s : Store} {v : AV} {c : Cd} {p : AV → Prop} (hs : SliceAt s v 139 4 (c.ops.map rawC)) (k : Kp σ s) (hf : ∀ j, j ∈ slIds v → σ.next ≤ j) (hp : p (.agg (codeR c))) : FP σ p (.agg [.str c.nm, .int .i64 c.ar, .bool c.con, v]) s :=
  FP.mk (.agg (codeR c)) hs (.agg (.cons (.refl _) (.cons (.refl _) (.cons (.refl _) (.cons .here .nil))))) hp (codeR_cln c) k hf
/-- The store behind a builder of one's own, and the result laid. -/
theorem own_upd {σ s1 s2 : Store} {fid id : Nat} {v2 df : AV} {es : List (List AV)} (k1 : Kp σ s1) (hf : σ.next ≤ fid) (hb : BAt s2 fid v2 df es) (hn : s1.next ≤ s2.next) (hk : ∀ j, j < s1.next → j ≠ fid → j ∉ slIds AV.nils → s2.get j = s1.get j) (hfr : ∀ j, j ∈ slIds v2 → j ∈ slIds AV.nils ∨ s1.next ≤ j) (hid : σ.next ≤ id) (hid2 : id < s1.next) (o : AObj) :
    SliceAt (s2.upd id o) v2 139 4 es ∧ Kp σ (s2.upd id o) ∧ ∀ j, j ∈ slIds v2 → σ.next ≤ j := by
  have hv : ∀ j, j ∈ slIds v2 → s1.next ≤ j := fun j hj => (hfr j hj).elim (fun q => by simp [slIds] at q) (fun q => q)
  have := k1.next
  refine ⟨hb.sl.keep fun j hj => Store.get_upd_ne _ _ (by have := hv j hj; omega), ⟨by rw [Store.upd_next]; omega, fun j hj => ?_⟩, fun j hj => by have := hv j hj; omega⟩
  rw [Store.get_upd_ne _ _ (by omega), hk j (by omega) (by omega) (by simp [slIds]), k1.keep j hj]
end Go.AL
namespace Go.Proofs.Ytjjbjibbjbbeaaa
open Go.AL
end Go.Proofs.Ytjjbjibbjbbeaaa
/- Which expressions may be: how many parts they have. -/
set_option linter.unusedVariables false
set_option linter.unusedSimpArgs false
namespace Go.AL
/-- What may be, where some names are in scope or none. -/
inductive Cr.Rt : Bool → Cr → Prop
  | mk {sc inner : Bool} {k : Int} {nm : ByteArray} {n ar : Int} {ps : List ByteArray} {gs : List Cr} {al : List (AltH × Cr)} {bs : List (ByteArray × Cr)} {pk : List (Int × Cr)} (hk : 1 ≤ k ∧ k ≤ 11) (h0 : k = 9 → 1 ≤ n ∧ n ≤ 11) (h2 : k = 5 ∨ k = 9 → gs.length = 2) (h1 : k = 6 ∨ k = 7 ∨ k = 8 ∨ k = 11 → gs.length = 1) (hv : k = 1 → sc = true) (hb : k = 7 → bs ≠ []) (hn : k ≠ 6 → k ≠ 7 → inner = sc)
    (g1 : ∀ x, x ∈ gs → Cr.Rt inner x) (g2 : ∀ x, x ∈ al → Cr.Rt (sc || !x.1.ps.isEmpty) x.2) (g5 : ∀ x, x ∈ al → x.1.k = 1 ∨ x.1.ps = []) (g3 : ∀ x, x ∈ bs → Cr.Rt inner x.2) (g4 : ∀ x, x ∈ pk → Cr.Rt sc x.2) : Cr.Rt sc (.mk k nm n ar ps gs al bs pk)
theorem Cr.Rt.tw {sc : Bool} {x : Cr} (h : x.Rt sc) : x.Tw := by
  induction h with
  | mk hk h0 h2 h1 hv hb hn g1 g2 g5 g3 g4 i1 i2 i3 i4 => exact .mk h0 h2 h1 i1 i2 i3 i4
theorem Cr.Rt.nil {sc : Bool} {k : Int} {nm : ByteArray} {n ar : Int} {ps : List ByteArray} {gs : List Cr} {al : List (AltH × Cr)} {bs : List (ByteArray × Cr)} {pk : List (Int × Cr)} (hk : 1 ≤ k ∧ k ≤ 11) (hv : k = 1 → sc = true) (h9 : k ≠ 9) (h5 : k ≠ 5) (h6 : k ≠ 6) (h7 : k ≠ 7) (h8 : k ≠ 8) (h11 : k ≠ 11)
    (h : (ps.length : Int) = 0 ∧ (gs.length : Int) = 0 ∧ (al.length : Int) = 0 ∧ (bs.length : Int) = 0 ∧ (pk.length : Int) = 0) : (Cr.mk k nm n ar ps gs al bs pk).Rt sc := by
  obtain ⟨_, h1, h2, h3, h4⟩ := h
  have h1 : gs = [] := List.eq_nil_of_length_eq_zero (by omega)
  have h2 : al = [] := List.eq_nil_of_length_eq_zero (by omega)
  have h3 : bs = [] := List.eq_nil_of_length_eq_zero (by omega)
  have h4 : pk = [] := List.eq_nil_of_length_eq_zero (by omega)
  subst h1 h2 h3 h4
  exact .mk hk (fun h => absurd h h9) (fun h => by omega) (fun h => by omega) hv (fun h => absurd h h7) (fun _ _ => rfl) (by simp) (by simp) (by simp) (by simp) (by simp)
/-- Whether names are in scope. -/
def inS (l : List ByteArray) : Bool := !l.isEmpty
theorem inS_mem {l : List ByteArray} {s : ByteArray} (h : s ∈ l) : inS l = true := by cases l with
  | nil => simp at h
  | cons a r => rfl
theorem inS_app (l m : List ByteArray) : inS (l ++ m) = (inS l || !m.isEmpty) := by cases l <;> simp [inS]
end Go.AL
namespace Go.Proofs.Ytjjbjibbjbbeaaa
open Go.AL
/-- The numbers of parts. -/
structure RtP (k n : Int) (gs : List Cr) (bs : List (ByteArray × Cr)) (sc inner : Bool) : Prop where
  hk : 1 ≤ k ∧ k ≤ 11
  h0 : k = 9 → 1 ≤ n ∧ n ≤ 11
  h2 : k = 5 ∨ k = 9 → gs.length = 2
  h1 : k = 6 ∨ k = 7 ∨ k = 8 ∨ k = 11 → gs.length = 1
  hv : k = 1 → sc = true
  hb : k = 7 → bs ≠ []
  hn : k ≠ 6 → k ≠ 7 → inner = sc
end Go.Proofs.Ytjjbjibbjbbeaaa
/- Which supercombinators are flat: of two that are, no two names are the same. -/
set_option linter.unusedVariables false
set_option linter.unusedSimpArgs false
namespace Go.AL
/-- What is flat; now: it is asked at once. -/
inductive Cr.Fl : Bool → Cr → Prop
  | mk {now : Bool} {k : Int} {nm : ByteArray} {n ar : Int} {ps : List ByteArray} {gs : List Cr} {al : List (AltH × Cr)} {bs : List (ByteArray × Cr)} {pk : List (Int × Cr)} (h6 : k ≠ 6) (hl : now = false → k ≠ 8 ∧ k ≠ 10 ∧ k ≠ 11)
    (g1 : ∀ x, x ∈ gs → Cr.Fl (now && !decide (k = 5)) x) (g2 : ∀ x, x ∈ al → Cr.Fl now x.2) (g3 : ∀ x, x ∈ bs → Cr.Fl false x.2) (g4 : ∀ x, x ∈ pk → Cr.Fl now x.2) : Cr.Fl now (.mk k nm n ar ps gs al bs pk)
def FlK (k : Int) (now : Bool) : Prop := k ≠ 6 ∧ (now = false → k ≠ 8 ∧ k ≠ 10 ∧ k ≠ 11)
end Go.AL
namespace Go.Proofs.Ytjjbjibbjbbeaaa
open Go.AL
end Go.Proofs.Ytjjbjibbjbbeaaa
/- Flat. -/
set_option linter.unusedVariables false
set_option linter.unusedSimpArgs false
namespace Go.AL
/-- Supercombinators' bulk. -/
def bulkS : List Sup → Nat
  | [] => 0
  | p :: r => p.nm.size + 1 + p.ps.length + p.bd.bulk + bulkS r
theorem bulkS_le {x : Sup} : ∀ {l : List Sup}, x ∈ l → x.nm.size + 1 + x.ps.length + x.bd.bulk ≤ bulkS l
  | y :: r, h => by
    rw [bulkS]
    rcases List.mem_cons.1 h with rfl | h
    · omega
    · have := bulkS_le h; omega
theorem lenS : ∀ l : List Sup, l.length ≤ bulkS l
  | [] => by simp
  | x :: r => by rw [bulkS, List.length_cons]; have := lenS r; omega
/-- What flat supercombinators are. -/
def FlatQ (x : Sup) : Prop := x.bd.Rt (inS x.ps) ∧ x.bd.Fl true
def FlatP (l : List Sup) : Prop := (∀ x, x ∈ l → FlatQ x) ∧ (l.map (·.nm)).Nodup
theorem supC_t11 (p : Sup) : List.take 11 (supC p) = supC p := List.take_of_length_le (by rw [supC_len]; omega)
end Go.AL
namespace Go.Proofs.Ytjjbjibbjbbeaaa
open Go.AL
end Go.Proofs.Ytjjbjibbjbbeaaa
/- The table of the globals. -/
set_option linter.unusedVariables false
set_option linter.unusedSimpArgs false
namespace Go.AL
/-- A constructor as a value. -/
structure Con5 where
  nm : ByteArray
  data : ByteArray
  tag : Int
  par : Int
  fs : List (List AV)
def con5C (c : Con5) : List AV := [.str c.nm, .str c.data, .int .i64 c.tag, .int .i64 c.par, .list c.fs]
def glOf (l : List Sup) (cons : List Con5) : Gl := ⟨l.map (·.nm), cons.map fun c => (c.nm, c.fs.length)⟩
def ents : Nat → List ByteArray → List (AV × AV)
  | i, [] => []
  | i, s :: r => (.str s, .int .i64 (i : Int)) :: ents (i + 1) r
theorem ents_len : ∀ (l : List ByteArray) (i : Nat), (ents i l).length = l.length
  | [], i => rfl
  | s :: r, i => by rw [ents, List.length_cons, List.length_cons, ents_len r]
theorem ents_app : ∀ (l m : List ByteArray) (i : Nat), ents i (l ++ m) = ents i l ++ ents (i + l.length) m
  | [], m, i => by simp [ents]
  | s :: r, m, i => by rw [List.cons_append, ents, ents, ents_app r m, List.length_cons, List.cons_append, show i + 1 + r.length = i + (r.length + 1) by omega]
theorem idx_cons (s k : ByteArray) (r : List ByteArray) : idx (s :: r) k = @ite _ (s = k) (Classical.propDecidable _) (some 0) ((idx r k).map (· + 1)) := by
  unfold idx
  rw [List.findIdx?_cons]
  by_cases h : s = k
  · simp [h]
  · simp [h]
theorem idx_none {l : List ByteArray} {k : ByteArray} : idx l k = none ↔ k ∉ l := by
  unfold idx
  rw [List.findIdx?_eq_none_iff]
  constructor
  · intro h hm
    have := h k hm
    simp at this
  · intro h x hx
    simp
    rintro rfl
    exact h hx
theorem aFind_ents (k : ByteArray) : ∀ (l : List ByteArray) (i p : Nat), (idx l k = none ∧ aFind .str (.str k) (ents i l) p = some none) ∨ ∃ m j, idx l k = some m ∧ aFind .str (.str k) (ents i l) p = some (some (j, .int .i64 ((i + m : Nat) : Int)))
  | [], i, p => .inl ⟨rfl, rfl⟩
  | s :: r, i, p => by
    rw [idx_cons, ents]
    simp only [aFind, keyEq_str]
    by_cases h : s = k
    · right
      refine ⟨0, p, by rw [if_pos h], ?_⟩
      rw [decide_eq_true h.symm]
      simp
    · rw [if_neg h, decide_eq_false (fun e => h e.symm)]
      rcases aFind_ents k r (i + 1) (p + 1) with ⟨h1, h2⟩ | ⟨m, j, h1, h2⟩
      · left; rw [h1]; exact ⟨rfl, h2⟩
      · right
        refine ⟨m + 1, j, by rw [h1]; rfl, ?_⟩
        rw [show i + (m + 1) = i + 1 + m by omega]
        exact h2
theorem aFind_new {k : ByteArray} {l : List ByteArray} (h : k ∉ l) : aFind .str (.str k) (ents 0 l) 0 = some none := by
  rcases aFind_ents k l 0 0 with ⟨_, h2⟩ | ⟨m, j, h1, _⟩
  · exact h2
  · rw [idx_none.2 h] at h1; cases h1
end Go.AL
namespace Go.Proofs.Ytjjbjibbjbbeaaa
open Go.AL
end Go.Proofs.Ytjjbjibbjbbeaaa
/- Which expressions are known; what is opened. -/
set_option linter.unusedVariables false
set_option linter.unusedSimpArgs false
namespace Go.AL
theorem TAt.kp {σ s : Store} {T tid : Nat} {g : Gl} (h : TAt σ T tid g) (hT : T ≤ σ.next) (k : Kp σ s) : TAt s T tid g := h.keep fun j hj => k.keep j (by omega)
end Go.AL
namespace Go.Proofs.Ytjjbjibbjbbeaaa
open Go.AL
end Go.Proofs.Ytjjbjibbjbbeaaa
/- What is opened. -/
set_option linter.unusedVariables false
set_option linter.unusedSimpArgs false
namespace Go.AL
theorem TAt.up {σ : Store} {T T' tid : Nat} {g : Gl} (h : TAt σ T tid g) (hT : T ≤ T') : TAt σ T' tid g := by
  obtain ⟨⟨sm, cm, fv, sme, cme, h1, h2, h3, h4, h5, h6, h7, h8, h9, h10, h11⟩, hs⟩ := h
  exact ⟨⟨sm, cm, fv, sme, cme, h1, h2, h3, h4, h5, h6, h7, by omega, by omega, by omega, fun j hj => by have := h11 j hj; omega⟩, hs⟩
end Go.AL
namespace Go.Proofs.Ytjjbjibbjbbeaaa
open Go.AL
end Go.Proofs.Ytjjbjibbjbbeaaa
/- What is compiled. -/
set_option linter.unusedVariables false
set_option linter.unusedSimpArgs false
namespace Go.AL
theorem codeC_len (c : Cd) : (codeC c).length = 4 := rfl
theorem codeC_t4 (c : Cd) : List.take 4 (codeC c) = codeC c := rfl
/-- The constructors' codes from a number on. -/
def consS : Nat → List Con5 → List Cd
  | _, [] => []
  | k, c :: r => conS k (c.nm, c.fs.length) :: consS (k + 1) r
def opsS (n : Nat) : List Cd := (List.range n).map fun (i : Nat) => opS' ((i + 1 : Nat) : Int)
noncomputable def compS (l : List Sup) (cons : List Con5) : List Cd := l.map (superS (glOf l cons)) ++ consS 0 cons ++ opsS 11
/-- What is compiled, as a result. -/
def CompP (l : List Sup) (cons : List Con5) (r : AV) : Prop := r = .tuple [.nils, .int .i64 1] ∨ (FlatP l ∧ cons ≠ [] ∧ r = .tuple [.list ((compS l cons).map codeC), .int .i64 0])
@[congr] theorem CompP_congr {w : Prop} (hw : Visit = w) {l : List Sup} {cons : List Con5} {r r' : AV} (h : r = r') : CompP l cons r = CompP l cons r' := by rw [h]
end Go.AL
namespace Go.Proofs.Ytjjbjibbjbbeaaa
open Go.AL
end Go.Proofs.Ytjjbjibbjbbeaaa
/- Two expressions of which Same says true are the same. -/
set_option linter.unusedVariables false
set_option linter.unusedSimpArgs false
namespace Go.AL
end Go.AL
namespace Go.Proofs.Ytjjbjibbjbbeaaa
open Go.AL
end Go.Proofs.Ytjjbjibbjbbeaaa
/- The document's numbers and local names: exactly. -/
set_option linter.unusedVariables false
set_option linter.unusedSimpArgs false
namespace Go.AL
theorem strs_get {l : List ByteArray} {i : Nat} {x : ByteArray} (h : l[i]? = some x) : (l.map fun s => [AV.str s])[i]? = some [AV.str x] := by simp [h]
theorem idx_at {l : List ByteArray} {s : ByteArray} {i : Nat} (h : l[i]? = some s) (hn : s ∉ l.take i) : idx l s = some i := by
  induction l generalizing i with
  | nil => simp at h
  | cons x r ih =>
    rw [idx_cons]
    cases i with
    | zero => simp at h; rw [if_pos h]
    | succ i =>
      rw [List.take_succ_cons, List.mem_cons, not_or] at hn
      rw [if_neg (fun e => hn.1 e.symm), ih (by simpa using h) hn.2]; rfl
noncomputable def placeS (l : List ByteArray) (s : ByteArray) : Int := match idx l s with | some i => (i : Int) | none => -1
theorem placeS_none {l : List ByteArray} {s : ByteArray} (h : s ∉ l) : placeS l s = -1 := by rw [placeS, idx_none.2 h]
theorem placeS_at {l : List ByteArray} {s : ByteArray} {i : Nat} (h : l[i]? = some s) (hn : s ∉ l.take i) : placeS l s = i := by rw [placeS, idx_at h hn]
theorem mem_take_succ {l : List ByteArray} {i : Nat} {x s : ByteArray} (hx : l[i]? = some x) (h : s ∉ l.take i) (hn : ¬ x = s) : s ∉ l.take (i + 1) := by
  intro hm
  rw [List.take_add_one, hx] at hm
  rcases List.mem_append.1 hm with h1 | h1
  · exact h h1
  · simp at h1; exact hn h1.symm
theorem decP_t {p : Prop} (h : p) : @decide p (Classical.propDecidable _) = true := @decide_eq_true _ (Classical.propDecidable _) h
theorem decP_f {p : Prop} (h : ¬ p) : @decide p (Classical.propDecidable _) = false := @decide_eq_false _ (Classical.propDecidable _) h
theorem opFrom_none {s : ByteArray} : ∀ (f i : Nat), (∀ j : Nat, i ≤ j → j < i + f → nameS j ≠ s) → opFrom s f i = 0
  | 0, i, _ => by rw [opFrom]
  | f + 1, i, h => by
    rw [opFrom, if_neg (h i (Nat.le_refl _) (by omega))]
    exact opFrom_none f (i + 1) fun j a b => h j (by omega) (by omega)
theorem opFrom_at {s : ByteArray} : ∀ (f i k : Nat), i ≤ k → k < i + f → nameS k = s → (∀ j : Nat, i ≤ j → j < k → nameS j ≠ s) → opFrom s f i = k
  | 0, i, k, h1, h2, _, _ => by omega
  | f + 1, i, k, h1, h2, hk, h => by
    rw [opFrom]
    by_cases e : i = k
    · subst e; rw [if_pos hk]
    · rw [if_neg (h i (Nat.le_refl _) (by omega))]
      exact opFrom_at f (i + 1) k (by omega) (by omega) hk fun j a b => h j (by omega) b
def opNames : List ByteArray := (List.range 11).map fun (i : Nat) => nameS ((i + 1 : Nat) : Int)
theorem opNames_get {i : Nat} (h : i < 11) : opNames[i]? = some (nameS ((i + 1 : Nat) : Int)) := by simp [opNames, h]
theorem opS_some {s : ByteArray} {i : Nat} (h : i < 11) (e : nameS ((i + 1 : Nat) : Int) = s) (hn : ∀ j : Nat, j < i → nameS ((j + 1 : Nat) : Int) ≠ s) : opS s = ((i + 1 : Nat) : Int) := by
  have hs : ¬ s.size = 0 := by
    have : ∀ k : Nat, k < 11 → ¬ (nameS ((k + 1 : Nat) : Int)).size = 0 := by decide
    rw [← e]; exact this i h
  rw [opS, if_neg hs]
  exact opFrom_at 11 1 (i + 1) (by omega) (by omega) e fun j a b => by
    have := hn (j - 1) (by omega)
    rwa [show j - 1 + 1 = j by omega] at this
theorem opS_zero {s : ByteArray} (hn : ∀ j : Nat, j < 11 → nameS ((j + 1 : Nat) : Int) ≠ s) : opS s = 0 := by
  rw [opS]
  split
  · rfl
  · exact opFrom_none 11 1 fun j a b => by
      have := hn (j - 1) (by omega)
      rwa [show j - 1 + 1 = j by omega] at this
end Go.AL
namespace Go.Proofs.Ytjjbjibbjbbeaaa
open Go.AL
theorem has2 (l : List ByteArray) (hl : l.length ≤ 9223372036854775806) (k : ByteArray) (σ : Store) : ACalls Try.prog 52 [strs l, .str k] σ fun r σ' => r = .bool (@decide (k ∈ l) (Classical.propDecidable _)) ∧ σ' = σ := by
  refine (show ACalls Try.prog 52 [strs l, .str k] σ fun r σ' => (r = .bool (@decide (k ∈ l) (Classical.propDecidable _))) ∧ σ' = σ from ?_)
  refine in52 (by simp) ?_
  unfold c52
  refine raw ?_
  repeat (first | (with_reducible refine unr ?_; try simp only [YY, ↓reduceIte, Nat.reduceEqDiff, Nat.reduceAdd, Nat.reduceLeDiff, reduceCtorEq, Int.reduceEq, Int.reduceLT, Int.reduceLE, Int.reduceNeg, Int.reduceAdd, Int.reduceSub, Int.reduceToNat]) | (with_reducible refine WW (by decide) ?_))
  refine AWP_while [0, 1, 5] (fun i : Nat => l.length - i) (fun i => [strs l, .str k, .int .i64 i]) (fun i t => t = σ ∧ i ≤ l.length ∧ Hid (k ∉ l.take i)) 0 ⟨rfl, by simp, ⟨by simp⟩⟩ ?_ ?_
  · refine raw ?_
    repeat (first | (with_reducible refine unr ?_; try simp only [YY, ↓reduceIte, Nat.reduceEqDiff, Nat.reduceAdd, Nat.reduceLeDiff, reduceCtorEq, Int.reduceEq, Int.reduceLT, Int.reduceLE, Int.reduceNeg, Int.reduceAdd, Int.reduceSub, Int.reduceToNat]) | (with_reducible refine WW (by decide) ?_))
    rfl
  rintro i t ⟨rfl, hi, hn⟩
  have hw := wrap_succ (i := i) (by omega)
  by_cases hil : i < l.length
  · have hil' : (i : Int) < (l.length : Int) := by omega
    obtain ⟨x, hx⟩ : ∃ x, l[i]? = some x := ⟨_, List.getElem?_eq_getElem hil⟩
    have hg := strs_get hx
    by_cases hk : x = k
    · subst hk
      refine raw ?_
      repeat (first | (with_reducible refine unr ?_; try simp only [YY, ↓reduceIte, Nat.reduceEqDiff, Nat.reduceAdd, Nat.reduceLeDiff, reduceCtorEq, Int.reduceEq, Int.reduceLT, Int.reduceLE, Int.reduceNeg, Int.reduceAdd, Int.reduceSub, Int.reduceToNat, hil', hg]) | (with_reducible refine WW (by decide) ?_))
      exact (congrArg AV.bool (decP_t (List.mem_of_getElem? hx))).symm
    · refine raw ?_
      repeat (first | (with_reducible refine unr ?_; try simp only [YY, ↓reduceIte, Nat.reduceEqDiff, Nat.reduceAdd, Nat.reduceLeDiff, reduceCtorEq, Int.reduceEq, Int.reduceLT, Int.reduceLE, Int.reduceNeg, Int.reduceAdd, Int.reduceSub, Int.reduceToNat, hil', hg, hk, hw]) | (with_reducible refine WW (by decide) ?_))
      exact ⟨i + 1, rfl, ⟨by omega, ⟨mem_take_succ hx hn.out hk⟩⟩, by omega⟩
  · have hil' : ¬ (i : Int) < (l.length : Int) := by omega
    have hnn := hn.out
    rw [List.take_of_length_le (by omega)] at hnn
    refine raw ?_
    repeat (first | (with_reducible refine unr ?_; try simp only [YY, ↓reduceIte, Nat.reduceEqDiff, Nat.reduceAdd, Nat.reduceLeDiff, reduceCtorEq, Int.reduceEq, Int.reduceLT, Int.reduceLE, Int.reduceNeg, Int.reduceAdd, Int.reduceSub, Int.reduceToNat, hil']) | (with_reducible refine WW (by decide) ?_))
    exact (congrArg AV.bool (decP_f hnn)).symm
theorem has14 (l : List ByteArray) (hl : l.length ≤ 9223372036854775806) (k : ByteArray) (σ : Store) : ACalls Try.prog 150 [strs l, .str k] σ fun r σ' => r = .bool (@decide (k ∈ l) (Classical.propDecidable _)) ∧ σ' = σ := by
  refine (show ACalls Try.prog 150 [strs l, .str k] σ fun r σ' => (r = .bool (@decide (k ∈ l) (Classical.propDecidable _))) ∧ σ' = σ from ?_)
  refine in150 (by simp) ?_
  unfold c150
  refine raw ?_
  repeat (first | (with_reducible refine unr ?_; try simp only [YY, ↓reduceIte, Nat.reduceEqDiff, Nat.reduceAdd, Nat.reduceLeDiff, reduceCtorEq, Int.reduceEq, Int.reduceLT, Int.reduceLE, Int.reduceNeg, Int.reduceAdd, Int.reduceSub, Int.reduceToNat]) | (with_reducible refine WW (by decide) ?_))
  refine AWP_while [0, 1, 5] (fun i : Nat => l.length - i) (fun i => [strs l, .str k, .int .i64 i]) (fun i t => t = σ ∧ i ≤ l.length ∧ Hid (k ∉ l.take i)) 0 ⟨rfl, by simp, ⟨by simp⟩⟩ ?_ ?_
  · refine raw ?_
    repeat (first | (with_reducible refine unr ?_; try simp only [YY, ↓reduceIte, Nat.reduceEqDiff, Nat.reduceAdd, Nat.reduceLeDiff, reduceCtorEq, Int.reduceEq, Int.reduceLT, Int.reduceLE, Int.reduceNeg, Int.reduceAdd, Int.reduceSub, Int.reduceToNat]) | (with_reducible refine WW (by decide) ?_))
    rfl
  rintro i t ⟨rfl, hi, hn⟩
  have hw := wrap_succ (i := i) (by omega)
  by_cases hil : i < l.length
  · have hil' : (i : Int) < (l.length : Int) := by omega
    obtain ⟨x, hx⟩ : ∃ x, l[i]? = some x := ⟨_, List.getElem?_eq_getElem hil⟩
    have hg := strs_get hx
    by_cases hk : x = k
    · subst hk
      refine raw ?_
      repeat (first | (with_reducible refine unr ?_; try simp only [YY, ↓reduceIte, Nat.reduceEqDiff, Nat.reduceAdd, Nat.reduceLeDiff, reduceCtorEq, Int.reduceEq, Int.reduceLT, Int.reduceLE, Int.reduceNeg, Int.reduceAdd, Int.reduceSub, Int.reduceToNat, hil', hg]) | (with_reducible refine WW (by decide) ?_))
      exact (congrArg AV.bool (decP_t (List.mem_of_getElem? hx))).symm
    · refine raw ?_
      repeat (first | (with_reducible refine unr ?_; try simp only [YY, ↓reduceIte, Nat.reduceEqDiff, Nat.reduceAdd, Nat.reduceLeDiff, reduceCtorEq, Int.reduceEq, Int.reduceLT, Int.reduceLE, Int.reduceNeg, Int.reduceAdd, Int.reduceSub, Int.reduceToNat, hil', hg, hk, hw]) | (with_reducible refine WW (by decide) ?_))
      exact ⟨i + 1, rfl, ⟨by omega, ⟨mem_take_succ hx hn.out hk⟩⟩, by omega⟩
  · have hil' : ¬ (i : Int) < (l.length : Int) := by omega
    have hnn := hn.out
    rw [List.take_of_length_le (by omega)] at hnn
    refine raw ?_
    repeat (first | (with_reducible refine unr ?_; try simp only [YY, ↓reduceIte, Nat.reduceEqDiff, Nat.reduceAdd, Nat.reduceLeDiff, reduceCtorEq, Int.reduceEq, Int.reduceLT, Int.reduceLE, Int.reduceNeg, Int.reduceAdd, Int.reduceSub, Int.reduceToNat, hil']) | (with_reducible refine WW (by decide) ?_))
    exact (congrArg AV.bool (decP_f hnn)).symm
theorem place_ok (l : List ByteArray) (hl : l.length ≤ 9223372036854775806) (k : ByteArray) (σ : Store) : ACalls Try.prog 126 [strs l, .str k] σ fun r σ' => r = .int .i64 (placeS l k) ∧ σ' = σ := by
  refine (show ACalls Try.prog 126 [strs l, .str k] σ fun r σ' => (r = .int .i64 (placeS l k)) ∧ σ' = σ from ?_)
  refine in126 (by simp) ?_
  unfold c126
  refine raw ?_
  repeat (first | (with_reducible refine unr ?_; try simp only [YY, ↓reduceIte, Nat.reduceEqDiff, Nat.reduceAdd, Nat.reduceLeDiff, reduceCtorEq, Int.reduceEq, Int.reduceLT, Int.reduceLE, Int.reduceNeg, Int.reduceAdd, Int.reduceSub, Int.reduceToNat]) | (with_reducible refine WW (by decide) ?_))
  refine AWP_while [0, 1, 5] (fun i : Nat => l.length - i) (fun i => [strs l, .str k, .int .i64 i]) (fun i t => t = σ ∧ i ≤ l.length ∧ Hid (k ∉ l.take i)) 0 ⟨rfl, by simp, ⟨by simp⟩⟩ ?_ ?_
  · refine raw ?_
    repeat (first | (with_reducible refine unr ?_; try simp only [YY, ↓reduceIte, Nat.reduceEqDiff, Nat.reduceAdd, Nat.reduceLeDiff, reduceCtorEq, Int.reduceEq, Int.reduceLT, Int.reduceLE, Int.reduceNeg, Int.reduceAdd, Int.reduceSub, Int.reduceToNat]) | (with_reducible refine WW (by decide) ?_))
    rfl
  rintro i t ⟨rfl, hi, hn⟩
  have hw := wrap_succ (i := i) (by omega)
  by_cases hil : i < l.length
  · have hil' : (i : Int) < (l.length : Int) := by omega
    obtain ⟨x, hx⟩ : ∃ x, l[i]? = some x := ⟨_, List.getElem?_eq_getElem hil⟩
    have hg := strs_get hx
    by_cases hk : x = k
    · subst hk
      refine raw ?_
      repeat (first | (with_reducible refine unr ?_; try simp only [YY, ↓reduceIte, Nat.reduceEqDiff, Nat.reduceAdd, Nat.reduceLeDiff, reduceCtorEq, Int.reduceEq, Int.reduceLT, Int.reduceLE, Int.reduceNeg, Int.reduceAdd, Int.reduceSub, Int.reduceToNat, hil', hg]) | (with_reducible refine WW (by decide) ?_))
      rw [placeS_at hx hn.out]
    · refine raw ?_
      repeat (first | (with_reducible refine unr ?_; try simp only [YY, ↓reduceIte, Nat.reduceEqDiff, Nat.reduceAdd, Nat.reduceLeDiff, reduceCtorEq, Int.reduceEq, Int.reduceLT, Int.reduceLE, Int.reduceNeg, Int.reduceAdd, Int.reduceSub, Int.reduceToNat, hil', hg, hk, hw]) | (with_reducible refine WW (by decide) ?_))
      exact ⟨i + 1, rfl, ⟨by omega, ⟨mem_take_succ hx hn.out hk⟩⟩, by omega⟩
  · have hil' : ¬ (i : Int) < (l.length : Int) := by omega
    have hnn := hn.out
    rw [List.take_of_length_le (by omega)] at hnn
    refine raw ?_
    repeat (first | (with_reducible refine unr ?_; try simp only [YY, ↓reduceIte, Nat.reduceEqDiff, Nat.reduceAdd, Nat.reduceLeDiff, reduceCtorEq, Int.reduceEq, Int.reduceLT, Int.reduceLE, Int.reduceNeg, Int.reduceAdd, Int.reduceSub, Int.reduceToNat, hil']) | (with_reducible refine WW (by decide) ?_))
    rw [placeS_none hnn]
theorem opE (s : ByteArray) (σ : Store) : ACalls Try.prog 50 [.str s] σ fun r σ' => r = .int .i64 (opS s) ∧ σ' = σ := by
  have h90 : ∀ σ : Store, ACalls Try.prog 90 [] σ fun r σ' => r = strs opNames ∧ σ' = σ := fun σ => by
    refine in90 (by simp) ?_
    unfold c90
    refine raw ?_
    repeat (first | (with_reducible refine unr ?_; try simp only [YY, ↓reduceIte, Nat.reduceEqDiff, Nat.reduceAdd, Nat.reduceLeDiff, reduceCtorEq, Int.reduceEq, Int.reduceLT, Int.reduceLE, Int.reduceNeg, Int.reduceAdd, Int.reduceSub, Int.reduceToNat]) | (with_reducible refine WW (by decide) ?_))
    rfl
  refine in50 (by simp) ?_
  unfold c50
  refine raw ?_
  repeat (first | (with_reducible refine unr ?_; try simp only [YY, ↓reduceIte, Nat.reduceEqDiff, Nat.reduceAdd, Nat.reduceLeDiff, reduceCtorEq, Int.reduceEq, Int.reduceLT, Int.reduceLE, Int.reduceNeg, Int.reduceAdd, Int.reduceSub, Int.reduceToNat]) | (with_reducible refine WW (by decide) ?_))
  refine (h90 σ).mono ?_
  rintro _ σ ⟨rfl, rfl⟩
  refine raw ?_
  repeat (first | (with_reducible refine unr ?_; try simp only [YY, ↓reduceIte, Nat.reduceEqDiff, Nat.reduceAdd, Nat.reduceLeDiff, reduceCtorEq, Int.reduceEq, Int.reduceLT, Int.reduceLE, Int.reduceNeg, Int.reduceAdd, Int.reduceSub, Int.reduceToNat]) | (with_reducible refine WW (by decide) ?_))
  have h11 : opNames.length = 11 := rfl
  refine AWP_while [0, 3, 4] (fun i : Nat => 11 - i) (fun i => [.str s, strs opNames, .int .i64 i]) (fun i t => t = σ ∧ i ≤ 11 ∧ Hid (∀ j : Nat, j < i → nameS ((j + 1 : Nat) : Int) ≠ s)) 0 ⟨rfl, by simp, ⟨by simp⟩⟩ ?_ ?_
  · refine raw ?_
    repeat (first | (with_reducible refine unr ?_; try simp only [YY, ↓reduceIte, Nat.reduceEqDiff, Nat.reduceAdd, Nat.reduceLeDiff, reduceCtorEq, Int.reduceEq, Int.reduceLT, Int.reduceLE, Int.reduceNeg, Int.reduceAdd, Int.reduceSub, Int.reduceToNat]) | (with_reducible refine WW (by decide) ?_))
    rfl
  rintro i t ⟨rfl, hi, hn⟩
  have hw := wrap_succ (i := i) (by omega)
  by_cases hil : i < 11
  · have hil' : (i : Int) < ((11 : Nat) : Int) := by omega
    have hg := strs_get (opNames_get hil)
    by_cases hk : nameS ((i + 1 : Nat) : Int) = s
    · refine raw ?_
      repeat (first | (with_reducible refine unr ?_; try simp only [YY, ↓reduceIte, Nat.reduceEqDiff, Nat.reduceAdd, Nat.reduceLeDiff, reduceCtorEq, Int.reduceEq, Int.reduceLT, Int.reduceLE, Int.reduceNeg, Int.reduceAdd, Int.reduceSub, Int.reduceToNat, h11, hil', hg, hk, hw]) | (with_reducible refine WW (by decide) ?_))
      rw [opS_some hil hk hn.out]
    · refine raw ?_
      repeat (first | (with_reducible refine unr ?_; try simp only [YY, ↓reduceIte, Nat.reduceEqDiff, Nat.reduceAdd, Nat.reduceLeDiff, reduceCtorEq, Int.reduceEq, Int.reduceLT, Int.reduceLE, Int.reduceNeg, Int.reduceAdd, Int.reduceSub, Int.reduceToNat, h11, hil', hg, hk, hw]) | (with_reducible refine WW (by decide) ?_))
      refine ⟨i + 1, rfl, ⟨by omega, ⟨fun j hj => ?_⟩⟩, by omega⟩
      by_cases e : j = i
      · subst e; exact hk
      · exact hn.out j (by omega)
  · have hil' : ¬ (i : Int) < ((11 : Nat) : Int) := by omega
    refine raw ?_
    repeat (first | (with_reducible refine unr ?_; try simp only [YY, ↓reduceIte, Nat.reduceEqDiff, Nat.reduceAdd, Nat.reduceLeDiff, reduceCtorEq, Int.reduceEq, Int.reduceLT, Int.reduceLE, Int.reduceNeg, Int.reduceAdd, Int.reduceSub, Int.reduceToNat, h11, hil']) | (with_reducible refine WW (by decide) ?_))
    rw [opS_zero fun j hj => hn.out j (by omega)]
end Go.Proofs.Ytjjbjibbjbbeaaa

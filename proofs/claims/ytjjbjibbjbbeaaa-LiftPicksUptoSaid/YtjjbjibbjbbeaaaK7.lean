/- A part of the proof of the claim: the abstract layer, the contracts of the functions, the law (no condition of its own). -/
import Derived.Test.YtjjbjibbjbbeaaaK6
import Derived.Test.YtjjbjibbjbbeaaaProg
import Derived.KernelRfl
open Nat renaming reduceEqDiff → Za, reduceAdd → Zb, reduceLeDiff → Zc
open Int renaming reduceEq → Zd, reduceLT → Ze, reduceLE → Zf, reduceNeg → Zg, reduceAdd → Zh, reduceSub → Zi, reduceToNat → Zj
/- The resolved code of some functions. -/
set_option linter.unusedVariables false
namespace Go.Proofs.Ytjjbjibbjbbeaaa
open Go.AL
/-- changeling/changelingref01.Op -/
def c50 : ACode :=
(.seq
 (.reg [oo 2 (.move (.c (.int .i64 0)))])
 (.seq
 (.reg [oo 5 (.call 90 []),
 mv 3 5])
 (.seq
 (.seq
 (.reg [oo 4 (.move (.c (.int .i64 0)))])
 (.block 0
 (.loop
 (.seq
 (.seq
 (.reg [mv 6 4,
 mv 7 3,
 oo 8 (.len .slice (.t 7)),
 oo 9 (.bin .int .lss (.t 6) (.t 8))])
 (.cond (.t 9)
 .skip
 (.exit 0)))
 (.seq
 (.block 1
 (.seq
 (.reg [mv 12 3,
 mv 13 4,
 oo 14 (.iaddr 1 (.t 12) (.t 13)),
 oo 15 (.load none (.t 14)),
 mv 16 0,
 oo 17 (.bin .str .eql (.t 15) (.t 16))])
 (.cond (.t 17)
 (.seq
 (.reg [mv 18 4,
 oo 19 (.bin .int .add (.t 18) (.c (.int .i64 1))),
 mv 2 19])
 .ret)
 .skip)))
 (.reg [mv 10 4,
 oo 11 (.bin .int .add (.t 10) (.c (.int .i64 1))),
 mv 4 11]))))))
 (.seq
 (.reg [oo 2 (.move (.c (.int .i64 0)))])
 .ret))))
theorem in50 {args : List AV} {σ : Store} {K : AV → Store → Prop} (hargs : args.length ≤ 20 := by simp) (h : AWP Try.prog Try.f50.ntmps c50 (fun e t s => match e with | .exit _ => False | _ => Res [.slot 2] K t s) (env (argList 0 args)) σ) : ACalls Try.prog 50 args σ K :=
 enter (own := []) Try.func50 (by kernel_rfl) (by kernel_rfl) (by kernel_rfl) hargs h
/-- changeling/changelingref01.Names -/
def c90 : ACode :=
(.seq
 (.reg [oo 0 (.move (.c .nils))])
 (.seq
 (.reg [oo 1 (.lit false 9 1 [(.c (.str ⟨#[43]⟩)), (.c (.str ⟨#[45]⟩)), (.c (.str ⟨#[42]⟩)), (.c (.str ⟨#[47]⟩)), (.c (.str ⟨#[37]⟩)), (.c (.str ⟨#[61, 61]⟩)), (.c (.str ⟨#[47, 61]⟩)), (.c (.str ⟨#[60]⟩)), (.c (.str ⟨#[60, 61]⟩)), (.c (.str ⟨#[62]⟩)), (.c (.str ⟨#[62, 61]⟩))]),
 mv 0 1])
 .ret))
theorem in90 {args : List AV} {σ : Store} {K : AV → Store → Prop} (hargs : args.length ≤ 2 := by simp) (h : AWP Try.prog Try.f90.ntmps c90 (fun e t s => match e with | .exit _ => False | _ => Res [.slot 0] K t s) (env (argList 0 args)) σ) : ACalls Try.prog 90 args σ K :=
 enter (own := []) Try.func90 (by kernel_rfl) (by kernel_rfl) (by kernel_rfl) hargs h
/-- changeling/changelingref02.Has -/
def c52 : ACode :=
(.seq
 (.reg [oo 4 (.move (.c (.bool false)))])
 (.seq
 (.seq
 (.reg [oo 5 (.move (.c (.int .i64 0)))])
 (.block 0
 (.loop
 (.seq
 (.seq
 (.reg [mv 6 5,
 mv 7 0,
 oo 8 (.len .slice (.t 7)),
 oo 9 (.bin .int .lss (.t 6) (.t 8))])
 (.cond (.t 9)
 .skip
 (.exit 0)))
 (.seq
 (.block 1
 (.seq
 (.reg [mv 12 0,
 mv 13 5,
 oo 14 (.iaddr 1 (.t 12) (.t 13)),
 oo 15 (.load none (.t 14)),
 mv 16 1,
 oo 17 (.bin .str .eql (.t 15) (.t 16))])
 (.cond (.t 17)
 (.seq
 (.reg [oo 4 (.move (.c (.bool true)))])
 .ret)
 .skip)))
 (.reg [mv 10 5,
 oo 11 (.bin .int .add (.t 10) (.c (.int .i64 1))),
 mv 5 11]))))))
 (.seq
 (.reg [oo 4 (.move (.c (.bool false)))])
 .ret)))
theorem in52 {args : List AV} {σ : Store} {K : AV → Store → Prop} (hargs : args.length ≤ 18 := by simp) (h : AWP Try.prog Try.f52.ntmps c52 (fun e t s => match e with | .exit _ => False | _ => Res [.slot 4] K t s) (env (argList 0 args)) σ) : ACalls Try.prog 52 args σ K :=
 enter (own := []) Try.func52 (by kernel_rfl) (by kernel_rfl) (by kernel_rfl) hargs h
/-- changeling/changelingref14.Locals -/
def c92 : ACode :=
(.seq
 (.reg [oo 2 (.move (.c (.bool false)))])
 (.seq
 (.seq
 (.reg [oo 3 (.move (.c (.int .i64 0)))])
 (.block 0
 (.loop
 (.seq
 (.seq
 (.reg [mv 4 3,
 mv 5 0,
 oo 6 (.len .slice (.t 5)),
 oo 7 (.bin .int .lss (.t 4) (.t 6))])
 (.cond (.t 7)
 .skip
 (.exit 0)))
 (.seq
 (.block 1
 (.seq
 (.reg [mv 10 0,
 mv 11 3,
 oo 12 (.iaddr 1 (.t 10) (.t 11)),
 oo 13 (.load none (.t 12)),
 oo 14 (.call 149 [(.t 13)]),
 oo 15 (.not (.t 14)),
 mv 16 15,
 og 17 16 false (.move (.t 0)),
 og 18 16 false (.move (.t 3)),
 og 19 16 false (.cut .slice 1 (.t 17) none (some (.t 18))),
 og 20 16 false (.move (.t 0)),
 og 21 16 false (.move (.t 3)),
 og 22 16 false (.iaddr 1 (.t 20) (.t 21)),
 og 23 16 false (.load none (.t 22)),
 og 24 16 false (.call 150 [(.t 19), (.t 23)]),
 oo 25 (.pick (.t 16) (.c (.bool true)) (.t 24))])
 (.cond (.t 25)
 (.seq
 (.reg [oo 2 (.move (.c (.bool false)))])
 .ret)
 .skip)))
 (.reg [mv 8 3,
 oo 9 (.bin .int .add (.t 8) (.c (.int .i64 1))),
 mv 3 9]))))))
 (.seq
 (.reg [oo 2 (.move (.c (.bool true)))])
 .ret)))
theorem in92 {args : List AV} {σ : Store} {K : AV → Store → Prop} (hargs : args.length ≤ 26 := by simp) (h : AWP Try.prog Try.f92.ntmps c92 (fun e t s => match e with | .exit _ => False | _ => Res [.slot 2] K t s) (env (argList 0 args)) σ) : ACalls Try.prog 92 args σ K :=
 enter (own := []) Try.func92 (by kernel_rfl) (by kernel_rfl) (by kernel_rfl) hargs h
/-- changeling/changelingref14.Local -/
def c149 : ACode :=
(.seq
 (.reg [oo 2 (.move (.c (.bool false)))])
 (.seq
 (.seq
 (.reg [mv 5 0,
 oo 6 (.len .str (.t 5)),
 oo 7 (.bin .int .lss (.t 6) (.c (.int .i64 2))),
 mv 8 7,
 og 9 8 false (.move (.t 0)),
 og 10 8 false (.index (.t 9) (.c (.int .i64 0))),
 og 11 8 false (.bin .int .neq (.t 10) (.c (.int .u8 35))),
 oo 12 (.pick (.t 8) (.c (.bool true)) (.t 11)),
 mv 13 12,
 og 14 13 false (.move (.t 0)),
 og 15 13 false (.index (.t 14) (.c (.int .i64 1))),
 og 16 13 false (.bin .int .eql (.t 15) (.c (.int .u8 45))),
 oo 17 (.pick (.t 13) (.c (.bool true)) (.t 16))])
 (.cond (.t 17)
 (.seq
 (.reg [oo 2 (.move (.c (.bool false)))])
 .ret)
 .skip))
 (.seq
 (.reg [mv 19 0,
 oo 20 (.cut .str 1 (.t 19) (some (.c (.int .i64 1))) none),
 oo 21 (.call 91 [(.t 20)]),
 mv 18 21,
 oo 22 (.extract (.t 18) 0),
 oo 23 (.extract (.t 18) 1),
 mv 3 22,
 mv 4 23])
 (.seq
 (.reg [mv 24 4,
 oo 25 (.bin .int .eql (.t 24) (.c (.int .i64 0))),
 mv 2 25])
 .ret))))
theorem in149 {args : List AV} {σ : Store} {K : AV → Store → Prop} (hargs : args.length ≤ 26 := by simp) (h : AWP Try.prog Try.f149.ntmps c149 (fun e t s => match e with | .exit _ => False | _ => Res [.slot 2] K t s) (env (argList 0 args)) σ) : ACalls Try.prog 149 args σ K :=
 enter (own := []) Try.func149 (by kernel_rfl) (by kernel_rfl) (by kernel_rfl) hargs h
/-- changeling/changelingref01.Parse -/
def c91 : ACode :=
(.seq
 (.reg [oo 2 (.move (.c (.int .i64 0))),
 oo 3 (.move (.c (.int .i64 0)))])
 (.seq
 (.reg [mv 8 0,
 oo 9 (.len .str (.t 8)),
 oo 10 (.bin .int .gtr (.t 9) (.c (.int .i64 0))),
 mv 11 10,
 og 12 11 true (.move (.t 0)),
 og 13 11 true (.index (.t 12) (.c (.int .i64 0))),
 og 14 11 true (.bin .int .eql (.t 13) (.c (.int .u8 45))),
 oo 15 (.pick (.t 11) (.t 14) (.c (.bool false))),
 mv 4 15])
 (.seq
 (.reg [mv 16 0,
 mv 5 16])
 (.seq
 (.seq
 (.reg [mv 17 4])
 (.cond (.t 17)
 (.reg [mv 18 0,
 oo 19 (.cut .str 1 (.t 18) (some (.c (.int .i64 1))) none),
 mv 5 19])
 .skip))
 (.seq
 (.reg [mv 21 5,
 oo 22 (.call 146 [(.t 21)]),
 mv 20 22,
 oo 23 (.extract (.t 20) 0),
 oo 24 (.extract (.t 20) 1),
 mv 6 23,
 mv 7 24])
 (.seq
 (.seq
 (.reg [mv 25 7,
 oo 26 (.not (.t 25)),
 mv 27 26,
 og 28 27 false (.move (.t 6)),
 og 29 27 false (.bin .int .gtr (.t 28) (.c (.int .u64 9223372036854775808))),
 oo 30 (.pick (.t 27) (.c (.bool true)) (.t 29)),
 mv 31 30,
 og 32 31 false (.move (.t 6)),
 og 33 31 false (.move (.t 4)),
 og 34 31 false (.call 148 [(.t 32), (.t 33)]),
 og 35 31 false (.call 147 [(.t 34)]),
 og 36 31 false (.move (.t 0)),
 og 37 31 false (.bin .str .neq (.t 35) (.t 36)),
 oo 38 (.pick (.t 31) (.c (.bool true)) (.t 37))])
 (.cond (.t 38)
 (.seq
 (.reg [oo 2 (.move (.c (.int .i64 0))),
 oo 3 (.move (.c (.int .i64 11)))])
 .ret)
 .skip))
 (.seq
 (.reg [mv 39 6,
 mv 40 4,
 oo 41 (.call 148 [(.t 39), (.t 40)]),
 mv 2 41,
 oo 3 (.move (.c (.int .i64 0)))])
 .ret)))))))
theorem in91 {args : List AV} {σ : Store} {K : AV → Store → Prop} (hargs : args.length ≤ 42 := by simp) (h : AWP Try.prog Try.f91.ntmps c91 (fun e t s => match e with | .exit _ => False | _ => Res [.slot 2, .slot 3] K t s) (env (argList 0 args)) σ) : ACalls Try.prog 91 args σ K :=
 enter (own := []) Try.func91 (by kernel_rfl) (by kernel_rfl) (by kernel_rfl) hargs h
/-- changeling/changelingref01.plain -/
def c146 : ACode :=
(.seq
 (.reg [oo 2 (.move (.c (.int .u64 0))),
 oo 3 (.move (.c (.bool false)))])
 (.seq
 (.seq
 (.reg [mv 6 0,
 oo 7 (.len .str (.t 6)),
 oo 8 (.bin .int .eql (.t 7) (.c (.int .i64 0))),
 mv 9 8,
 og 10 9 false (.move (.t 0)),
 og 11 9 false (.len .str (.t 10)),
 og 12 9 false (.bin .int .gtr (.t 11) (.c (.int .i64 19))),
 oo 13 (.pick (.t 9) (.c (.bool true)) (.t 12))])
 (.cond (.t 13)
 (.seq
 (.reg [oo 2 (.move (.c (.int .u64 0))),
 oo 3 (.move (.c (.bool false)))])
 .ret)
 .skip))
 (.seq
 (.reg [oo 4 (.move (.c (.int .u64 0)))])
 (.seq
 (.seq
 (.reg [oo 5 (.move (.c (.int .i64 0)))])
 (.block 0
 (.loop
 (.seq
 (.seq
 (.reg [mv 14 5,
 mv 15 0,
 oo 16 (.len .str (.t 15)),
 oo 17 (.bin .int .lss (.t 14) (.t 16))])
 (.cond (.t 17)
 .skip
 (.exit 0)))
 (.seq
 (.block 1
 (.seq
 (.seq
 (.reg [mv 20 0,
 mv 21 5,
 oo 22 (.index (.t 20) (.t 21)),
 oo 23 (.bin .int .lss (.t 22) (.c (.int .u8 48))),
 mv 24 23,
 og 25 24 false (.move (.t 0)),
 og 26 24 false (.move (.t 5)),
 og 27 24 false (.index (.t 25) (.t 26)),
 og 28 24 false (.bin .int .gtr (.t 27) (.c (.int .u8 57))),
 oo 29 (.pick (.t 24) (.c (.bool true)) (.t 28))])
 (.cond (.t 29)
 (.seq
 (.reg [oo 2 (.move (.c (.int .u64 0))),
 oo 3 (.move (.c (.bool false)))])
 .ret)
 .skip))
 (.reg [mv 30 4,
 oo 31 (.bin .int .mul (.t 30) (.c (.int .u64 10))),
 mv 32 0,
 mv 33 5,
 oo 34 (.index (.t 32) (.t 33)),
 oo 35 (.bin .int .sub (.t 34) (.c (.int .u8 48))),
 oo 36 (.conv .u64 (.t 35)),
 oo 37 (.bin .int .add (.t 31) (.t 36)),
 mv 4 37])))
 (.reg [mv 18 5,
 oo 19 (.bin .int .add (.t 18) (.c (.int .i64 1))),
 mv 5 19]))))))
 (.seq
 (.reg [mv 38 4,
 mv 2 38,
 oo 3 (.move (.c (.bool true)))])
 .ret)))))
theorem in146 {args : List AV} {σ : Store} {K : AV → Store → Prop} (hargs : args.length ≤ 39 := by simp) (h : AWP Try.prog Try.f146.ntmps c146 (fun e t s => match e with | .exit _ => False | _ => Res [.slot 2, .slot 3] K t s) (env (argList 0 args)) σ) : ACalls Try.prog 146 args σ K :=
 enter (own := []) Try.func146 (by kernel_rfl) (by kernel_rfl) (by kernel_rfl) hargs h
/-- changeling/changelingref01.signed -/
def c148 : ACode :=
(.seq
 (.reg [oo 4 (.move (.c (.int .i64 0)))])
 (.seq
 (.seq
 (.reg [mv 5 1])
 (.cond (.t 5)
 (.seq
 (.reg [mv 6 0,
 oo 7 (.bin .int .sub (.c (.int .u64 0)) (.t 6)),
 oo 8 (.conv .i64 (.t 7)),
 mv 4 8])
 .ret)
 .skip))
 (.seq
 (.reg [mv 9 0,
 oo 10 (.conv .i64 (.t 9)),
 mv 4 10])
 .ret)))
theorem in148 {args : List AV} {σ : Store} {K : AV → Store → Prop} (hargs : args.length ≤ 11 := by simp) (h : AWP Try.prog Try.f148.ntmps c148 (fun e t s => match e with | .exit _ => False | _ => Res [.slot 4] K t s) (env (argList 0 args)) σ) : ACalls Try.prog 148 args σ K :=
 enter (own := []) Try.func148 (by kernel_rfl) (by kernel_rfl) (by kernel_rfl) hargs h
/-- changeling/changelingref01.Text -/
def c147 : ACode :=
(.seq
 (.reg [oo 2 (.move (.c (.str ⟨#[]⟩)))])
 (.seq
 (.seq
 (.reg [mv 3 0,
 oo 4 (.bin .int .lss (.t 3) (.c (.int .i64 0)))])
 (.cond (.t 4)
 (.seq
 (.reg [mv 5 0,
 oo 6 (.call 162 [(.t 5)]),
 oo 7 (.call 161 [(.t 6)]),
 oo 8 (.bin .str .add (.c (.str ⟨#[45]⟩)) (.t 7)),
 mv 2 8])
 .ret)
 .skip))
 (.seq
 (.reg [mv 9 0,
 oo 10 (.call 162 [(.t 9)]),
 oo 11 (.call 161 [(.t 10)]),
 mv 2 11])
 .ret)))
theorem in147 {args : List AV} {σ : Store} {K : AV → Store → Prop} (hargs : args.length ≤ 12 := by simp) (h : AWP Try.prog Try.f147.ntmps c147 (fun e t s => match e with | .exit _ => False | _ => Res [.slot 2] K t s) (env (argList 0 args)) σ) : ACalls Try.prog 147 args σ K :=
 enter (own := []) Try.func147 (by kernel_rfl) (by kernel_rfl) (by kernel_rfl) hargs h
/-- changeling/changelingref01.Size -/
def c162 : ACode :=
(.seq
 (.reg [oo 2 (.move (.c (.int .u64 0)))])
 (.seq
 (.seq
 (.reg [mv 3 0,
 oo 4 (.bin .int .lss (.t 3) (.c (.int .i64 0)))])
 (.cond (.t 4)
 (.seq
 (.reg [mv 5 0,
 oo 6 (.conv .u64 (.t 5)),
 oo 7 (.bin .int .sub (.c (.int .u64 0)) (.t 6)),
 mv 2 7])
 .ret)
 .skip))
 (.seq
 (.reg [mv 8 0,
 oo 9 (.conv .u64 (.t 8)),
 mv 2 9])
 .ret)))
theorem in162 {args : List AV} {σ : Store} {K : AV → Store → Prop} (hargs : args.length ≤ 10 := by simp) (h : AWP Try.prog Try.f162.ntmps c162 (fun e t s => match e with | .exit _ => False | _ => Res [.slot 2] K t s) (env (argList 0 args)) σ) : ACalls Try.prog 162 args σ K :=
 enter (own := []) Try.func162 (by kernel_rfl) (by kernel_rfl) (by kernel_rfl) hargs h
/-- changeling/changelingref01.Digits -/
def c161 : ACode :=
(.seq
 (.reg [oo 2 (.move (.c (.str ⟨#[]⟩)))])
 (.seq
 (.seq
 (.reg [mv 3 0,
 oo 4 (.bin .int .lss (.t 3) (.c (.int .u64 10)))])
 (.cond (.t 4)
 (.seq
 (.reg [mv 5 0,
 mv 6 0,
 oo 7 (.bin .int .add (.t 6) (.c (.int .u64 1))),
 oo 8 (.cut .str 1 (.c (.str ⟨#[48, 49, 50, 51, 52, 53, 54, 55, 56, 57]⟩)) (some (.t 5)) (some (.t 7))),
 mv 2 8])
 .ret)
 .skip))
 (.seq
 (.draw [] [([⟨(some 9), .move (.t 0), none⟩], []),
 ([⟨(some 10), .bin .int .quo (.t 9) (.c (.int .u64 10)), none⟩], []),
 ([⟨(some 12), .move (.t 0), none⟩], []),
 ([⟨(some 13), .bin .int .rem (.t 12) (.c (.int .u64 10)), none⟩], []),
 ([⟨(some 14), .move (.t 0), none⟩], []),
 ([⟨(some 15), .bin .int .rem (.t 14) (.c (.int .u64 10)), none⟩], []),
 ([⟨(some 16), .bin .int .add (.t 15) (.c (.int .u64 1)), none⟩], []),
 ([⟨(some 17), .cut .str 1 (.c (.str ⟨#[48, 49, 50, 51, 52, 53, 54, 55, 56, 57]⟩)) (some (.t 13)) (some (.t 16)), none⟩], []),
 ([⟨(some 11), .call 161 [(.t 10)], none⟩], [⟨(some 17), .cut .str 1 (.c (.str ⟨#[48, 49, 50, 51, 52, 53, 54, 55, 56, 57]⟩)) (some (.t 13)) (some (.t 16)), none⟩]),
 ([⟨(some 18), .bin .str .add (.t 11) (.t 17), none⟩], []),
 ([⟨(some 2), .move (.t 18), none⟩], [])])
 .ret)))
theorem in161 {args : List AV} {σ : Store} {K : AV → Store → Prop} (hargs : args.length ≤ 19 := by simp) (h : AWP Try.prog Try.f161.ntmps c161 (fun e t s => match e with | .exit _ => False | _ => Res [.slot 2] K t s) (env (argList 0 args)) σ) : ACalls Try.prog 161 args σ K :=
 enter (own := []) Try.func161 (by kernel_rfl) (by kernel_rfl) (by kernel_rfl) hargs h
/-- changeling/changelingref14.Has -/
def c150 : ACode :=
(.seq
 (.reg [oo 4 (.move (.c (.bool false)))])
 (.seq
 (.seq
 (.reg [oo 5 (.move (.c (.int .i64 0)))])
 (.block 0
 (.loop
 (.seq
 (.seq
 (.reg [mv 6 5,
 mv 7 0,
 oo 8 (.len .slice (.t 7)),
 oo 9 (.bin .int .lss (.t 6) (.t 8))])
 (.cond (.t 9)
 .skip
 (.exit 0)))
 (.seq
 (.block 1
 (.seq
 (.reg [mv 12 0,
 mv 13 5,
 oo 14 (.iaddr 1 (.t 12) (.t 13)),
 oo 15 (.load none (.t 14)),
 mv 16 1,
 oo 17 (.bin .str .eql (.t 15) (.t 16))])
 (.cond (.t 17)
 (.seq
 (.reg [oo 4 (.move (.c (.bool true)))])
 .ret)
 .skip)))
 (.reg [mv 10 5,
 oo 11 (.bin .int .add (.t 10) (.c (.int .i64 1))),
 mv 5 11]))))))
 (.seq
 (.reg [oo 4 (.move (.c (.bool false)))])
 .ret)))
theorem in150 {args : List AV} {σ : Store} {K : AV → Store → Prop} (hargs : args.length ≤ 18 := by simp) (h : AWP Try.prog Try.f150.ntmps c150 (fun e t s => match e with | .exit _ => False | _ => Res [.slot 4] K t s) (env (argList 0 args)) σ) : ACalls Try.prog 150 args σ K :=
 enter (own := []) Try.func150 (by kernel_rfl) (by kernel_rfl) (by kernel_rfl) hargs h
/-- changeling/changelingref15.right -/
def c53 : ACode :=
(.seq
 (.reg [oo 3 (.new 54 (.t 0)),
 oo 6 (.move (.c (.bool false)))])
 (.seq
 (.reg [oo 18 (.lit false 3 1 [(.c (.int .i64 0)), (.c (.int .i64 0)), (.c (.int .i64 0)), (.c (.int .i64 0)), (.c (.int .i64 0))]),
 mv 7 18])
 (.seq
 (.reg [oo 8 (.move (.c (.str ⟨#[]⟩))),
 oo 9 (.move (.c (.int .i64 0))),
 oo 10 (.move (.c (.int .i64 0)))])
 (.seq
 (.reg [mv 19 2,
 mv 11 19])
 (.seq
 (.reg [oo 12 (.move (.c (.bool true)))])
 (.seq
 (.seq
 (.reg [oo 20 (.faddr 0 (.t 3)),
 oo 21 (.load none (.t 20))])
 (.block 0
 (.seq
 (.reg [oo 23 (.bin .int .eql (.t 21) (.c (.int .i64 1))),
 mv 22 23])
 (.cond (.t 22)
 (.seq
 (.reg [oo 24 (.faddr 1 (.t 3)),
 oo 25 (.load none (.t 24)),
 mv 8 25])
 (.reg [mv 26 2,
 oo 27 (.faddr 1 (.t 3)),
 oo 28 (.load none (.t 27)),
 oo 29 (.call 52 [(.t 26), (.t 28)]),
 mv 12 29]))
 (.seq
 (.reg [oo 31 (.bin .int .eql (.t 21) (.c (.int .i64 2))),
 mv 30 31])
 (.cond (.t 30)
 (.seq
 (.reg [oo 32 (.faddr 1 (.t 3)),
 oo 33 (.load none (.t 32)),
 mv 8 33])
 (.reg [mv 34 1,
 oo 35 (.faddr 1 (.t 3)),
 oo 36 (.load none (.t 35)),
 oo 37 (.call 52 [(.t 34), (.t 36)]),
 mv 38 37,
 og 39 38 false (.faddr 1 (.t 3)),
 og 40 38 false (.load none (.t 39)),
 og 41 38 false (.call 50 [(.t 40)]),
 og 42 38 false (.bin .int .gtr (.t 41) (.c (.int .i64 0))),
 oo 43 (.pick (.t 38) (.c (.bool true)) (.t 42)),
 mv 12 43]))
 (.seq
 (.reg [oo 45 (.bin .int .eql (.t 21) (.c (.int .i64 3))),
 mv 44 45])
 (.cond (.t 44)
 (.reg [oo 46 (.faddr 2 (.t 3)),
 oo 47 (.load none (.t 46)),
 mv 9 47])
 (.seq
 (.reg [oo 49 (.bin .int .eql (.t 21) (.c (.int .i64 10))),
 mv 48 49])
 (.cond (.t 48)
 (.reg [oo 12 (.move (.c (.bool true)))])
 (.seq
 (.reg [oo 51 (.bin .int .eql (.t 21) (.c (.int .i64 4))),
 mv 50 51])
 (.cond (.t 50)
 (.seq
 (.reg [oo 52 (.faddr 1 (.t 3)),
 oo 53 (.load none (.t 52)),
 mv 8 53])
 (.seq
 (.reg [oo 54 (.faddr 2 (.t 3)),
 oo 55 (.load none (.t 54)),
 mv 9 55])
 (.seq
 (.reg [oo 56 (.faddr 3 (.t 3)),
 oo 57 (.load none (.t 56)),
 mv 10 57])
 (.reg [oo 58 (.faddr 1 (.t 3)),
 oo 59 (.load none (.t 58)),
 oo 60 (.bin .str .neq (.t 59) (.c (.str ⟨#[]⟩))),
 mv 61 60,
 og 62 61 true (.faddr 2 (.t 3)),
 og 63 61 true (.load none (.t 62)),
 og 64 61 true (.bin .int .geq (.t 63) (.c (.int .i64 0))),
 oo 65 (.pick (.t 61) (.t 64) (.c (.bool false))),
 mv 66 65,
 og 67 66 true (.faddr 3 (.t 3)),
 og 68 66 true (.load none (.t 67)),
 og 69 66 true (.bin .int .geq (.t 68) (.c (.int .i64 0))),
 oo 70 (.pick (.t 66) (.t 69) (.c (.bool false))),
 mv 12 70]))))
 (.seq
 (.reg [oo 72 (.bin .int .eql (.t 21) (.c (.int .i64 5))),
 mv 71 72])
 (.cond (.t 71)
 (.reg [oo 73 (.lit false 3 1 [(.c (.int .i64 0)), (.c (.int .i64 2)), (.c (.int .i64 0)), (.c (.int .i64 0)), (.c (.int .i64 0))]),
 mv 7 73])
 (.seq
 (.reg [oo 75 (.bin .int .eql (.t 21) (.c (.int .i64 9))),
 mv 74 75])
 (.cond (.t 74)
 (.seq
 (.reg [oo 76 (.lit false 3 1 [(.c (.int .i64 0)), (.c (.int .i64 2)), (.c (.int .i64 0)), (.c (.int .i64 0)), (.c (.int .i64 0))]),
 mv 7 76])
 (.seq
 (.reg [oo 77 (.faddr 2 (.t 3)),
 oo 78 (.load none (.t 77)),
 mv 9 78])
 (.reg [oo 79 (.faddr 2 (.t 3)),
 oo 80 (.load none (.t 79)),
 oo 81 (.bin .int .geq (.t 80) (.c (.int .i64 1))),
 mv 82 81,
 og 83 82 true (.faddr 2 (.t 3)),
 og 84 82 true (.load none (.t 83)),
 og 85 82 true (.bin .int .leq (.t 84) (.c (.int .i64 11))),
 oo 86 (.pick (.t 82) (.t 85) (.c (.bool false))),
 mv 12 86])))
 (.seq
 (.reg [oo 88 (.bin .int .eql (.t 21) (.c (.int .i64 6))),
 mv 87 88])
 (.cond (.t 87)
 (.seq
 (.reg [oo 89 (.faddr 4 (.t 3)),
 oo 90 (.load none (.t 89)),
 oo 91 (.len .slice (.t 90)),
 oo 92 (.lit false 3 1 [(.t 91), (.c (.int .i64 1)), (.c (.int .i64 0)), (.c (.int .i64 0)), (.c (.int .i64 0))]),
 mv 7 92])
 (.seq
 (.reg [oo 93 (.faddr 4 (.t 3)),
 oo 94 (.load none (.t 93)),
 oo 95 (.len .slice (.t 94)),
 oo 96 (.bin .int .gtr (.t 95) (.c (.int .i64 0))),
 mv 97 96,
 og 98 97 true (.faddr 4 (.t 3)),
 og 99 97 true (.load none (.t 98)),
 og 100 97 true (.call 92 [(.t 99)]),
 oo 101 (.pick (.t 97) (.t 100) (.c (.bool false))),
 mv 12 101])
 (.reg [mv 102 2,
 oo 103 (.faddr 4 (.t 3)),
 oo 104 (.load none (.t 103)),
 oo 105 (.call 93 [(.t 102), (.t 104)]),
 mv 11 105])))
 (.seq
 (.reg [oo 107 (.bin .int .eql (.t 21) (.c (.int .i64 7))),
 mv 106 107])
 (.cond (.t 106)
 (.seq
 (.reg [oo 108 (.faddr 7 (.t 3)),
 oo 109 (.load none (.t 108)),
 oo 110 (.len .slice (.t 109)),
 oo 111 (.lit false 3 1 [(.c (.int .i64 0)), (.c (.int .i64 1)), (.c (.int .i64 0)), (.t 110), (.c (.int .i64 0))]),
 mv 7 111])
 (.seq
 (.reg [oo 112 (.faddr 7 (.t 3)),
 oo 113 (.load none (.t 112)),
 oo 114 (.len .slice (.t 113)),
 oo 115 (.bin .int .gtr (.t 114) (.c (.int .i64 0))),
 mv 116 115,
 og 117 116 true (.faddr 7 (.t 3)),
 og 118 116 true (.load none (.t 117)),
 og 119 116 true (.call 94 [(.t 118)]),
 og 120 116 true (.call 92 [(.t 119)]),
 oo 121 (.pick (.t 116) (.t 120) (.c (.bool false))),
 mv 12 121])
 (.reg [mv 122 2,
 oo 123 (.faddr 7 (.t 3)),
 oo 124 (.load none (.t 123)),
 oo 125 (.call 94 [(.t 124)]),
 oo 126 (.call 93 [(.t 122), (.t 125)]),
 mv 11 126])))
 (.seq
 (.reg [oo 128 (.bin .int .eql (.t 21) (.c (.int .i64 8))),
 mv 127 128])
 (.cond (.t 127)
 (.seq
 (.reg [oo 129 (.faddr 6 (.t 3)),
 oo 130 (.load none (.t 129)),
 oo 131 (.len .slice (.t 130)),
 oo 132 (.lit false 3 1 [(.c (.int .i64 0)), (.c (.int .i64 1)), (.t 131), (.c (.int .i64 0)), (.c (.int .i64 0))]),
 mv 7 132])
 (.reg [oo 133 (.faddr 6 (.t 3)),
 oo 134 (.load none (.t 133)),
 oo 135 (.len .slice (.t 134)),
 oo 136 (.bin .int .gtr (.t 135) (.c (.int .i64 0))),
 mv 12 136]))
 (.seq
 (.reg [oo 138 (.bin .int .eql (.t 21) (.c (.int .i64 11))),
 mv 137 138])
 (.cond (.t 137)
 (.reg [oo 139 (.faddr 8 (.t 3)),
 oo 140 (.load none (.t 139)),
 oo 141 (.len .slice (.t 140)),
 oo 142 (.lit false 3 1 [(.c (.int .i64 0)), (.c (.int .i64 1)), (.c (.int .i64 0)), (.c (.int .i64 0)), (.t 141)]),
 mv 7 142])
 (.seq
 (.reg [oo 6 (.move (.c (.bool false)))])
 .ret)))))))))))))))))))))))))
 (.seq
 (.seq
 (.reg [mv 143 12,
 oo 144 (.not (.t 143)),
 mv 145 144,
 og 146 145 false (.faddr 1 (.t 3)),
 og 147 145 false (.load none (.t 146)),
 og 148 145 false (.move (.t 8)),
 og 149 145 false (.bin .str .neq (.t 147) (.t 148)),
 oo 150 (.pick (.t 145) (.c (.bool true)) (.t 149)),
 mv 151 150,
 og 152 151 false (.faddr 2 (.t 3)),
 og 153 151 false (.load none (.t 152)),
 og 154 151 false (.move (.t 9)),
 og 155 151 false (.bin .int .neq (.t 153) (.t 154)),
 oo 156 (.pick (.t 151) (.c (.bool true)) (.t 155)),
 mv 157 156,
 og 158 157 false (.faddr 3 (.t 3)),
 og 159 157 false (.load none (.t 158)),
 og 160 157 false (.move (.t 10)),
 og 161 157 false (.bin .int .neq (.t 159) (.t 160)),
 oo 162 (.pick (.t 157) (.c (.bool true)) (.t 161)),
 mv 163 162,
 og 164 163 false (.load (some 9) (.t 3)),
 og 165 163 false (.call 96 [(.t 164)]),
 og 166 163 false (.move (.t 7)),
 og 167 163 false (.call 95 [(.t 165), (.t 166)]),
 og 168 163 false (.not (.t 167)),
 oo 169 (.pick (.t 163) (.c (.bool true)) (.t 168))])
 (.cond (.t 169)
 (.seq
 (.reg [oo 6 (.move (.c (.bool false)))])
 .ret)
 .skip))
 (.seq
 (.seq
 (.reg [oo 13 (.move (.c (.int .i64 0)))])
 (.block 1
 (.loop
 (.seq
 (.seq
 (.reg [mv 170 13,
 oo 171 (.faddr 5 (.t 3)),
 oo 172 (.load none (.t 171)),
 oo 173 (.len .slice (.t 172)),
 oo 174 (.bin .int .lss (.t 170) (.t 173))])
 (.cond (.t 174)
 .skip
 (.exit 1)))
 (.seq
 (.block 2
 (.reg [mv 177 12,
 mv 178 177,
 og 179 178 true (.faddr 5 (.t 3)),
 og 180 178 true (.load none (.t 179)),
 og 181 178 true (.move (.t 13)),
 og 182 178 true (.iaddr 9 (.t 180) (.t 181)),
 og 183 178 true (.load (some 9) (.t 182)),
 og 184 178 true (.move (.t 1)),
 og 185 178 true (.move (.t 11)),
 og 186 178 true (.call 53 [(.t 183), (.t 184), (.t 185)]),
 oo 187 (.pick (.t 178) (.t 186) (.c (.bool false))),
 mv 12 187]))
 (.reg [mv 175 13,
 oo 176 (.bin .int .add (.t 175) (.c (.int .i64 1))),
 mv 13 176]))))))
 (.seq
 (.seq
 (.reg [oo 14 (.move (.c (.int .i64 0)))])
 (.block 3
 (.loop
 (.seq
 (.seq
 (.reg [mv 188 14,
 oo 189 (.faddr 7 (.t 3)),
 oo 190 (.load none (.t 189)),
 oo 191 (.len .slice (.t 190)),
 oo 192 (.bin .int .lss (.t 188) (.t 191))])
 (.cond (.t 192)
 .skip
 (.exit 3)))
 (.seq
 (.block 4
 (.reg [mv 195 12,
 mv 196 195,
 og 197 196 true (.faddr 7 (.t 3)),
 og 198 196 true (.load none (.t 197)),
 og 199 196 true (.move (.t 14)),
 og 200 196 true (.iaddr 10 (.t 198) (.t 199)),
 og 201 196 true (.faddr 1 (.t 200)),
 og 202 196 true (.load (some 9) (.t 201)),
 og 203 196 true (.move (.t 1)),
 og 204 196 true (.move (.t 11)),
 og 205 196 true (.call 53 [(.t 202), (.t 203), (.t 204)]),
 oo 206 (.pick (.t 196) (.t 205) (.c (.bool false))),
 mv 12 206]))
 (.reg [mv 193 14,
 oo 194 (.bin .int .add (.t 193) (.c (.int .i64 1))),
 mv 14 194]))))))
 (.seq
 (.seq
 (.reg [oo 15 (.move (.c (.int .i64 0)))])
 (.block 5
 (.loop
 (.seq
 (.seq
 (.reg [mv 207 15,
 oo 208 (.faddr 8 (.t 3)),
 oo 209 (.load none (.t 208)),
 oo 210 (.len .slice (.t 209)),
 oo 211 (.bin .int .lss (.t 207) (.t 210))])
 (.cond (.t 211)
 .skip
 (.exit 5)))
 (.seq
 (.block 6
 (.seq
 (.reg [mv 214 12,
 mv 215 214,
 og 216 215 true (.faddr 8 (.t 3)),
 og 217 215 true (.load none (.t 216)),
 og 218 215 true (.move (.t 15)),
 og 219 215 true (.iaddr 10 (.t 217) (.t 218)),
 og 220 215 true (.faddr 1 (.t 219)),
 og 221 215 true (.load (some 9) (.t 220)),
 og 222 215 true (.move (.t 1)),
 og 223 215 true (.move (.t 2)),
 og 224 215 true (.call 53 [(.t 221), (.t 222), (.t 223)]),
 oo 225 (.pick (.t 215) (.t 224) (.c (.bool false))),
 mv 12 225])
 (.seq
 (.reg [oo 16 (.move (.c (.int .i64 0)))])
 (.block 7
 (.loop
 (.seq
 (.seq
 (.reg [mv 226 16,
 mv 227 15,
 oo 228 (.bin .int .lss (.t 226) (.t 227))])
 (.cond (.t 228)
 .skip
 (.exit 7)))
 (.seq
 (.block 8
 (.reg [mv 231 12,
 mv 232 231,
 og 233 232 true (.faddr 8 (.t 3)),
 og 234 232 true (.load none (.t 233)),
 og 235 232 true (.move (.t 16)),
 og 236 232 true (.iaddr 10 (.t 234) (.t 235)),
 og 237 232 true (.faddr 0 (.t 236)),
 og 238 232 true (.load none (.t 237)),
 og 239 232 true (.faddr 8 (.t 3)),
 og 240 232 true (.load none (.t 239)),
 og 241 232 true (.move (.t 15)),
 og 242 232 true (.iaddr 10 (.t 240) (.t 241)),
 og 243 232 true (.faddr 0 (.t 242)),
 og 244 232 true (.load none (.t 243)),
 og 245 232 true (.bin .int .neq (.t 238) (.t 244)),
 oo 246 (.pick (.t 232) (.t 245) (.c (.bool false))),
 mv 12 246]))
 (.reg [mv 229 16,
 oo 230 (.bin .int .add (.t 229) (.c (.int .i64 1))),
 mv 16 230]))))))))
 (.reg [mv 212 15,
 oo 213 (.bin .int .add (.t 212) (.c (.int .i64 1))),
 mv 15 213]))))))
 (.seq
 (.seq
 (.reg [oo 17 (.move (.c (.int .i64 0)))])
 (.block 9
 (.loop
 (.seq
 (.seq
 (.reg [mv 247 17,
 oo 248 (.faddr 6 (.t 3)),
 oo 249 (.load none (.t 248)),
 oo 250 (.len .slice (.t 249)),
 oo 251 (.bin .int .lss (.t 247) (.t 250))])
 (.cond (.t 251)
 .skip
 (.exit 9)))
 (.seq
 (.block 10
 (.draw [] [([⟨(some 254), .move (.t 12), none⟩], []),
 ([⟨(some 255), .move (.t 254), none⟩], []),
 ([⟨(some 256), .faddr 6 (.t 3), some (255, true)⟩], []),
 ([⟨(some 257), .load none (.t 256), some (255, true)⟩], []),
 ([⟨(some 258), .move (.t 17), some (255, true)⟩], []),
 ([⟨(some 259), .call 97 [(.t 257), (.t 258)], some (255, true)⟩], []),
 ([⟨(some 260), .pick (.t 255) (.t 259) (.c (.bool false)), none⟩], []),
 ([⟨(some 261), .move (.t 260), none⟩], []),
 ([⟨(some 262), .faddr 6 (.t 3), some (261, true)⟩], []),
 ([⟨(some 263), .load none (.t 262), some (261, true)⟩], []),
 ([⟨(some 264), .move (.t 17), some (261, true)⟩], []),
 ([⟨(some 265), .iaddr 13 (.t 263) (.t 264), some (261, true)⟩], []),
 ([⟨(some 266), .faddr 4 (.t 265), some (261, true)⟩], []),
 ([⟨(some 267), .load (some 9) (.t 266), some (261, true)⟩], []),
 ([⟨(some 268), .move (.t 1), some (261, true)⟩], []),
 ([⟨(some 269), .move (.t 2), some (261, true)⟩], []),
 ([⟨(some 270), .faddr 6 (.t 3), some (261, true)⟩], []),
 ([⟨(some 271), .load none (.t 270), some (261, true)⟩], []),
 ([⟨(some 272), .move (.t 17), some (261, true)⟩], []),
 ([⟨(some 273), .iaddr 13 (.t 271) (.t 272), some (261, true)⟩], []),
 ([⟨(some 274), .faddr 3 (.t 273), some (261, true)⟩], []),
 ([⟨(some 275), .load none (.t 274), some (261, true)⟩], []),
 ([⟨(some 276), .call 93 [(.t 269), (.t 275)], some (261, true)⟩], [⟨(some 262), .faddr 6 (.t 3), some (261, true)⟩, ⟨(some 263), .load none (.t 262), some (261, true)⟩, ⟨(some 265), .iaddr 13 (.t 263) (.t 264), some (261, true)⟩, ⟨(some 266), .faddr 4 (.t 265), some (261, true)⟩, ⟨(some 267), .load (some 9) (.t 266), some (261, true)⟩]),
 ([⟨(some 277), .call 53 [(.t 267), (.t 268), (.t 276)], some (261, true)⟩], []),
 ([⟨(some 278), .pick (.t 261) (.t 277) (.c (.bool false)), none⟩], []),
 ([⟨(some 12), .move (.t 278), none⟩], [])]))
 (.reg [mv 252 17,
 oo 253 (.bin .int .add (.t 252) (.c (.int .i64 1))),
 mv 17 253]))))))
 (.seq
 (.reg [mv 279 12,
 mv 6 279])
 .ret))))))))))))
theorem in53 {args : List AV} {σ : Store} {K : AV → Store → Prop} (hargs : args.length ≤ 280 := by simp) (h : AWP Try.prog Try.f53.ntmps c53 (fun e t s => match e with | .exit _ => False | _ => Res [.slot 6] K t s) (env (argList 0 args)) σ) : ACalls Try.prog 53 args σ K :=
 enter (own := []) Try.func53 (by kernel_rfl) (by kernel_rfl) (by kernel_rfl) hargs h
/-- changeling/changelingref15.joined -/
def c93 : ACode :=
(.seq
 (.reg [oo 4 (.move (.c .nils))])
 (.seq
 (.reg [oo 5 (.move (.c .nils))])
 (.seq
 (.seq
 (.reg [oo 6 (.move (.c (.int .i64 0)))])
 (.block 0
 (.loop
 (.seq
 (.seq
 (.reg [mv 8 6,
 mv 9 0,
 oo 10 (.len .slice (.t 9)),
 oo 11 (.bin .int .lss (.t 8) (.t 10))])
 (.cond (.t 11)
 .skip
 (.exit 0)))
 (.seq
 (.block 1
 (.reg [mv 14 5,
 mv 15 0,
 mv 16 6,
 oo 17 (.iaddr 1 (.t 15) (.t 16)),
 oo 18 (.load none (.t 17)),
 oo 19 (.lit false 9 1 [(.t 18)]),
 oo 20 (.append 9 1 16 (.t 14) (.t 19)),
 mv 5 20]))
 (.reg [mv 12 6,
 oo 13 (.bin .int .add (.t 12) (.c (.int .i64 1))),
 mv 6 13]))))))
 (.seq
 (.seq
 (.reg [oo 7 (.move (.c (.int .i64 0)))])
 (.block 2
 (.loop
 (.seq
 (.seq
 (.reg [mv 21 7,
 mv 22 1,
 oo 23 (.len .slice (.t 22)),
 oo 24 (.bin .int .lss (.t 21) (.t 23))])
 (.cond (.t 24)
 .skip
 (.exit 2)))
 (.seq
 (.block 3
 (.reg [mv 27 5,
 mv 28 1,
 mv 29 7,
 oo 30 (.iaddr 1 (.t 28) (.t 29)),
 oo 31 (.load none (.t 30)),
 oo 32 (.lit false 9 1 [(.t 31)]),
 oo 33 (.append 9 1 16 (.t 27) (.t 32)),
 mv 5 33]))
 (.reg [mv 25 7,
 oo 26 (.bin .int .add (.t 25) (.c (.int .i64 1))),
 mv 7 26]))))))
 (.seq
 (.reg [mv 34 5,
 mv 4 34])
 .ret)))))
theorem in93 {args : List AV} {σ : Store} {K : AV → Store → Prop} (hargs : args.length ≤ 35 := by simp) (h : AWP Try.prog Try.f93.ntmps c93 (fun e t s => match e with | .exit _ => False | _ => Res [.slot 4] K t s) (env (argList 0 args)) σ) : ACalls Try.prog 93 args σ K :=
 enter (own := []) Try.func93 (by kernel_rfl) (by kernel_rfl) (by kernel_rfl) hargs h
/-- changeling/changelingref15.names -/
def c94 : ACode :=
(.seq
 (.reg [oo 2 (.move (.c .nils))])
 (.seq
 (.reg [oo 3 (.move (.c .nils))])
 (.seq
 (.seq
 (.reg [oo 4 (.move (.c (.int .i64 0)))])
 (.block 0
 (.loop
 (.seq
 (.seq
 (.reg [mv 5 4,
 mv 6 0,
 oo 7 (.len .slice (.t 6)),
 oo 8 (.bin .int .lss (.t 5) (.t 7))])
 (.cond (.t 8)
 .skip
 (.exit 0)))
 (.seq
 (.block 1
 (.reg [mv 11 3,
 mv 12 0,
 mv 13 4,
 oo 14 (.iaddr 10 (.t 12) (.t 13)),
 oo 15 (.faddr 0 (.t 14)),
 oo 16 (.load none (.t 15)),
 oo 17 (.lit false 9 1 [(.t 16)]),
 oo 18 (.append 9 1 16 (.t 11) (.t 17)),
 mv 3 18]))
 (.reg [mv 9 4,
 oo 10 (.bin .int .add (.t 9) (.c (.int .i64 1))),
 mv 4 10]))))))
 (.seq
 (.reg [mv 19 3,
 mv 2 19])
 .ret))))
theorem in94 {args : List AV} {σ : Store} {K : AV → Store → Prop} (hargs : args.length ≤ 20 := by simp) (h : AWP Try.prog Try.f94.ntmps c94 (fun e t s => match e with | .exit _ => False | _ => Res [.slot 2] K t s) (env (argList 0 args)) σ) : ACalls Try.prog 94 args σ K :=
 enter (own := []) Try.func94 (by kernel_rfl) (by kernel_rfl) (by kernel_rfl) hargs h
/-- changeling/changelingref15.counts -/
def c96 : ACode :=
(.seq
 (.reg [oo 1 (.new 54 (.t 0)),
 oo 2 (.move (.c .nils))])
 (.seq
 (.reg [oo 3 (.faddr 4 (.t 1)),
 oo 4 (.load none (.t 3)),
 oo 5 (.len .slice (.t 4)),
 oo 6 (.faddr 5 (.t 1)),
 oo 7 (.load none (.t 6)),
 oo 8 (.len .slice (.t 7)),
 oo 9 (.faddr 6 (.t 1)),
 oo 10 (.load none (.t 9)),
 oo 11 (.len .slice (.t 10)),
 oo 12 (.faddr 7 (.t 1)),
 oo 13 (.load none (.t 12)),
 oo 14 (.len .slice (.t 13)),
 oo 15 (.faddr 8 (.t 1)),
 oo 16 (.load none (.t 15)),
 oo 17 (.len .slice (.t 16)),
 oo 18 (.lit false 3 1 [(.t 5), (.t 8), (.t 11), (.t 14), (.t 17)]),
 mv 2 18])
 .ret))
theorem in96 {args : List AV} {σ : Store} {K : AV → Store → Prop} (hargs : args.length ≤ 19 := by simp) (h : AWP Try.prog Try.f96.ntmps c96 (fun e t s => match e with | .exit _ => False | _ => Res [.slot 2] K t s) (env (argList 0 args)) σ) : ACalls Try.prog 96 args σ K :=
 enter (own := []) Try.func96 (by kernel_rfl) (by kernel_rfl) (by kernel_rfl) hargs h
/-- changeling/changelingref01.SameInts -/
def c95 : ACode :=
(.seq
 (.reg [oo 4 (.move (.c (.bool false)))])
 (.seq
 (.seq
 (.reg [mv 6 0,
 oo 7 (.len .slice (.t 6)),
 mv 8 1,
 oo 9 (.len .slice (.t 8)),
 oo 10 (.bin .int .neq (.t 7) (.t 9))])
 (.cond (.t 10)
 (.seq
 (.reg [oo 4 (.move (.c (.bool false)))])
 .ret)
 .skip))
 (.seq
 (.seq
 (.reg [oo 5 (.move (.c (.int .i64 0)))])
 (.block 0
 (.loop
 (.seq
 (.seq
 (.reg [mv 11 5,
 mv 12 0,
 oo 13 (.len .slice (.t 12)),
 oo 14 (.bin .int .lss (.t 11) (.t 13))])
 (.cond (.t 14)
 .skip
 (.exit 0)))
 (.seq
 (.block 1
 (.seq
 (.reg [mv 17 0,
 mv 18 5,
 oo 19 (.iaddr 1 (.t 17) (.t 18)),
 oo 20 (.load none (.t 19)),
 mv 21 1,
 mv 22 5,
 oo 23 (.iaddr 1 (.t 21) (.t 22)),
 oo 24 (.load none (.t 23)),
 oo 25 (.bin .int .neq (.t 20) (.t 24))])
 (.cond (.t 25)
 (.seq
 (.reg [oo 4 (.move (.c (.bool false)))])
 .ret)
 .skip)))
 (.reg [mv 15 5,
 oo 16 (.bin .int .add (.t 15) (.c (.int .i64 1))),
 mv 5 16]))))))
 (.seq
 (.reg [oo 4 (.move (.c (.bool true)))])
 .ret))))
theorem in95 {args : List AV} {σ : Store} {K : AV → Store → Prop} (hargs : args.length ≤ 26 := by simp) (h : AWP Try.prog Try.f95.ntmps c95 (fun e t s => match e with | .exit _ => False | _ => Res [.slot 4] K t s) (env (argList 0 args)) σ) : ACalls Try.prog 95 args σ K :=
 enter (own := []) Try.func95 (by kernel_rfl) (by kernel_rfl) (by kernel_rfl) hargs h
/-- changeling/changelingref15.alt -/
def c97 : ACode :=
(.seq
 (.reg [oo 4 (.move (.c (.bool false)))])
 (.seq
 (.reg [mv 8 0,
 mv 9 1,
 oo 10 (.iaddr 13 (.t 8) (.t 9)),
 oo 11 (.load (some 13) (.t 10)),
 oo 5 (.new 113 (.c (.agg [(.int .i64 0), (.str ⟨#[]⟩), (.int .i64 0), .nils, (.int .i64 0), (.str ⟨#[]⟩), (.int .i64 0), (.int .i64 0), .nils, .nils, .nils, .nils, .nils]))),
 ⟨none, .store 13 (.t 5) (.t 11), none⟩])
 (.seq
 (.seq
 (.reg [oo 6 (.move (.c (.int .i64 0)))])
 (.block 0
 (.loop
 (.seq
 (.seq
 (.reg [mv 12 6,
 mv 13 1,
 oo 14 (.bin .int .lss (.t 12) (.t 13))])
 (.cond (.t 14)
 .skip
 (.exit 0)))
 (.seq
 (.block 1
 (.seq
 (.reg [mv 17 0,
 mv 18 6,
 oo 19 (.iaddr 13 (.t 17) (.t 18)),
 oo 20 (.load (some 13) (.t 19)),
 oo 7 (.new 113 (.c (.agg [(.int .i64 0), (.str ⟨#[]⟩), (.int .i64 0), .nils, (.int .i64 0), (.str ⟨#[]⟩), (.int .i64 0), (.int .i64 0), .nils, .nils, .nils, .nils, .nils]))),
 ⟨none, .store 13 (.t 7) (.t 20), none⟩])
 (.seq
 (.reg [oo 21 (.faddr 0 (.t 7)),
 oo 22 (.load none (.t 21)),
 oo 23 (.faddr 0 (.t 5)),
 oo 24 (.load none (.t 23)),
 oo 25 (.bin .int .neq (.t 22) (.t 24)),
 mv 26 25,
 og 27 26 true (.faddr 0 (.t 5)),
 og 28 26 true (.load none (.t 27)),
 og 29 26 true (.bin .int .neq (.t 28) (.c (.int .i64 3))),
 oo 30 (.pick (.t 26) (.t 29) (.c (.bool false))),
 mv 31 30,
 og 32 31 false (.faddr 0 (.t 5)),
 og 33 31 false (.load none (.t 32)),
 og 34 31 false (.bin .int .eql (.t 33) (.c (.int .i64 1))),
 og 35 31 false (.move (.t 34)),
 og 36 35 true (.faddr 1 (.t 7)),
 og 37 35 true (.load none (.t 36)),
 og 38 35 true (.faddr 1 (.t 5)),
 og 39 35 true (.load none (.t 38)),
 og 40 35 true (.bin .str .eql (.t 37) (.t 39)),
 og 41 31 false (.pick (.t 35) (.t 40) (.c (.bool false))),
 oo 42 (.pick (.t 31) (.c (.bool true)) (.t 41)),
 mv 43 42,
 og 44 43 false (.faddr 0 (.t 5)),
 og 45 43 false (.load none (.t 44)),
 og 46 43 false (.bin .int .eql (.t 45) (.c (.int .i64 2))),
 og 47 43 false (.move (.t 46)),
 og 48 47 true (.faddr 2 (.t 7)),
 og 49 47 true (.load none (.t 48)),
 og 50 47 true (.faddr 2 (.t 5)),
 og 51 47 true (.load none (.t 50)),
 og 52 47 true (.bin .int .eql (.t 49) (.t 51)),
 og 53 43 false (.pick (.t 47) (.t 52) (.c (.bool false))),
 oo 54 (.pick (.t 43) (.c (.bool true)) (.t 53)),
 mv 55 54,
 og 56 55 false (.faddr 0 (.t 7)),
 og 57 55 false (.load none (.t 56)),
 og 58 55 false (.bin .int .eql (.t 57) (.c (.int .i64 3))),
 oo 59 (.pick (.t 55) (.c (.bool true)) (.t 58))])
 (.cond (.t 59)
 (.seq
 (.reg [oo 4 (.move (.c (.bool false)))])
 .ret)
 .skip))))
 (.reg [mv 15 6,
 oo 16 (.bin .int .add (.t 15) (.c (.int .i64 1))),
 mv 6 16]))))))
 (.seq
 (.seq
 (.reg [oo 60 (.faddr 0 (.t 5)),
 oo 61 (.load none (.t 60)),
 oo 62 (.bin .int .eql (.t 61) (.c (.int .i64 1)))])
 (.cond (.t 62)
 (.seq
 (.reg [oo 63 (.faddr 1 (.t 5)),
 oo 64 (.load none (.t 63)),
 oo 65 (.bin .str .neq (.t 64) (.c (.str ⟨#[]⟩))),
 mv 66 65,
 og 67 66 true (.faddr 2 (.t 5)),
 og 68 66 true (.load none (.t 67)),
 og 69 66 true (.bin .int .geq (.t 68) (.c (.int .i64 0))),
 oo 70 (.pick (.t 66) (.t 69) (.c (.bool false))),
 mv 71 70,
 og 72 71 true (.faddr 3 (.t 5)),
 og 73 71 true (.load none (.t 72)),
 og 74 71 true (.call 92 [(.t 73)]),
 oo 75 (.pick (.t 71) (.t 74) (.c (.bool false))),
 mv 4 75])
 .ret)
 .skip))
 (.seq
 (.reg [oo 76 (.faddr 1 (.t 5)),
 oo 77 (.load none (.t 76)),
 oo 78 (.bin .str .eql (.t 77) (.c (.str ⟨#[]⟩))),
 mv 79 78,
 og 80 79 true (.faddr 3 (.t 5)),
 og 81 79 true (.load none (.t 80)),
 og 82 79 true (.len .slice (.t 81)),
 og 83 79 true (.bin .int .eql (.t 82) (.c (.int .i64 0))),
 oo 84 (.pick (.t 79) (.t 83) (.c (.bool false))),
 mv 85 84,
 og 86 85 true (.faddr 0 (.t 5)),
 og 87 85 true (.load none (.t 86)),
 og 88 85 true (.bin .int .eql (.t 87) (.c (.int .i64 2))),
 og 89 85 true (.move (.t 88)),
 og 90 89 false (.faddr 0 (.t 5)),
 og 91 89 false (.load none (.t 90)),
 og 92 89 false (.bin .int .eql (.t 91) (.c (.int .i64 3))),
 og 93 89 false (.move (.t 92)),
 og 94 93 true (.faddr 2 (.t 5)),
 og 95 93 true (.load none (.t 94)),
 og 96 93 true (.bin .int .eql (.t 95) (.c (.int .i64 0))),
 og 97 89 false (.pick (.t 93) (.t 96) (.c (.bool false))),
 og 98 85 true (.pick (.t 89) (.c (.bool true)) (.t 97)),
 oo 99 (.pick (.t 85) (.t 98) (.c (.bool false))),
 mv 4 99])
 .ret)))))
theorem in97 {args : List AV} {σ : Store} {K : AV → Store → Prop} (hargs : args.length ≤ 100 := by simp) (h : AWP Try.prog Try.f97.ntmps c97 (fun e t s => match e with | .exit _ => False | _ => Res [.slot 4] K t s) (env (argList 0 args)) σ) : ACalls Try.prog 97 args σ K :=
 enter (own := []) Try.func97 (by kernel_rfl) (by kernel_rfl) (by kernel_rfl) hargs h
end Go.Proofs.Ytjjbjibbjbbeaaa
/- Numbers: what operators give. -/
set_option linter.unusedVariables false
set_option linter.unusedSimpArgs false
namespace Go.AL
def shl64 (x y : Int) : Int := IntKind.u64.wrap (x * 2 ^ min y.toNat 64)
def shr64 (x y : Int) : Int := x.fdiv (2 ^ min y.toNat 64)
def and64 (x y : Int) : Int := IntKind.u64.wrap (BitVec.ofInt 64 x &&& BitVec.ofInt 64 y).toNat
def or64 (x y : Int) : Int := IntKind.u64.wrap (BitVec.ofInt 64 x ||| BitVec.ofInt 64 y).toNat
theorem bin_shl (x y : Int) : aBin .int .shl (.int .u64 x) (.int .u64 y) = if y < 0 then none else some (.int .u64 (shl64 x y)) := by simp [aBin, shl64, IntKind.bits]
theorem bin_shr (x y : Int) : aBin .int .shr (.int .u64 x) (.int .u64 y) = if y < 0 then none else some (.int .u64 (shr64 x y)) := by simp [aBin, shr64, IntKind.bits]
theorem bin_and (x y : Int) : aBin .int .and (.int .u64 x) (.int .u64 y) = some (.int .u64 (and64 x y)) := (rfl)
theorem bin_or (x y : Int) : aBin .int .or (.int .u64 x) (.int .u64 y) = some (.int .u64 (or64 x y)) := (rfl)
def prodF (a b : Int) : Nat → Int
 | 0 => 0
 | i + 1 => if and64 (shr64 b i) 1 = 1 then IntKind.u64.wrap (prodF a b i + shl64 a i) else prodF a b i
/-- A round of a division, at a place. -/
def divR (a b : Int) (i : Int) (p : Int × Int) : Int × Int :=
 if shr64 p.2 63 = 1 ∨ b ≤ or64 (shl64 p.2 1) (and64 (shr64 a i) 1) then (or64 p.1 (shl64 1 i), IntKind.u64.wrap (or64 (shl64 p.2 1) (and64 (shr64 a i) 1) - b)) else (p.1, or64 (shl64 p.2 1) (and64 (shr64 a i) 1))
def divF (a b : Int) : Nat → Int × Int
 | 0 => (0, 0)
 | j + 1 => divR a b (63 - j) (divF a b j)
def sgnF (n : Int) (below : Bool) : Int := if below = true then IntKind.i64.wrap (IntKind.u64.wrap (0 - n)) else IntKind.i64.wrap n
def truF (b : Bool) : Int := if b = true then 1 else 0
def doF (op a b : Int) : Int × Int :=
 if ¬ (1 ≤ op ∧ op ≤ 11) then (0, 1)
 else if (op = 4 ∨ op = 5) ∧ b = 0 then (0, 10)
 else if op = 4 then (sgnF (divF (mag a) (mag b) 64).1 (!decide (decide (a < 0) = decide (b < 0))), 0)
 else if op = 5 then (sgnF (divF (mag a) (mag b) 64).2 (decide (a < 0)), 0)
 else if op = 1 then (IntKind.i64.wrap (IntKind.u64.wrap (IntKind.u64.wrap a + IntKind.u64.wrap b)), 0)
 else if op = 2 then (IntKind.i64.wrap (IntKind.u64.wrap (IntKind.u64.wrap a + IntKind.u64.wrap (0 - IntKind.u64.wrap b))), 0)
 else if op = 3 then (IntKind.i64.wrap (prodF (IntKind.u64.wrap a) (IntKind.u64.wrap b) 64), 0)
 else if op = 6 then (truF (decide (a = b)), 0)
 else if op = 7 then (truF (!decide (a = b)), 0)
 else if op = 8 then (truF (decide (a < b)), 0)
 else if op = 9 then (truF (!decide (b < a)), 0)
 else if op = 10 then (truF (decide (b < a)), 0)
 else (truF (!decide (a < b)), 0)
end Go.AL
namespace Go.Proofs.Ytjjbjibbjbbeaaa
open Go.AL
theorem product_ok (a b : Int) (σ : Store) : ACalls Try.prog 165 [.int .u64 a, .int .u64 b] σ fun r s => r = .int .u64 (prodF a b 64) ∧ s = σ := by
 refine in165 (by simp) ?_
 unfold c165
 refine raw ?_
 repeat (first | (with_reducible refine unr ?_; try simp only [YY, ↓reduceIte, Za, Zb, Zc, reduceCtorEq, Zd, Ze, Zf, Zg, Zh, Zi, Zj]) | (with_reducible refine WW (by decide) ?_))
 refine AWP_while [0, 1, 5, 6] (fun i : Nat => 64 - i) (fun i => [.int .u64 a, .int .u64 b, .int .u64 (prodF a b i), .int .i64 i]) (fun i t => t = σ ∧ i ≤ 64) 0 ⟨rfl, by simp⟩ ?_ ?_
 · refine raw ?_
   repeat (first | (with_reducible refine unr ?_; try simp only [YY, ↓reduceIte, Za, Zb, Zc, reduceCtorEq, Zd, Ze, Zf, Zg, Zh, Zi, Zj]) | (with_reducible refine WW (by decide) ?_))
   rfl
 rintro i t ⟨rfl, hi⟩
 have hw := wrap_succ (i := i) (by omega)
 by_cases hil : (i : Int) < 64
 · have hu : IntKind.u64.wrap (i : Int) = (i : Int) := by rw [wrap_u64']; omega
   have h0 : ¬ (i : Int) < 0 := by omega
   by_cases hc : and64 (shr64 b i) 1 = 1
   · refine raw ?_
     repeat (first | (with_reducible refine unr ?_; try simp only [YY, ↓reduceIte, Za, Zb, Zc, reduceCtorEq, Zd, Ze, Zf, Zg, Zh, Zi, Zj, hil, hw, hu, h0, bin_shl, bin_shr, bin_and, hc]) | (with_reducible refine WW (by decide) ?_))
     exact ⟨i + 1, by simp [prodF, hc], by omega, by omega⟩
   · refine raw ?_
     repeat (first | (with_reducible refine unr ?_; try simp only [YY, ↓reduceIte, Za, Zb, Zc, reduceCtorEq, Zd, Ze, Zf, Zg, Zh, Zi, Zj, hil, hw, hu, h0, bin_shl, bin_shr, bin_and, hc]) | (with_reducible refine WW (by decide) ?_))
     exact ⟨i + 1, by simp [prodF, hc], by omega, by omega⟩
 · refine raw ?_
   repeat (first | (with_reducible refine unr ?_; try simp only [YY, ↓reduceIte, Za, Zb, Zc, reduceCtorEq, Zd, Ze, Zf, Zg, Zh, Zi, Zj, hil]) | (with_reducible refine WW (by decide) ?_))
   have : i = 64 := by omega
   subst this
   rfl
theorem divided_ok (a b : Int) (σ : Store) : ACalls Try.prog 164 [.int .u64 a, .int .u64 b] σ fun r s => r = .tuple [.int .u64 (divF a b 64).1, .int .u64 (divF a b 64).2] ∧ s = σ := by
 refine in164 (by simp) ?_
 unfold c164
 refine raw ?_
 repeat (first | (with_reducible refine unr ?_; try simp only [YY, ↓reduceIte, Za, Zb, Zc, reduceCtorEq, Zd, Ze, Zf, Zg, Zh, Zi, Zj]) | (with_reducible refine WW (by decide) ?_))
 refine AWP_while [0, 1, 6, 7, 8] (fun j : Nat => 64 - j) (fun j => [.int .u64 a, .int .u64 b, .int .u64 (divF a b j).1, .int .u64 (divF a b j).2, .int .i64 (63 - j)]) (fun j t => t = σ ∧ j ≤ 64) 0 ⟨rfl, by simp⟩ ?_ ?_
 · refine raw ?_
   repeat (first | (with_reducible refine unr ?_; try simp only [YY, ↓reduceIte, Za, Zb, Zc, reduceCtorEq, Zd, Ze, Zf, Zg, Zh, Zi, Zj]) | (with_reducible refine WW (by decide) ?_))
   rfl
 rintro j t ⟨rfl, hj⟩
 by_cases hil : (0 : Int) ≤ 63 - j
 · have hu : IntKind.u64.wrap (63 - (j : Int)) = 63 - j := by rw [wrap_u64']; omega
   have hw : IntKind.i64.wrap (63 - (j : Int) - 1) = 63 - ((j + 1 : Nat) : Int) := by rw [wrap_of (by omega) (by omega)]; omega
   have h0 : ¬ (63 - (j : Int)) < 0 := by omega
   by_cases hh : shr64 (divF a b j).2 63 = 1
   · refine raw ?_
     repeat (first | (with_reducible refine unr ?_; try simp only [YY, ↓reduceIte, Za, Zb, Zc, reduceCtorEq, Zd, Ze, Zf, Zg, Zh, Zi, Zj, hil, hw, hu, h0, bin_shl, bin_shr, bin_and, bin_or, hh]) | (with_reducible refine WW (by decide) ?_))
     exact ⟨j + 1, by simp [divF, divR, hh], by omega, by omega⟩
   · by_cases hb : b ≤ or64 (shl64 (divF a b j).2 1) (and64 (shr64 a (63 - j)) 1)
     · refine raw ?_
       repeat (first | (with_reducible refine unr ?_; try simp only [YY, ↓reduceIte, Za, Zb, Zc, reduceCtorEq, Zd, Ze, Zf, Zg, Zh, Zi, Zj, hil, hw, hu, h0, bin_shl, bin_shr, bin_and, bin_or, hh, hb]) | (with_reducible refine WW (by decide) ?_))
       exact ⟨j + 1, by simp [divF, divR, hh, hb], by omega, by omega⟩
     · refine raw ?_
       repeat (first | (with_reducible refine unr ?_; try simp only [YY, ↓reduceIte, Za, Zb, Zc, reduceCtorEq, Zd, Ze, Zf, Zg, Zh, Zi, Zj, hil, hw, hu, h0, bin_shl, bin_shr, bin_and, bin_or, hh, hb]) | (with_reducible refine WW (by decide) ?_))
       exact ⟨j + 1, by simp [divF, divR, hh, hb], by omega, by omega⟩
 · refine raw ?_
   repeat (first | (with_reducible refine unr ?_; try simp only [YY, ↓reduceIte, Za, Zb, Zc, reduceCtorEq, Zd, Ze, Zf, Zg, Zh, Zi, Zj, hil]) | (with_reducible refine WW (by decide) ?_))
   have : j = 64 := by omega
   subst this
   rfl
theorem size_u (n : Int) (σ : Store) : ACalls Try.prog 162 [.int .i64 n] σ fun r s => r = .int .u64 (mag n) ∧ s = σ := by
 refine in162 (by simp) ?_
 unfold c162
 by_cases h : n < 0
 · refine raw ?_
   repeat (first | (with_reducible refine unr ?_; try simp only [YY, ↓reduceIte, Za, Zb, Zc, reduceCtorEq, Zd, Ze, Zf, Zg, Zh, Zi, Zj, h]) | (with_reducible refine WW (by decide) ?_))
   simp [mag, h]
 · refine raw ?_
   repeat (first | (with_reducible refine unr ?_; try simp only [YY, ↓reduceIte, Za, Zb, Zc, reduceCtorEq, Zd, Ze, Zf, Zg, Zh, Zi, Zj, h]) | (with_reducible refine WW (by decide) ?_))
   simp [mag, h]
theorem signed_u (n : Int) (b : Bool) (σ : Store) : ACalls Try.prog 148 [.int .u64 n, .bool b] σ fun r s => r = .int .i64 (sgnF n b) ∧ s = σ := by
 refine in148 (by simp) ?_
 unfold c148
 cases b with
 | true =>
  refine raw ?_
  repeat (first | (with_reducible refine unr ?_; try simp only [YY, ↓reduceIte, Za, Zb, Zc, reduceCtorEq, Zd, Ze, Zf, Zg, Zh, Zi, Zj]) | (with_reducible refine WW (by decide) ?_))
  simp [sgnF]
 | false =>
  refine raw ?_
  repeat (first | (with_reducible refine unr ?_; try simp only [YY, ↓reduceIte, Za, Zb, Zc, reduceCtorEq, Zd, Ze, Zf, Zg, Zh, Zi, Zj]) | (with_reducible refine WW (by decide) ?_))
  simp [sgnF]
theorem truth_u (b : Bool) (σ : Store) : ACalls Try.prog 166 [.bool b] σ fun r s => r = .int .i64 (truF b) ∧ s = σ := by
 refine in166 (by simp) ?_
 unfold c166
 cases b with
 | true =>
  refine raw ?_
  repeat (first | (with_reducible refine unr ?_; try simp only [YY, ↓reduceIte, Za, Zb, Zc, reduceCtorEq, Zd, Ze, Zf, Zg, Zh, Zi, Zj]) | (with_reducible refine WW (by decide) ?_))
  simp [truF]
 | false =>
  refine raw ?_
  repeat (first | (with_reducible refine unr ?_; try simp only [YY, ↓reduceIte, Za, Zb, Zc, reduceCtorEq, Zd, Ze, Zf, Zg, Zh, Zi, Zj]) | (with_reducible refine WW (by decide) ?_))
  simp [truF]
theorem rightOp_u (op : Int) (σ : Store) : ACalls Try.prog 163 [.int .i64 op] σ fun r s => r = .bool (decide (1 ≤ op ∧ op ≤ 11)) ∧ s = σ := by
 refine in163 (by simp) ?_
 unfold c163
 by_cases h : 1 ≤ op
 · refine raw ?_
   repeat (first | (with_reducible refine unr ?_; try simp only [YY, ↓reduceIte, Za, Zb, Zc, reduceCtorEq, Zd, Ze, Zf, Zg, Zh, Zi, Zj, h]) | (with_reducible refine WW (by decide) ?_))
   try simp [h]
 · refine raw ?_
   repeat (first | (with_reducible refine unr ?_; try simp only [YY, ↓reduceIte, Za, Zb, Zc, reduceCtorEq, Zd, Ze, Zf, Zg, Zh, Zi, Zj, h]) | (with_reducible refine WW (by decide) ?_))
   try simp [h]
theorem do_ok (op a b : Int) (σ : Store) : ACalls Try.prog 151 [.int .i64 op, .int .i64 a, .int .i64 b] σ fun r s => r = .tuple [.int .i64 (doF op a b).1, .int .i64 (doF op a b).2] ∧ s = σ := by
 refine in151 (by simp) ?_
 unfold c151
 refine raw ?_
 repeat (first | (with_reducible refine unr ?_; try simp only [YY, ↓reduceIte, Za, Zb, Zc, reduceCtorEq, Zd, Ze, Zf, Zg, Zh, Zi, Zj]) | (with_reducible refine WW (by decide) ?_))
 refine (rightOp_u op _).mono ?_
 rintro _ _ ⟨rfl, rfl⟩
 by_cases h1 : 1 ≤ op ∧ op ≤ 11
 · have hd : decide (1 ≤ op ∧ op ≤ 11) = true := by simp [h1]
   have hk : op = 1 ∨ op = 2 ∨ op = 3 ∨ op = 4 ∨ op = 5 ∨ op = 6 ∨ op = 7 ∨ op = 8 ∨ op = 9 ∨ op = 10 ∨ op = 11 := by omega
   rw [hd]
   rcases hk with rfl | rfl | rfl | rfl | rfl | rfl | rfl | rfl | rfl | rfl | rfl
   · refine raw ?_
     repeat (first | (with_reducible refine unr ?_; try simp only [YY, ↓reduceIte, Za, Zb, Zc, reduceCtorEq, Zd, Ze, Zf, Zg, Zh, Zi, Zj]) | (with_reducible refine WW (by decide) ?_))
     try simp [doF]
   · refine raw ?_
     repeat (first | (with_reducible refine unr ?_; try simp only [YY, ↓reduceIte, Za, Zb, Zc, reduceCtorEq, Zd, Ze, Zf, Zg, Zh, Zi, Zj]) | (with_reducible refine WW (by decide) ?_))
     try simp [doF]
   · refine raw ?_
     repeat (first | (with_reducible refine unr ?_; try simp only [YY, ↓reduceIte, Za, Zb, Zc, reduceCtorEq, Zd, Ze, Zf, Zg, Zh, Zi, Zj]) | (with_reducible refine WW (by decide) ?_))
     refine (product_ok _ _ _).mono ?_
     rintro _ _ ⟨rfl, rfl⟩
     refine raw ?_
     repeat (first | (with_reducible refine unr ?_; try simp only [YY, ↓reduceIte, Za, Zb, Zc, reduceCtorEq, Zd, Ze, Zf, Zg, Zh, Zi, Zj]) | (with_reducible refine WW (by decide) ?_))
     try simp [doF]
   · by_cases hb : b = 0
     · refine raw ?_
       repeat (first | (with_reducible refine unr ?_; try simp only [YY, ↓reduceIte, Za, Zb, Zc, reduceCtorEq, Zd, Ze, Zf, Zg, Zh, Zi, Zj, hb]) | (with_reducible refine WW (by decide) ?_))
       simp [doF, hb]
     · refine raw ?_
       repeat (first | (with_reducible refine unr ?_; try simp only [YY, ↓reduceIte, Za, Zb, Zc, reduceCtorEq, Zd, Ze, Zf, Zg, Zh, Zi, Zj, hb]) | (with_reducible refine WW (by decide) ?_))
       refine (size_u a _).mono ?_
       rintro _ _ ⟨rfl, rfl⟩
       refine raw ?_
       repeat (first | (with_reducible refine unr ?_; try simp only [YY, ↓reduceIte, Za, Zb, Zc, reduceCtorEq, Zd, Ze, Zf, Zg, Zh, Zi, Zj]) | (with_reducible refine WW (by decide) ?_))
       refine (size_u b _).mono ?_
       rintro _ _ ⟨rfl, rfl⟩
       refine raw ?_
       repeat (first | (with_reducible refine unr ?_; try simp only [YY, ↓reduceIte, Za, Zb, Zc, reduceCtorEq, Zd, Ze, Zf, Zg, Zh, Zi, Zj]) | (with_reducible refine WW (by decide) ?_))
       refine (divided_ok _ _ _).mono ?_
       rintro _ _ ⟨rfl, rfl⟩
       refine raw ?_
       repeat (first | (with_reducible refine unr ?_; try simp only [YY, ↓reduceIte, Za, Zb, Zc, reduceCtorEq, Zd, Ze, Zf, Zg, Zh, Zi, Zj]) | (with_reducible refine WW (by decide) ?_))
       refine (signed_u _ _ _).mono ?_
       rintro _ _ ⟨rfl, rfl⟩
       refine raw ?_
       repeat (first | (with_reducible refine unr ?_; try simp only [YY, ↓reduceIte, Za, Zb, Zc, reduceCtorEq, Zd, Ze, Zf, Zg, Zh, Zi, Zj]) | (with_reducible refine WW (by decide) ?_))
       simp [doF, hb]
   · by_cases hb : b = 0
     · refine raw ?_
       repeat (first | (with_reducible refine unr ?_; try simp only [YY, ↓reduceIte, Za, Zb, Zc, reduceCtorEq, Zd, Ze, Zf, Zg, Zh, Zi, Zj, hb]) | (with_reducible refine WW (by decide) ?_))
       simp [doF, hb]
     · refine raw ?_
       repeat (first | (with_reducible refine unr ?_; try simp only [YY, ↓reduceIte, Za, Zb, Zc, reduceCtorEq, Zd, Ze, Zf, Zg, Zh, Zi, Zj, hb]) | (with_reducible refine WW (by decide) ?_))
       refine (size_u a _).mono ?_
       rintro _ _ ⟨rfl, rfl⟩
       refine raw ?_
       repeat (first | (with_reducible refine unr ?_; try simp only [YY, ↓reduceIte, Za, Zb, Zc, reduceCtorEq, Zd, Ze, Zf, Zg, Zh, Zi, Zj]) | (with_reducible refine WW (by decide) ?_))
       refine (size_u b _).mono ?_
       rintro _ _ ⟨rfl, rfl⟩
       refine raw ?_
       repeat (first | (with_reducible refine unr ?_; try simp only [YY, ↓reduceIte, Za, Zb, Zc, reduceCtorEq, Zd, Ze, Zf, Zg, Zh, Zi, Zj]) | (with_reducible refine WW (by decide) ?_))
       refine (divided_ok _ _ _).mono ?_
       rintro _ _ ⟨rfl, rfl⟩
       refine raw ?_
       repeat (first | (with_reducible refine unr ?_; try simp only [YY, ↓reduceIte, Za, Zb, Zc, reduceCtorEq, Zd, Ze, Zf, Zg, Zh, Zi, Zj]) | (with_reducible refine WW (by decide) ?_))
       refine (signed_u _ _ _).mono ?_
       rintro _ _ ⟨rfl, rfl⟩
       refine raw ?_
       repeat (first | (with_reducible refine unr ?_; try simp only [YY, ↓reduceIte, Za, Zb, Zc, reduceCtorEq, Zd, Ze, Zf, Zg, Zh, Zi, Zj]) | (with_reducible refine WW (by decide) ?_))
       simp [doF, hb]
   all_goals
    refine raw ?_
    repeat (first | (with_reducible refine unr ?_; try simp only [YY, ↓reduceIte, Za, Zb, Zc, reduceCtorEq, Zd, Ze, Zf, Zg, Zh, Zi, Zj]) | (with_reducible refine WW (by decide) ?_))
    refine (truth_u _ _).mono ?_
    rintro _ _ ⟨rfl, rfl⟩
    refine raw ?_
    repeat (first | (with_reducible refine unr ?_; try simp only [YY, ↓reduceIte, Za, Zb, Zc, reduceCtorEq, Zd, Ze, Zf, Zg, Zh, Zi, Zj]) | (with_reducible refine WW (by decide) ?_))
    simp [doF]
 · have hd : decide (1 ≤ op ∧ op ≤ 11) = false := by simp [h1]
   rw [hd]
   refine raw ?_
   repeat (first | (with_reducible refine unr ?_; try simp only [YY, ↓reduceIte, Za, Zb, Zc, reduceCtorEq, Zd, Ze, Zf, Zg, Zh, Zi, Zj]) | (with_reducible refine WW (by decide) ?_))
   try simp [doF, h1]
end Go.Proofs.Ytjjbjibbjbbeaaa
/- The machine: parts, operators. -/
set_option linter.unusedVariables false
set_option linter.unusedSimpArgs false
namespace Go.AL
theorem Val.num_at (v : Val) : v.cells[1]? = some (.int .i64 v.num) := by cases v <;> rfl
theorem Val.take15 (v : Val) : List.take 15 v.cells = v.cells := List.take_of_length_le (by rw [v.len]; omega)
section
variable {ds : List (ByteArray × Cr)} {sel : Int} {dF : Int → Int → Int → Int × Int} {most : Nat}
theorem AnsL.fail {t t' : Task} {σ s : Store} {mid st st' : Nat} {out : Int} {cs cs' : List AV} (hl : cs'.length = 15) (hm : s.get mid = some (mch ds sel st' most out)) (hk : MK σ s mid) (h1 : st ≤ st') (hs : Sem (lookD ds) sel dF most t cs false st' out)
 (h : ∀ n k, run (lookD ds) sel dF n t = some (.bad k) → ∃ n', run (lookD ds) sel dF n' t' = some (.bad k)) : AnsL ds sel dF most t' σ mid st (.tuple [.agg cs', .bool false]) s := by
 rcases hs with ⟨v, n, h1, _⟩ | ⟨k, n, _, h2, rfl, h4⟩ | ⟨_, h5⟩
 · cases h1
 · obtain ⟨n', h6⟩ := h n _ h4
   exact .bad n' hl hm hk h1 h2 h6
 · exact .low hl hm hk h1 h5
theorem Sem.yes {D : Defs} {t : Task} {cs : List AV} {st : Nat} {out : Int} (h : Sem D sel dF most t cs true st out) : ∃ v n, cs = v.cells ∧ out = 0 ∧ st ≤ most ∧ run D sel dF n t = some (.ok v) ∧ WfV (5000000 * st) v := by
 rcases h with ⟨v, n, _, h⟩ | ⟨k, n, h, _⟩ | ⟨h, _⟩
 · exact ⟨v, n, h⟩
 · cases h
 · cases h
end
theorem MK.fin {σ s1 s2 : Store} {mid id : Nat} {m : AObj} (k1 : MK σ s1 mid) (hk : MK s1 s2 mid) (hid : σ.next ≤ id) (hmid : mid < σ.next) (hm2 : s2.get mid = some m) (o : AObj) : (s2.upd id o).get mid = some m ∧ MK σ (s2.upd id o) mid :=
 ⟨by rw [Store.get_upd_ne _ _ (by omega)]; exact hm2, (k1.trans hk).upd hid o⟩
end Go.AL
namespace Go.Proofs.Ytjjbjibbjbbeaaa
open Go.AL
/-- What is known of evaluations that have fewer steps left. -/
def CoreH (ds : List (ByteArray × Cr)) (sel : Int) (most f : Nat) : Prop := ∀ (σ : Store) (mid st : Nat) (c : Cr) (e : Env), σ.get mid = some (mch ds sel st most 0) → st ≤ most → most < f + st → Gd c → WfE (5000000 * st) e →
 ACalls Try.prog 54 [.ptr mid 0 0 0, .agg c.cells, .list e.flat] σ (Ans ds sel doF most (.core c e) σ mid st)
variable {ds : List (ByteArray × Cr)} {sel : Int} {most : Nat}
theorem thunk_ok {f : Nat} (H : CoreH ds sel most f) {mid st : Nat} {σ : Store} (t : Thk) (hm : σ.get mid = some (mch ds sel st most 0)) (h1 : st ≤ most) (h2 : most < f + st) (ht : WfT (5000000 * st) t) :
 ACalls Try.prog 99 [.ptr mid 0 0 0, .agg (thkC t)] σ (Ans ds sel doF most (.core t.1 t.2) σ mid st) := by
 refine ACalls_leD (show ACalls Try.prog 99 _ σ (AnsL ds sel doF most (.core t.1 t.2) σ mid st) from ?_)
 refine in99 (by simp) ?_
 unfold c99
 have hmid := σ.lt hm
 have hz : valZ.length = 15 := rfl
 have hzd : List.drop 15 valZ = [] := rfl
 try simp only [YY, ↓reduceIte, Za, Zb, Zc, reduceCtorEq, Zd, Ze, Zf, Zg, Zh, Zi, Zj, thkC_len, thkC_10]
 iterate 2 ((with_reducible refine WW (by decide) ?_); refine unr ?_; try simp only [YY, ↓reduceIte, Za, Zb, Zc, reduceCtorEq, Zd, Ze, Zf, Zg, Zh, Zi, Zj, thkC_len, thkC_10])
 generalize hs : Store.push _ _ = s1
 have k1 : Kp σ s1 := by rw [← hs]; exact (Kp.pushed _ _).push _
 have hn1 : s1.next = σ.next + 2 := by rw [← hs]; rfl
 have g1 : s1.get σ.next = some (.cells 211 0 10 [thkC t]) := by rw [← hs]; simp [Store.push_get, Store.push_next]
 have g2 : s1.get (σ.next + 1) = some (.cells 132 0 15 [valZ]) := by rw [← hs]; simp [Store.push_get, Store.push_next]; rfl
 clear hs
 refine raw ?_
 repeat (first | (with_reducible refine unr ?_; try simp only [YY, ↓reduceIte, Za, Zb, Zc, reduceCtorEq, Zd, Ze, Zf, Zg, Zh, Zi, Zj, g1, thkC_c, thkC_e, thkC_len]) | (with_reducible refine WW (by decide) ?_))
 refine (H s1 mid st t.1 t.2 (k1.get hm) h1 h2 ht.1 ht.2).mono ?_
 rintro _ s2 ⟨cs, b, st', out, rfl, hl, hm2, hk, hst, hsem⟩
 have e2 := hk.get g2 (by omega)
 have hg : ∀ o : AObj, (s2.upd (σ.next + 1) o).get (σ.next + 1) = some o := fun o => Store.get_upd_self _ _ (s2.lt e2)
 have htk : List.take 15 cs = cs := List.take_of_length_le (by omega)
 refine raw ?_
 repeat (first | (with_reducible refine unr ?_; try simp only [YY, ↓reduceIte, Za, Zb, Zc, reduceCtorEq, Zd, Ze, Zf, Zg, Zh, Zi, Zj, e2, hl, hg, htk, hz, hzd, List.append_nil]) | (with_reducible refine WW (by decide) ?_))
 obtain ⟨q1, q2⟩ := MK.fin (MK.of k1) hk (by omega) hmid hm2 (id := σ.next + 1) (.cells 132 0 15 [cs])
 exact AnsL.tail hl q1 q2 hst hsem fun n r h => ⟨n, h⟩
end Go.Proofs.Ytjjbjibbjbbeaaa
/- The machine: an operator of two. -/
set_option linter.unusedVariables false
set_option linter.unusedSimpArgs false
namespace Go.Proofs.Ytjjbjibbjbbeaaa
open Go.AL
variable {ds : List (ByteArray × Cr)} {sel : Int} {most : Nat}
theorem prim_ok {f : Nat} (H : CoreH ds sel most f) {mid st : Nat} {σ : Store} (op : Int) (x y : Thk) (hm : σ.get mid = some (mch ds sel st most 0)) (h1 : st ≤ most) (h2 : most < f + st) (hx : WfT (5000000 * st) x) (hy : WfT (5000000 * st) y) :
 ACalls Try.prog 104 [.ptr mid 0 0 0, .int .i64 op, .agg (thkC x), .agg (thkC y)] σ (Ans ds sel doF most (.prim op x y) σ mid st) := by
 refine ACalls_leD (show ACalls Try.prog 104 _ σ (AnsL ds sel doF most (.prim op x y) σ mid st) from ?_)
 refine in104 (by simp) ?_
 unfold c104
 have hmid := σ.lt hm
 have hz : valZ.length = 15 := rfl
 have hzd : List.drop 15 valZ = [] := rfl
 try simp only [YY, ↓reduceIte, Za, Zb, Zc, reduceCtorEq, Zd, Ze, Zf, Zg, Zh, Zi, Zj, thkC_len, thkC_10]
 iterate 2 ((with_reducible refine WW (by decide) ?_); refine unr ?_; try simp only [YY, ↓reduceIte, Za, Zb, Zc, reduceCtorEq, Zd, Ze, Zf, Zg, Zh, Zi, Zj, thkC_len, thkC_10])
 generalize hs : Store.push _ _ = s1
 have k1 : Kp σ s1 := by rw [← hs]; exact ((Kp.pushed _ _).push _).push _
 have hn1 : s1.next = σ.next + 3 := by rw [← hs]; rfl
 have g1 : s1.get σ.next = some (.cells 211 0 10 [thkC x]) := by rw [← hs]; simp [Store.push_get, Store.push_next, self_ne2]
 have g2 : s1.get (σ.next + 1) = some (.cells 211 0 10 [thkC y]) := by rw [← hs]; simp [Store.push_get, Store.push_next]
 have g3 : s1.get (σ.next + 2) = some (.cells 132 0 15 [valZ]) := by rw [← hs]; simp [Store.push_get, Store.push_next]; rfl
 clear hs
 refine raw ?_
 repeat (first | (with_reducible refine unr ?_; try simp only [YY, ↓reduceIte, Za, Zb, Zc, reduceCtorEq, Zd, Ze, Zf, Zg, Zh, Zi, Zj, g1, thkC_10, thkC_len]) | (with_reducible refine WW (by decide) ?_))
 refine (thunk_ok H x (k1.get hm) h1 h2 hx).mono ?_
 rintro _ s2 ⟨cs, b, st1, out, rfl, hl, hm2, hk, hst, hsem⟩
 have e2 := hk.get g2 (by omega)
 have e3 := hk.get g3 (by omega)
 have hnx := hk.next
 have htk : List.take 15 cs = cs := List.take_of_length_le (by omega)
 try simp only [YY, ↓reduceIte, Za, Zb, Zc, reduceCtorEq, Zd, Ze, Zf, Zg, Zh, Zi, Zj, hl]
 iterate 0 ((with_reducible refine WW (by decide) ?_); refine unr ?_; try simp only [YY, ↓reduceIte, Za, Zb, Zc, reduceCtorEq, Zd, Ze, Zf, Zg, Zh, Zi, Zj, hl])
 generalize hs : Store.push s2 _ = s3
 have k3 : Kp s2 s3 := by rw [← hs]; exact .pushed _ _
 have f4 : s3.get s2.next = some (.cells 132 0 15 [cs]) := by rw [← hs]; simp [Store.push_get, Store.push_next]
 have e2 := k3.get e2
 have e3 := k3.get e3
 have hm3 := k3.get hm2
 have M3 : MK σ s3 mid := ((MK.of k1).trans hk).trans (.of k3)
 have hn3 := k3.next
 clear hs
 have hg : ∀ o : AObj, (s3.upd (σ.next + 2) o).get (σ.next + 2) = some o := fun o => Store.get_upd_self _ _ (s3.lt e3)
 cases b with
 | false =>
  refine raw ?_
  repeat (first | (with_reducible refine unr ?_; try simp only [YY, ↓reduceIte, Za, Zb, Zc, reduceCtorEq, Zd, Ze, Zf, Zg, Zh, Zi, Zj, f4, e3, hl, hg, htk, hz, hzd, List.append_nil]) | (with_reducible refine WW (by decide) ?_))
  obtain ⟨q1, q2⟩ := MK.fin (MK.refl σ mid) M3 (by omega) hmid hm3 (id := σ.next + 2) (.cells 132 0 15 [cs])
  refine AnsL.fail hl q1 q2 hst hsem fun n k h => ⟨n + 1, ?_⟩
  rw [run_op, h]
 | true =>
 obtain ⟨v, n1, rfl, rfl, hst1, hr1, hw1⟩ := hsem.yes
 refine raw ?_
 repeat (first | (with_reducible refine unr ?_; try simp only [YY, ↓reduceIte, Za, Zb, Zc, reduceCtorEq, Zd, Ze, Zf, Zg, Zh, Zi, Zj, f4, e2, thkC_10, thkC_len]) | (with_reducible refine WW (by decide) ?_))
 refine (thunk_ok H y hm3 hst1 (by omega) (hy.mono (by omega))).mono ?_
 rintro _ s4 ⟨cs, b, st2, out, rfl, hl4, hm4, hk4, hst4, hsem4⟩
 have e3 := hk4.get e3 (by omega)
 have f4 := hk4.get f4 (by omega)
 have hnx4 := hk4.next
 have htk4 : List.take 15 cs = cs := List.take_of_length_le (by omega)
 try simp only [YY, ↓reduceIte, Za, Zb, Zc, reduceCtorEq, Zd, Ze, Zf, Zg, Zh, Zi, Zj, hl4]
 iterate 0 ((with_reducible refine WW (by decide) ?_); refine unr ?_; try simp only [YY, ↓reduceIte, Za, Zb, Zc, reduceCtorEq, Zd, Ze, Zf, Zg, Zh, Zi, Zj, hl4])
 generalize hs : Store.push s4 _ = s5
 have k5 : Kp s4 s5 := by rw [← hs]; exact .pushed _ _
 have f5 : s5.get s4.next = some (.cells 132 0 15 [cs]) := by rw [← hs]; simp [Store.push_get, Store.push_next]
 have e3 := k5.get e3
 have f4 := k5.get f4
 have hm5 := k5.get hm4
 have M5 : MK σ s5 mid := (M3.trans hk4).trans (.of k5)
 clear hs
 have hg : ∀ o : AObj, (s5.upd (σ.next + 2) o).get (σ.next + 2) = some o := fun o => Store.get_upd_self _ _ (s5.lt e3)
 have up := fun n n' t r (h : n ≤ n') (hr : run (lookD ds) sel doF n t = some r) => run_mono (lookD ds) sel doF h hr
 cases b with
 | false =>
  refine raw ?_
  repeat (first | (with_reducible refine unr ?_; try simp only [YY, ↓reduceIte, Za, Zb, Zc, reduceCtorEq, Zd, Ze, Zf, Zg, Zh, Zi, Zj, f5, e3, hl4, hg, htk4, hz, hzd, List.append_nil]) | (with_reducible refine WW (by decide) ?_))
  obtain ⟨q1, q2⟩ := MK.fin (MK.refl σ mid) M5 (by omega) hmid hm5 (id := σ.next + 2) (.cells 132 0 15 [cs])
  refine AnsL.fail hl4 q1 q2 (by omega) hsem4 fun n k h => ⟨n1 + n + 1, ?_⟩
  rw [run_op, up _ _ _ _ (by omega) hr1, up n _ _ _ (by omega) h]
 | true =>
 obtain ⟨w, n2, rfl, rfl, hst2, hr2, hw2⟩ := hsem4.yes
 have hrun : ∀ r, (if (doF op v.num w.num).2 = 0 then (if op < 6 then some (Out1.ok (.whole (doF op v.num w.num).1)) else if (doF op v.num w.num).1 = 1 then some (.ok (.made tTrue [])) else some (.ok (.made tFalse []))) else some (.bad 3)) = some r →
  run (lookD ds) sel doF (n1 + n2 + 1) (.prim op x y) = some r := fun r hr => by
  rw [run_op, up _ _ _ _ (by omega) hr1, up _ _ _ _ (by omega) hr2]; exact hr
 have N1 := v.num_at
 have N2 := w.num_at
 refine raw ?_
 repeat (first | (with_reducible refine unr ?_; try simp only [YY, ↓reduceIte, Za, Zb, Zc, reduceCtorEq, Zd, Ze, Zf, Zg, Zh, Zi, Zj, f4, f5, N1, N2]) | (with_reducible refine WW (by decide) ?_))
 refine (do_ok op v.num w.num _).mono ?_
 rintro _ _ ⟨rfl, rfl⟩
 by_cases hd : (doF op v.num w.num).2 = 0
 · by_cases h6 : op < 6
   · refine raw ?_
     repeat (first | (with_reducible refine unr ?_; try simp only [YY, ↓reduceIte, Za, Zb, Zc, reduceCtorEq, Zd, Ze, Zf, Zg, Zh, Zi, Zj, hd, h6, e3, hg, hz, hzd, List.append_nil]) | (with_reducible refine WW (by decide) ?_))
     obtain ⟨q1, q2⟩ := MK.fin (MK.refl σ mid) M5 (by omega) hmid hm5 (id := σ.next + 2) (.cells 132 0 15 [[.int .i64 1, .int .i64 (doF op v.num w.num).1, .str ⟨#[]⟩, .int .i64 0, .nils] ++ zeroC ++ [.nils]])
     exact AnsL.val (.whole (doF op v.num w.num).1) (n1 + n2 + 1) leD_nil5 q1 q2 (by omega) hst2 (hrun _ (by rw [if_pos hd, if_pos h6])) trivial
   · by_cases h7 : (doF op v.num w.num).1 = 1
     · refine raw ?_
       repeat (first | (with_reducible refine unr ?_; try simp only [YY, ↓reduceIte, Za, Zb, Zc, reduceCtorEq, Zd, Ze, Zf, Zg, Zh, Zi, Zj, hd, h6, h7, e3, hg, hz, hzd, List.append_nil]) | (with_reducible refine WW (by decide) ?_))
       obtain ⟨q1, q2⟩ := MK.fin (MK.refl σ mid) M5 (by omega) hmid hm5 (id := σ.next + 2) (.cells 132 0 15 [[.int .i64 2, .int .i64 0, .str tTrue, .int .i64 0, .nils] ++ zeroC ++ [.nils]])
       exact AnsL.val (.made tTrue []) (n1 + n2 + 1) leD_nil5 q1 q2 (by omega) hst2 (hrun _ (by rw [if_pos hd, if_neg h6, if_pos h7])) ⟨by simp, by simp⟩
     · refine raw ?_
       repeat (first | (with_reducible refine unr ?_; try simp only [YY, ↓reduceIte, Za, Zb, Zc, reduceCtorEq, Zd, Ze, Zf, Zg, Zh, Zi, Zj, hd, h6, h7, e3, hg, hz, hzd, List.append_nil]) | (with_reducible refine WW (by decide) ?_))
       obtain ⟨q1, q2⟩ := MK.fin (MK.refl σ mid) M5 (by omega) hmid hm5 (id := σ.next + 2) (.cells 132 0 15 [[.int .i64 2, .int .i64 0, .str tFalse, .int .i64 0, .nils] ++ zeroC ++ [.nils]])
       exact AnsL.val (.made tFalse []) (n1 + n2 + 1) leD_nil5 q1 q2 (by omega) hst2 (hrun _ (by rw [if_pos hd, if_neg h6, if_neg h7])) ⟨by simp, by simp⟩
 · refine raw ?_
   repeat (first | (with_reducible refine unr ?_; try simp only [YY, ↓reduceIte, Za, Zb, Zc, reduceCtorEq, Zd, Ze, Zf, Zg, Zh, Zi, Zj, hd]) | (with_reducible refine WW (by decide) ?_))
   refine (wrong_ok hm5 3).mono ?_
   rintro _ s6 ⟨rfl, hm6, hk6⟩
   have e3 := hk6.get e3 (by omega)
   have hg : ∀ o : AObj, (s6.upd (σ.next + 2) o).get (σ.next + 2) = some o := fun o => Store.get_upd_self _ _ (s6.lt e3)
   have hzt : List.take 15 valZ = valZ := rfl
   refine raw ?_
   repeat (first | (with_reducible refine unr ?_; try simp only [YY, ↓reduceIte, Za, Zb, Zc, reduceCtorEq, Zd, Ze, Zf, Zg, Zh, Zi, Zj, e3, hg, hz, hzd, hzt, List.append_nil]) | (with_reducible refine WW (by decide) ?_))
   obtain ⟨q1, q2⟩ := MK.fin M5 hk6 (by omega) hmid hm6 (id := σ.next + 2) (.cells 132 0 15 [valZ])
   exact AnsL.bad (n1 + n2 + 1) rfl q1 q2 (by omega) (by decide) (hrun _ (by rw [if_neg hd]))
end Go.Proofs.Ytjjbjibbjbbeaaa
/- The machine: a function's value of an argument more. -/
set_option linter.unusedVariables false
set_option linter.unusedSimpArgs false
namespace Go.AL
def Val.k : Val → Int
 | .whole _ => 1
 | .made _ _ => 2
 | .lam _ _ _ => 4
 | .maker _ _ _ => 5
 | .prim _ _ => 6
def Val.con : Val → ByteArray
 | .made con _ => con
 | .maker con _ _ => con
 | _ => ⟨#[]⟩
def Val.need : Val → Int
 | .lam _ c _ => c.pss.length
 | .maker _ n _ => n
 | .prim _ _ => 2
 | _ => 0
def Val.aas : Val → List Thk
 | .whole _ => []
 | .made _ a => a
 | .lam a _ _ => a
 | .maker _ _ a => a
 | .prim _ a => a
def Val.rest : Val → List AV
 | .lam _ c e => c.cells ++ [.list e.flat]
 | _ => zeroC ++ [.nils]
theorem Val.shape (v : Val) : v.cells = valK v.k v.num v.con v.need v.aas ++ v.rest := by cases v <;> simp [Val.cells, Val.k, Val.num, Val.con, Val.need, Val.aas, Val.rest]
theorem Val.rest_len (v : Val) : v.rest.length = 10 := by cases v <;> simp [Val.rest, zeroC_len, Cr.len]
theorem WfV.aas {b : Nat} {v : Val} (h : WfV b v) : WfA b v.aas := by
 cases v with
 | whole n => exact ⟨by simp [Val.aas], by simp [Val.aas]⟩
 | made c a => exact h
 | lam a c e => exact h.1
 | maker c n a => exact h
 | prim n a => exact h.1
theorem thkE_of (p : ByteArray) (x : Thk) : AV.str p :: (thkC x ++ [.bool false, .int .i64 0, .str ⟨#[]⟩, .int .i64 0, .int .i64 0, .nils, .nils, .nils, .nils, .nils, .int .i64 0]) = thkE p x.1 x.2.flat := by simp [thkE, thkC, zeroC]
end Go.AL
namespace Go.Proofs.Ytjjbjibbjbbeaaa
open Go.AL
variable {ds : List (ByteArray × Cr)} {sel : Int} {most : Nat}
theorem wrongN_ok {mid st : Nat} {σ : Store} {out : Int} (hm : σ.get mid = some (mch ds sel st most out)) (ho : out ≠ 0) (k : Int) :
 ACalls Try.prog 100 [.ptr mid 0 0 0, .int .i64 k] σ fun r s => r = .tuple [.agg valZ, .bool false] ∧ s.get mid = some (mch ds sel st most out) ∧ MK σ s mid := by
 refine in100 (by simp) ?_
 unfold c100
 have hlt := σ.lt hm
 try simp only [YY, ↓reduceIte, Za, Zb, Zc, reduceCtorEq, Zd, Ze, Zf, Zg, Zh, Zi, Zj]
 iterate 2 ((with_reducible refine WW (by decide) ?_); refine unr ?_; try simp only [YY, ↓reduceIte, Za, Zb, Zc, reduceCtorEq, Zd, Ze, Zf, Zg, Zh, Zi, Zj])
 generalize hs : Store.push _ _ = s1
 have k1 : Kp σ s1 := by rw [← hs]; exact .pushed _ _
 have g1 : s1.get σ.next = some (.cells 132 0 15 [valZ]) := by rw [← hs]; simp [Store.push_get]; rfl
 have hm1 := k1.get hm
 have hm2 := hm1
 unfold mch at hm1
 clear hs
 have hg3 : ∀ o' : AObj, (s1.upd σ.next o').get σ.next = some o' := fun o' => Store.get_upd_self _ _ (s1.lt g1)
 have hv : valZ.length = 15 := rfl
 have hzd : List.drop 15 valZ = [] := rfl
 refine raw ?_
 repeat (first | (with_reducible refine unr ?_; try simp only [YY, ↓reduceIte, Za, Zb, Zc, reduceCtorEq, Zd, Ze, Zf, Zg, Zh, Zi, Zj, hm1, ho, g1, hg3, hv, hzd, List.append_nil]) | (with_reducible refine WW (by decide) ?_))
 exact ⟨rfl, by rw [Store.get_upd_ne _ _ (by omega)]; exact hm2, (MK.of k1).upd (Nat.le_refl _) _⟩
theorem apply_ok {f : Nat} (H : CoreH ds sel most f) (hmost : most ≤ 50000) {mid st : Nat} {σ : Store} (v : Val) (t : Thk) (hm : σ.get mid = some (mch ds sel st most 0)) (h1 : st ≤ most) (h2 : most < f + st) (hv : WfV (5000000 * st) v) (ht : WfT (5000000 * st) t) :
 ACalls Try.prog 101 [.ptr mid 0 0 0, .agg v.cells, .agg (thkC t)] σ (Ans ds sel doF most (.app v t) σ mid st) := by
 refine ACalls_leD (show ACalls Try.prog 101 _ σ (AnsL ds sel doF most (.app v t) σ mid st) from ?_)
 refine in101 (by simp) ?_
 unfold c101
 have hmid := σ.lt hm
 have hz : valZ.length = 15 := rfl
 have hzd : List.drop 15 valZ = [] := rfl
 have hvl := v.len
 have hv15 := v.take15
 have hrl := v.rest_len
 have hwa := hv.aas
 try simp only [YY, ↓reduceIte, Za, Zb, Zc, reduceCtorEq, Zd, Ze, Zf, Zg, Zh, Zi, Zj, thkC_len, thkC_10, hvl, hv15]
 iterate 4 ((with_reducible refine WW (by decide) ?_); refine unr ?_; try simp only [YY, ↓reduceIte, Za, Zb, Zc, reduceCtorEq, Zd, Ze, Zf, Zg, Zh, Zi, Zj, thkC_len, thkC_10, hvl, hv15])
 generalize hs : Store.push _ _ = s1
 have k1 : Kp σ s1 := by rw [← hs]; exact ((Kp.pushed _ _).push _).push _
 have hn1 : s1.next = σ.next + 3 := by rw [← hs]; rfl
 have g1 : s1.get σ.next = some (.cells 132 0 15 [v.cells]) := by rw [← hs]; simp [Store.push_get, Store.push_next, self_ne2]
 have g2 : s1.get (σ.next + 1) = some (.cells 211 0 10 [thkC t]) := by rw [← hs]; simp [Store.push_get, Store.push_next]
 have g3 : s1.get (σ.next + 2) = some (.cells 132 0 15 [valZ]) := by rw [← hs]; simp [Store.push_get, Store.push_next]; rfl
 clear hs
 rw [v.shape] at g1
 generalize hargs : v.aas = args at g1 hwa
 have hal := hwa.1
 have hw5 := wrap_of (x := (args.length : Int)) (by omega) (by omega)
 refine raw ?_
 repeat (first | (with_reducible refine unr ?_; try simp only [YY, ↓reduceIte, Za, Zb, Zc, reduceCtorEq, Zd, Ze, Zf, Zg, Zh, Zi, Zj]) | (with_reducible refine WW (by decide) ?_))
 refine AWP_while [0, 4, 5, 6, 8, 9] (fun y : AV × Nat => args.length - y.2) (fun y => [.ptr mid 0 0 0, .ptr σ.next 0 0 0, .ptr (σ.next + 1) 0 0 0, .ptr (σ.next + 2) 0 0 0, y.1, .int .i64 y.2])
  (fun y s => y.2 ≤ args.length ∧ Grow s1 s y.1 211 10 ((args.take y.2).map thkC)) (.nils, 0) ⟨by simp, .start _ _ _⟩ ?_ ?_
 · refine raw ?_
   repeat (first | (with_reducible refine unr ?_; try simp only [YY, ↓reduceIte, Za, Zb, Zc, reduceCtorEq, Zd, Ze, Zf, Zg, Zh, Zi, Zj]) | (with_reducible refine WW (by decide) ?_))
   rfl
 rintro ⟨u, i⟩ s ⟨hi, hG⟩
 simp only at hi hG
 have hw := wrap_succ (i := i) (by omega)
 have e1 := hG.kp.get g1
 have e2 := hG.kp.get g2
 have e3 := hG.kp.get g3
 by_cases hil : i < args.length
 · have hil' : (i : Int) < (args.length : Int) := by omega
   obtain ⟨x, hx⟩ : ∃ x, args[i]? = some x := ⟨_, List.getElem?_eq_getElem hil⟩
   have hg : (args.map thkC)[i]? = some (thkC x) := by simp [hx]
   refine raw ?_
   repeat (first | (with_reducible refine unr ?_; try simp only [YY, ↓reduceIte, Za, Zb, Zc, reduceCtorEq, Zd, Ze, Zf, Zg, Zh, Zi, Zj, hil', hg, e1, valK, thkC_len, thkC_10, List.cons_append, List.nil_append]) | (with_reducible refine WW (by decide) ?_))
   refine ok_grow hG (es2 := [thkC x]) (by simp [thkC_len]) (by simp; omega) (by simp [maxLen]; omega) ?_
   intro v' t3 hG3 _ _
   refine raw ?_
   repeat (first | (with_reducible refine unr ?_; try simp only [YY, ↓reduceIte, Za, Zb, Zc, reduceCtorEq, Zd, Ze, Zf, Zg, Zh, Zi, Zj, hw]) | (with_reducible refine WW (by decide) ?_))
   refine ⟨(v', i + 1), rfl, ⟨by simp only; omega, ?_⟩, by simp only; omega⟩
   rw [List.take_add_one, hx]; simpa using hG3
 have hil' : ¬ (i : Int) < (args.length : Int) := by omega
 rw [List.take_of_length_le (by omega)] at hG
 refine raw ?_
 repeat (first | (with_reducible refine unr ?_; try simp only [YY, ↓reduceIte, Za, Zb, Zc, reduceCtorEq, Zd, Ze, Zf, Zg, Zh, Zi, Zj, hil', e1, e2, valK, thkC_len, thkC_10, List.cons_append, List.nil_append]) | (with_reducible refine WW (by decide) ?_))
 refine ok_grow hG (es2 := [thkC t]) (by simp [thkC_len]) (by simp; omega) (by simp [maxLen]; omega) ?_
 intro u2 s3 hG3 _ _
 have e1 := hG3.kp.get g1
 have e2 := hG3.kp.get g2
 have e3 := hG3.kp.get g3
 have em := hG3.kp.get (k1.get hm)
 have hlt := s3.lt e1
 have hn3 := hG3.kp.next
 try simp only [YY, ↓reduceIte, Za, Zb, Zc, reduceCtorEq, Zd, Ze, Zf, Zg, Zh, Zi, Zj, e1, valK, List.cons_append, List.nil_append, hG3.sl.co]
 iterate 0 ((with_reducible refine WW (by decide) ?_); refine unr ?_; try simp only [YY, ↓reduceIte, Za, Zb, Zc, reduceCtorEq, Zd, Ze, Zf, Zg, Zh, Zi, Zj, e1, valK, List.cons_append, List.nil_append, hG3.sl.co])
 refine AWP_frozeO (hG3.sl.keep fun j hj => Store.get_upd_ne _ _ (by have := hG3.fresh j hj; omega)) (Store.get_upd_self _ _ hlt) (fun hj => by have := hG3.fresh _ hj; omega) (.cons (.cons (.refl _) (.cons (.refl _) (.cons (.refl _) (.cons (.refl _) (.cons .here (SubL.rf v.rest)))))) .nil) ?_
 intro s4 hn4 f1 hk4
 have keep : ∀ j, j < s1.next → j ≠ σ.next → s4.get j = s1.get j := fun j hj hne => by
  rw [hk4 j (fun hm => by have := hG3.fresh j hm; omega) hne, Store.get_upd_ne _ _ hne, hG3.kp.keep j hj]
 have f3 : s4.get (σ.next + 2) = some (.cells 132 0 15 [valZ]) := by rw [keep _ (by omega) (by omega)]; exact g3
 have fm : s4.get mid = some (mch ds sel st most 0) := by rw [keep _ (by omega) (by omega)]; exact k1.get hm
 have hnx : s3.next ≤ s4.next := by rw [hn4]; exact Nat.le_refl _
 have M4 : MK σ s4 mid := ⟨by omega, fun j hj hne => by rw [keep j (by omega) (by omega), k1.keep j hj]⟩
 have hmap : args.map thkC ++ [thkC t] = (args ++ [t]).map thkC := by simp
 rw [hmap] at f1
 clear keep hk4 e1 e2 e3 em hG hG3 g1 g2 g3
 have hzt : List.take 15 valZ = valZ := rfl
 have hneg : ¬ ((-1 : Int) = 0) := by decide
 cases v with
 | whole q =>
  simp only [Val.k, Val.num, Val.con, Val.need] at f1
  refine raw ?_
  repeat (first | (with_reducible refine unr ?_; try simp only [YY, ↓reduceIte, Za, Zb, Zc, reduceCtorEq, Zd, Ze, Zf, Zg, Zh, Zi, Zj, f1]) | (with_reducible refine WW (by decide) ?_))
  refine (wrong_ok fm (-2)).mono ?_
  rintro _ s6 ⟨rfl, hm6, hk6⟩
  have e3 := hk6.get f3 (by omega)
  have hg : ∀ o : AObj, (s6.upd (σ.next + 2) o).get (σ.next + 2) = some o := fun o => Store.get_upd_self _ _ (s6.lt e3)
  refine raw ?_
  repeat (first | (with_reducible refine unr ?_; try simp only [YY, ↓reduceIte, Za, Zb, Zc, reduceCtorEq, Zd, Ze, Zf, Zg, Zh, Zi, Zj, e3, hg, hz, hzd, hzt, List.append_nil]) | (with_reducible refine WW (by decide) ?_))
  obtain ⟨q1, q2⟩ := MK.fin M4 hk6 (by omega) hmid hm6 (id := σ.next + 2) (.cells 132 0 15 [valZ])
  exact AnsL.low rfl q1 q2 (by omega) (by decide)
 | made q1 q2 =>
  simp only [Val.k, Val.num, Val.con, Val.need] at f1
  refine raw ?_
  repeat (first | (with_reducible refine unr ?_; try simp only [YY, ↓reduceIte, Za, Zb, Zc, reduceCtorEq, Zd, Ze, Zf, Zg, Zh, Zi, Zj, f1]) | (with_reducible refine WW (by decide) ?_))
  refine (wrong_ok fm (-2)).mono ?_
  rintro _ s6 ⟨rfl, hm6, hk6⟩
  have e3 := hk6.get f3 (by omega)
  have hg : ∀ o : AObj, (s6.upd (σ.next + 2) o).get (σ.next + 2) = some o := fun o => Store.get_upd_self _ _ (s6.lt e3)
  refine raw ?_
  repeat (first | (with_reducible refine unr ?_; try simp only [YY, ↓reduceIte, Za, Zb, Zc, reduceCtorEq, Zd, Ze, Zf, Zg, Zh, Zi, Zj, e3, hg, hz, hzd, hzt, List.append_nil]) | (with_reducible refine WW (by decide) ?_))
  obtain ⟨q1, q2⟩ := MK.fin M4 hk6 (by omega) hmid hm6 (id := σ.next + 2) (.cells 132 0 15 [valZ])
  exact AnsL.low rfl q1 q2 (by omega) (by decide)
 | maker con need aa =>
  simp only [Val.aas] at hargs
  subst hargs
  simp only [Val.k, Val.num, Val.con, Val.need] at f1
  refine raw ?_
  repeat (first | (with_reducible refine unr ?_; try simp only [YY, ↓reduceIte, Za, Zb, Zc, reduceCtorEq, Zd, Ze, Zf, Zg, Zh, Zi, Zj, f1]) | (with_reducible refine WW (by decide) ?_))
  refine (step_ok fm h1 (by omega)).mono ?_
  rintro _ s5 ⟨b, rfl, hb, hm5, hk5⟩
  have f1 := hk5.get f1 (by omega)
  have f3 := hk5.get f3 (by omega)
  have M5 := M4.trans hk5
  cases b with
  | false =>
   refine raw ?_
   repeat (first | (with_reducible refine unr ?_; try simp only [YY, ↓reduceIte, Za, Zb, Zc, reduceCtorEq, Zd, Ze, Zf, Zg, Zh, Zi, Zj]) | (with_reducible refine WW (by decide) ?_))
   refine (wrongN_ok hm5 hneg (-2)).mono ?_
   rintro _ s6 ⟨rfl, hm6, hk6⟩
   have e3 := hk6.get f3 (by omega)
   have hg : ∀ o : AObj, (s6.upd (σ.next + 2) o).get (σ.next + 2) = some o := fun o => Store.get_upd_self _ _ (s6.lt e3)
   refine raw ?_
   repeat (first | (with_reducible refine unr ?_; try simp only [YY, ↓reduceIte, Za, Zb, Zc, reduceCtorEq, Zd, Ze, Zf, Zg, Zh, Zi, Zj, e3, hg, hz, hzd, hzt, List.append_nil]) | (with_reducible refine WW (by decide) ?_))
   obtain ⟨q1, q2⟩ := MK.fin M5 hk6 (by omega) hmid hm6 (id := σ.next + 2) (.cells 132 0 15 [valZ])
   exact AnsL.low rfl q1 q2 (by omega) (by decide)
  | true =>
  have hb := hb.1 rfl
  have hg : ∀ o : AObj, (s5.upd (σ.next + 2) o).get (σ.next + 2) = some o := fun o => Store.get_upd_self _ _ (s5.lt f3)
  have hwf : WfA (5000000 * (st + 1)) (aa ++ [t]) := ⟨by have := hwa.1; simp; omega, fun x hx => by
   rcases List.mem_append.1 hx with hx | hx
   · exact (hwa.2 x hx).mono (by omega)
   · simp at hx; subst hx; exact ht.mono (by omega)⟩
  obtain ⟨q1, q2⟩ : _ ∧ _ := ⟨hm5, M5⟩
  have hlen : ((aa ++ [t]).length : Int) = ((aa.length + 1 : Nat) : Int) := by simp
  have hr15 : List.take 10 (Val.maker con need aa).rest = (Val.maker con need aa).rest := List.take_of_length_le (by rw [Val.rest_len]; omega)
  by_cases hlt2 : ((aa.length + 1 : Nat) : Int) < need
  · refine raw ?_
    repeat (first | (with_reducible refine unr ?_; try simp only [YY, ↓reduceIte, Za, Zb, Zc, reduceCtorEq, Zd, Ze, Zf, Zg, Zh, Zi, Zj, f1, hlen, hlt2, hrl, hr15, f3, hg, hz, hzd, List.append_nil]) | (with_reducible refine WW (by decide) ?_))
    obtain ⟨q1, q2⟩ := MK.fin (MK.refl σ mid) M5 (by omega) hmid hm5 (id := σ.next + 2) (.cells 132 0 15 [(Val.maker con need (aa ++ [t])).cells])
    exact AnsL.val (.maker con need (aa ++ [t])) 1 (.refl _) q1 q2 (by omega) hb (by rw [run_maker, if_pos hlt2]) hwf
  · refine raw ?_
    repeat (first | (with_reducible refine unr ?_; try simp only [YY, ↓reduceIte, Za, Zb, Zc, reduceCtorEq, Zd, Ze, Zf, Zg, Zh, Zi, Zj, f1, hlen, hlt2, hrl, hr15, f3, hg, hz, hzd, List.append_nil]) | (with_reducible refine WW (by decide) ?_))
    obtain ⟨q1, q2⟩ := MK.fin (MK.refl σ mid) M5 (by omega) hmid hm5 (id := σ.next + 2) (.cells 132 0 15 [(Val.made con (aa ++ [t])).cells])
    exact AnsL.val (.made con (aa ++ [t])) 1 (.refl _) q1 q2 (by omega) hb (by rw [run_maker, if_neg hlt2]) hwf
 | prim q aa =>
  simp only [Val.aas] at hargs
  subst hargs
  simp only [Val.k, Val.num, Val.con, Val.need] at f1
  refine raw ?_
  repeat (first | (with_reducible refine unr ?_; try simp only [YY, ↓reduceIte, Za, Zb, Zc, reduceCtorEq, Zd, Ze, Zf, Zg, Zh, Zi, Zj, f1]) | (with_reducible refine WW (by decide) ?_))
  refine (step_ok fm h1 (by omega)).mono ?_
  rintro _ s5 ⟨b, rfl, hb, hm5, hk5⟩
  have f1 := hk5.get f1 (by omega)
  have f3 := hk5.get f3 (by omega)
  have M5 := M4.trans hk5
  cases b with
  | false =>
   refine raw ?_
   repeat (first | (with_reducible refine unr ?_; try simp only [YY, ↓reduceIte, Za, Zb, Zc, reduceCtorEq, Zd, Ze, Zf, Zg, Zh, Zi, Zj]) | (with_reducible refine WW (by decide) ?_))
   refine (wrongN_ok hm5 hneg (-2)).mono ?_
   rintro _ s6 ⟨rfl, hm6, hk6⟩
   have e3 := hk6.get f3 (by omega)
   have hg : ∀ o : AObj, (s6.upd (σ.next + 2) o).get (σ.next + 2) = some o := fun o => Store.get_upd_self _ _ (s6.lt e3)
   refine raw ?_
   repeat (first | (with_reducible refine unr ?_; try simp only [YY, ↓reduceIte, Za, Zb, Zc, reduceCtorEq, Zd, Ze, Zf, Zg, Zh, Zi, Zj, e3, hg, hz, hzd, hzt, List.append_nil]) | (with_reducible refine WW (by decide) ?_))
   obtain ⟨q1, q2⟩ := MK.fin M5 hk6 (by omega) hmid hm6 (id := σ.next + 2) (.cells 132 0 15 [valZ])
   exact AnsL.low rfl q1 q2 (by omega) (by decide)
  | true =>
  have hb := hb.1 rfl
  have hg : ∀ o : AObj, (s5.upd (σ.next + 2) o).get (σ.next + 2) = some o := fun o => Store.get_upd_self _ _ (s5.lt f3)
  have hwf : WfA (5000000 * (st + 1)) (aa ++ [t]) := ⟨by have := hwa.1; simp; omega, fun x hx => by
   rcases List.mem_append.1 hx with hx | hx
   · exact (hwa.2 x hx).mono (by omega)
   · simp at hx; subst hx; exact ht.mono (by omega)⟩
  obtain ⟨q1, q2⟩ : _ ∧ _ := ⟨hm5, M5⟩
  have hlen : ((aa ++ [t]).length : Int) = ((aa.length + 1 : Nat) : Int) := by simp
  have hr15 : List.take 10 (Val.prim q aa).rest = (Val.prim q aa).rest := List.take_of_length_le (by rw [Val.rest_len]; omega)
  cases aa with
  | nil =>
   have hlen : ((1 : Nat) : Int) = 1 := rfl
   simp only [List.nil_append] at f1
   refine raw ?_
   repeat (first | (with_reducible refine unr ?_; try simp only [YY, ↓reduceIte, Za, Zb, Zc, reduceCtorEq, Zd, Ze, Zf, Zg, Zh, Zi, Zj, f1, hlen, hrl, hr15, f3, hg, hz, hzd, List.append_nil]) | (with_reducible refine WW (by decide) ?_))
   obtain ⟨q1, q2⟩ := MK.fin (MK.refl σ mid) M5 (by omega) hmid hm5 (id := σ.next + 2) (.cells 132 0 15 [(Val.prim q [t]).cells])
   exact AnsL.val (.prim q [t]) 1 (.refl _) q1 q2 (by omega) hb (by rw [run_prim0]) ⟨hwf, by simp⟩
  | cons x aa =>
   have h0 : aa = [] := List.eq_nil_of_length_eq_zero (by have := hv.2; simp at this; omega)
   subst h0
   have hlen : ((2 : Nat) : Int) = 2 := rfl
   have ha0 : (([x, t]).map thkC)[0]? = some (thkC x) := rfl
   have ha1 : (([x, t]).map thkC)[1]? = some (thkC t) := rfl
   simp only [List.cons_append, List.nil_append] at f1
   refine raw ?_
   repeat (first | (with_reducible refine unr ?_; try simp only [YY, ↓reduceIte, Za, Zb, Zc, reduceCtorEq, Zd, Ze, Zf, Zg, Zh, Zi, Zj, f1, hlen, hrl, hr15, ha0, ha1, thkC_len, thkC_10]) | (with_reducible refine WW (by decide) ?_))
   refine (prim_ok H q x t hm5 hb (by omega) (hwf.2 x (by simp)) (hwf.2 t (by simp))).mono ?_
   rintro _ s6 ⟨cs, b, st', out, rfl, hl6, hm6, hk6, hst6, hsem⟩
   have f3 := hk6.get f3 (by omega)
   have hg : ∀ o : AObj, (s6.upd (σ.next + 2) o).get (σ.next + 2) = some o := fun o => Store.get_upd_self _ _ (s6.lt f3)
   have htk : List.take 15 cs = cs := List.take_of_length_le (by omega)
   refine raw ?_
   repeat (first | (with_reducible refine unr ?_; try simp only [YY, ↓reduceIte, Za, Zb, Zc, reduceCtorEq, Zd, Ze, Zf, Zg, Zh, Zi, Zj, f3, hl6, hg, htk, hz, hzd, List.append_nil]) | (with_reducible refine WW (by decide) ?_))
   obtain ⟨q1, q2⟩ := MK.fin M5 hk6 (by omega) hmid hm6 (id := σ.next + 2) (.cells 132 0 15 [cs])
   exact AnsL.tail hl6 q1 q2 (by omega) hsem fun n r h => ⟨n + 1, by rw [run_prim1]; exact h⟩
 | lam aa c e =>
  simp only [Val.aas] at hargs
  subst hargs
  obtain ⟨-, hgc, hck, hlp, hwe⟩ := hv
  obtain ⟨kk, nm, m, ar, ps, gs, al, bs, pk⟩ := c
  simp only [Cr.kd] at hck
  subst hck
  have hgc' := hgc
  cases hgc with
  | mk hnd hln hg1 _ _ _ =>
  obtain ⟨b, rfl⟩ := hnd.1.2.2.2 (.inl rfl)
  have hgb := hg1 b (by simp)
  simp only [Cr.pss] at hlp
  simp only [Val.k, Val.num, Val.con, Val.need, Val.rest, Cr.pss, Cr.cells_eq, List.cons_append, List.nil_append] at f1
  refine raw ?_
  repeat (first | (with_reducible refine unr ?_; try simp only [YY, ↓reduceIte, Za, Zb, Zc, reduceCtorEq, Zd, Ze, Zf, Zg, Zh, Zi, Zj, f1]) | (with_reducible refine WW (by decide) ?_))
  refine (step_ok fm h1 (by omega)).mono ?_
  rintro _ s5 ⟨b0, rfl, hb, hm5, hk5⟩
  have f1 := hk5.get f1 (by omega)
  have f3 := hk5.get f3 (by omega)
  have M5 := M4.trans hk5
  cases b0 with
  | false =>
   refine raw ?_
   repeat (first | (with_reducible refine unr ?_; try simp only [YY, ↓reduceIte, Za, Zb, Zc, reduceCtorEq, Zd, Ze, Zf, Zg, Zh, Zi, Zj]) | (with_reducible refine WW (by decide) ?_))
   refine (wrongN_ok hm5 hneg (-2)).mono ?_
   rintro _ s6 ⟨rfl, hm6, hk6⟩
   have e3 := hk6.get f3 (by omega)
   have hg : ∀ o : AObj, (s6.upd (σ.next + 2) o).get (σ.next + 2) = some o := fun o => Store.get_upd_self _ _ (s6.lt e3)
   refine raw ?_
   repeat (first | (with_reducible refine unr ?_; try simp only [YY, ↓reduceIte, Za, Zb, Zc, reduceCtorEq, Zd, Ze, Zf, Zg, Zh, Zi, Zj, e3, hg, hz, hzd, hzt, List.append_nil]) | (with_reducible refine WW (by decide) ?_))
   obtain ⟨q1, q2⟩ := MK.fin M5 hk6 (by omega) hmid hm6 (id := σ.next + 2) (.cells 132 0 15 [valZ])
   exact AnsL.low rfl q1 q2 (by omega) (by decide)
  | true =>
  have hb := hb.1 rfl
  have hg : ∀ o : AObj, (s5.upd (σ.next + 2) o).get (σ.next + 2) = some o := fun o => Store.get_upd_self _ _ (s5.lt f3)
  have hwf : WfA (5000000 * (st + 1)) (aa ++ [t]) := ⟨by have := hwa.1; simp; omega, fun x hx => by
   rcases List.mem_append.1 hx with hx | hx
   · exact (hwa.2 x hx).mono (by omega)
   · simp at hx; subst hx; exact ht.mono (by omega)⟩
  have hlen : ((aa ++ [t]).length : Int) = ((aa.length + 1 : Nat) : Int) := by simp
  by_cases hlt2 : aa.length + 1 < ps.length
  · have hlt3 : ((aa.length + 1 : Nat) : Int) < (ps.length : Int) := by omega
    refine raw ?_
    repeat (first | (with_reducible refine unr ?_; try simp only [YY, ↓reduceIte, Za, Zb, Zc, reduceCtorEq, Zd, Ze, Zf, Zg, Zh, Zi, Zj, f1, hlen, hlt3, f3, hg, hz, hzd, List.append_nil]) | (with_reducible refine WW (by decide) ?_))
    have q := MK.fin (MK.refl σ mid) M5 (by omega) hmid hm5 (id := σ.next + 2)
    refine AnsL.val (.lam (aa ++ [t]) (.mk 6 nm m ar ps [b] al bs pk) e) 1 ?_ (q _).1 (q _).2 (by omega) hb (by rw [run_lam, if_pos hlt2]) ⟨hwf, hgc', rfl, by simp [Cr.pss]; omega, hwe.mono (by omega)⟩
    simp only [Val.cells, valK, Cr.pss, Cr.cells_eq, List.cons_append, List.nil_append]
    exact .refl _
  have hlt3 : ¬ ((aa.length + 1 : Nat) : Int) < (ps.length : Int) := by omega
  have hpl : ps.length = (aa ++ [t]).length := by simp; omega
  generalize has : aa ++ [t] = bb at f1 hwf hlen hpl
  refine raw ?_
  repeat (first | (with_reducible refine unr ?_; try simp only [YY, ↓reduceIte, Za, Zb, Zc, reduceCtorEq, Zd, Ze, Zf, Zg, Zh, Zi, Zj, f1, hlen, hlt3]) | (with_reducible refine WW (by decide) ?_))
  refine AWP_while [0, 4, 6, 10, 11] (fun i : Nat => bb.length - i) (fun i => [.ptr mid 0 0 0, .ptr σ.next 0 0 0, .ptr (σ.next + 2) 0 0 0, .list (e.ext (ps.take i) (bb.take i)).flat, .int .i64 i])
   (fun i s => s = s5 ∧ i ≤ bb.length) 0 ⟨rfl, by simp⟩ ?_ ?_
  · refine raw ?_
    repeat (first | (with_reducible refine unr ?_; try simp only [YY, ↓reduceIte, Za, Zb, Zc, reduceCtorEq, Zd, Ze, Zf, Zg, Zh, Zi, Zj]) | (with_reducible refine WW (by decide) ?_))
    simp [Env.ext]
  rintro i _ ⟨rfl, hi⟩
  have hw := wrap_succ (i := i) (by omega)
  by_cases hil : i < bb.length
  · have hil' : (i : Int) < ((aa.length + 1 : Nat) : Int) := by omega
    obtain ⟨x, hx⟩ : ∃ x, bb[i]? = some x := ⟨_, List.getElem?_eq_getElem hil⟩
    obtain ⟨p, hp⟩ : ∃ p, ps[i]? = some p := ⟨_, List.getElem?_eq_getElem (by omega)⟩
    have hgx : (bb.map thkC)[i]? = some (thkC x) := by simp [hx]
    have hgp : (ps.map fun s => [AV.str s])[i]? = some [.str p] := by simp [hp]
    refine raw ?_
    repeat (first | (with_reducible refine unr ?_; try simp only [YY, ↓reduceIte, Za, Zb, Zc, reduceCtorEq, Zd, Ze, Zf, Zg, Zh, Zi, Zj, f1, hlen, hil', hgx, hgp, thkC_len, thkC_10]) | (with_reducible refine WW (by decide) ?_))
    rw [thkE_of]
    have hfl := ext_flat (ps.take i) (bb.take i) e (by simp; omega)
    refine (cwith_ok _ _ (flat_len _) (thkE_len _ _ _) (fun n q hq c hc => ?_) ?_ _).mono ?_
    · rcases List.mem_append.1 hq with hq | hq
      · exact flat_cln _ q hq c hc
      · simp at hq; subst hq; exact entC_cln (flat_cln _) c hc
    · have h3 := hwe.len
      rw [hfl]; simp only [List.length_take]; omega
    rintro _ _ ⟨rfl, rfl⟩
    refine raw ?_
    repeat (first | (with_reducible refine unr ?_; try simp only [YY, ↓reduceIte, Za, Zb, Zc, reduceCtorEq, Zd, Ze, Zf, Zg, Zh, Zi, Zj, hw]) | (with_reducible refine WW (by decide) ?_))
    refine ⟨i + 1, ?_, by omega, by omega⟩
    rw [List.take_add_one, List.take_add_one, hx, hp, Option.toList_some, Option.toList_some, ext_snoc _ _ _ _ _ (by simp; omega), Env.flat]
  · have hil' : ¬ (i : Int) < ((aa.length + 1 : Nat) : Int) := by omega
    have hib : i = bb.length := by omega
    rw [List.take_of_length_le (by omega), List.take_of_length_le (by omega)]
    refine raw ?_
    repeat (first | (with_reducible refine unr ?_; try simp only [YY, ↓reduceIte, Za, Zb, Zc, reduceCtorEq, Zd, Ze, Zf, Zg, Zh, Zi, Zj, f1, hlen, hil', Cr.len, Cr.take9]) | (with_reducible refine WW (by decide) ?_))
    have h3 := hwe.len
    refine (H _ mid (st + 1) b (e.ext ps bb) hm5 hb (by omega) hgb ((hwe.mono (by omega)).ext hwf.2 hpl (by omega))).mono ?_
    rintro _ s6 ⟨cs, b1, st', out, rfl, hl6, hm6, hk6, hst6, hsem⟩
    have f3 := hk6.get f3 (by omega)
    have hg : ∀ o : AObj, (s6.upd (σ.next + 2) o).get (σ.next + 2) = some o := fun o => Store.get_upd_self _ _ (s6.lt f3)
    have htk : List.take 15 cs = cs := List.take_of_length_le (by omega)
    refine raw ?_
    repeat (first | (with_reducible refine unr ?_; try simp only [YY, ↓reduceIte, Za, Zb, Zc, reduceCtorEq, Zd, Ze, Zf, Zg, Zh, Zi, Zj, f3, hl6, hg, htk, hz, hzd, List.append_nil]) | (with_reducible refine WW (by decide) ?_))
    obtain ⟨q1, q2⟩ := MK.fin M5 hk6 (by omega) hmid hm6 (id := σ.next + 2) (.cells 132 0 15 [cs])
    exact AnsL.tail hl6 q1 q2 (by omega) hsem fun n r h => ⟨n + 1, by rw [run_lam, if_neg hlt2, has]; exact h⟩
end Go.Proofs.Ytjjbjibbjbbeaaa
/- The machine: a case. -/
set_option linter.unusedVariables false
set_option linter.unusedSimpArgs false
namespace Go.AL
/-- Whether an alternative is taken. -/
def hitA (v : Val) (a : AltH) : Prop := a.k = 3 ∨ (a.k = 2 ∧ v.k = 1 ∧ v.num = a.n) ∨ (a.k = 1 ∧ v.k = 2 ∧ v.con = a.nm)
theorem pickA_miss {v : Val} {a : AltH} {b : Cr} {r : List (AltH × Cr)} (h : ¬ hitA v a) : pickA v ((a, b) :: r) = pickA v r := by
 unfold hitA at h
 have h3 : a.k ≠ 3 := fun e => h (.inl e)
 cases v with
 | whole n =>
  have : ¬ (a.k = 2 ∧ n = a.n) := fun e => h (.inr (.inl ⟨e.1, rfl, e.2⟩))
  simp [pickA, h3, this]
 | made con args =>
  have : ¬ (a.k = 1 ∧ con = a.nm) := fun e => h (.inr (.inr ⟨e.1, rfl, e.2⟩))
  simp [pickA, h3, this]
 | lam _ _ _ => simp [pickA, h3]
 | maker _ _ _ => simp [pickA, h3]
 | prim _ _ => simp [pickA, h3]
theorem pickA_drop {v : Val} {al : List (AltH × Cr)} : ∀ {i : Nat}, i ≤ al.length → (∀ x, x ∈ al.take i → ¬ hitA v x.1) → pickA v al = pickA v (al.drop i) := by
 intro i
 induction i with
 | zero => intro _ _; simp
 | succ i ih =>
  intro hi h
  obtain ⟨x, hx⟩ : ∃ x, al[i]? = some x := ⟨_, List.getElem?_eq_getElem (by omega)⟩
  obtain ⟨h1, h2⟩ := List.getElem?_eq_some_iff.1 hx
  rw [ih (by omega) fun y hy => h y (by rw [List.take_add_one]; exact List.mem_append_left _ hy), List.drop_eq_getElem_cons h1, h2]
  exact pickA_miss (h x (by rw [List.take_add_one, hx]; simp))
theorem pickA_any {v : Val} {a : AltH} {b : Cr} {r : List (AltH × Cr)} (h : a.k = 3) : pickA v ((a, b) :: r) = some (b, [], []) := by simp [pickA, h]
theorem pickA_int {v : Val} {a : AltH} {b : Cr} {r : List (AltH × Cr)} (h : a.k = 2) (h1 : v.k = 1) (h2 : v.num = a.n) : pickA v ((a, b) :: r) = some (b, [], []) := by
 cases v with
 | whole n =>
  have : n = a.n := h2
  simp [pickA, h, this]
 | made con args => simp [Val.k] at h1
 | lam _ _ _ => simp [Val.k] at h1
 | maker _ _ _ => simp [Val.k] at h1
 | prim _ _ => simp [Val.k] at h1
theorem pickA_con {v : Val} {a : AltH} {b : Cr} {r : List (AltH × Cr)} (h : a.k = 1) (h1 : v.k = 2) (h2 : v.con = a.nm) (h3 : v.aas.length = a.ps.length) : pickA v ((a, b) :: r) = some (b, a.ps, v.aas) := by
 cases v with
 | made con args =>
  have h2 : con = a.nm := h2
  have h3 : args.length = a.ps.length := h3
  simp [pickA, h, h2, h3, Val.aas]
 | whole n => simp [Val.k] at h1
 | lam _ _ _ => simp [Val.k] at h1
 | maker _ _ _ => simp [Val.k] at h1
 | prim _ _ => simp [Val.k] at h1
end Go.AL
namespace Go.Proofs.Ytjjbjibbjbbeaaa
open Go.AL
variable {ds : List (ByteArray × Cr)} {sel : Int} {most : Nat}
theorem mcases_ok {f : Nat} (H : CoreH ds sel most f) (hmost : most ≤ 50000) {mid st0 st : Nat} {σ : Store} (nm : ByteArray) (m ar : Int) (ps : List ByteArray) (g : Cr) (al : List (AltH × Cr)) (bs : List (ByteArray × Cr)) (pk : List (Int × Cr)) (e : Env)
 (hst0 : st = st0 + 1) (hm : σ.get mid = some (mch ds sel st most 0)) (h1 : st ≤ most) (h2 : most < f + st) (hc : Gd (.mk 8 nm m ar ps [g] al bs pk)) (he : WfE (5000000 * st0) e) :
 ACalls Try.prog 103 [.ptr mid 0 0 0, .agg (Cr.mk 8 nm m ar ps [g] al bs pk).cells, .list e.flat] σ (Ans ds sel doF most (.core (.mk 8 nm m ar ps [g] al bs pk) e) σ mid st) := by
 refine ACalls_leD (show ACalls Try.prog 103 _ σ (AnsL ds sel doF most (.core (.mk 8 nm m ar ps [g] al bs pk) e) σ mid st) from ?_)
 refine in103 (by simp) ?_
 unfold c103
 have hmid := σ.lt hm
 have hz : valZ.length = 15 := rfl
 have hzd : List.drop 15 valZ = [] := rfl
 have hzt : List.take 15 valZ = valZ := rfl
 cases hc with
 | mk hnd hln hg1 hg2 _ _ =>
 have hgg := hg1 g (by simp)
 have up := fun n n' t r (h : n ≤ n') (hr : run (lookD ds) sel doF n t = some r) => run_mono (lookD ds) sel doF h hr
 rw [Cr.cells_eq]
 try simp only [YY, ↓reduceIte, Za, Zb, Zc, reduceCtorEq, Zd, Ze, Zf, Zg, Zh, Zi, Zj]
 iterate 2 ((with_reducible refine WW (by decide) ?_); refine unr ?_; try simp only [YY, ↓reduceIte, Za, Zb, Zc, reduceCtorEq, Zd, Ze, Zf, Zg, Zh, Zi, Zj])
 generalize hs : Store.push _ _ = s1
 have k1 : Kp σ s1 := by rw [← hs]; exact (Kp.pushed _ _).push _
 have hn1 : s1.next = σ.next + 2 := by rw [← hs]; rfl
 have e1 : s1.get σ.next = some (.cells 54 0 9 [[.int .i64 8, .str nm, .int .i64 m, .int .i64 ar, strs ps, .list ([g].map Cr.cells), .list (al.map altC), .list (bs.map bindC), .list (pk.map pickC)]]) := by rw [← hs]; simp [Store.push_get, Store.push_next]
 have e2 : s1.get (σ.next + 1) = some (.cells 132 0 15 [valZ]) := by rw [← hs]; simp [Store.push_get, Store.push_next]; rfl
 have em := k1.get hm
 clear hs
 have hg0 : ([g].map Cr.cells)[0]? = some g.cells := rfl
 refine raw ?_
 repeat (first | (with_reducible refine unr ?_; try simp only [YY, ↓reduceIte, Za, Zb, Zc, reduceCtorEq, Zd, Ze, Zf, Zg, Zh, Zi, Zj, e1, hg0, Cr.len, Cr.take9]) | (with_reducible refine WW (by decide) ?_))
 refine (H s1 mid st g e em h1 h2 hgg (he.mono (by omega))).mono ?_
 rintro _ s2 ⟨cs, b, st1, out, rfl, hl, hm2, hk, hst, hsem⟩
 have e1 := hk.get e1 (by omega)
 have e2 := hk.get e2 (by omega)
 have hnx := hk.next
 have htk : List.take 15 cs = cs := List.take_of_length_le (by omega)
 try simp only [YY, ↓reduceIte, Za, Zb, Zc, reduceCtorEq, Zd, Ze, Zf, Zg, Zh, Zi, Zj, hl]
 iterate 0 ((with_reducible refine WW (by decide) ?_); refine unr ?_; try simp only [YY, ↓reduceIte, Za, Zb, Zc, reduceCtorEq, Zd, Ze, Zf, Zg, Zh, Zi, Zj, hl])
 generalize hs : Store.push s2 _ = s3
 have k3 : Kp s2 s3 := by rw [← hs]; exact .pushed _ _
 have e3 : s3.get s2.next = some (.cells 132 0 15 [cs]) := by rw [← hs]; simp [Store.push_get, Store.push_next]
 have e1 := k3.get e1
 have e2 := k3.get e2
 have hm3 := k3.get hm2
 have M3 : MK σ s3 mid := ((MK.of k1).trans hk).trans (.of k3)
 have hn3 := k3.next
 clear hs
 cases b with
 | false =>
  have hg : ∀ o : AObj, (s3.upd (σ.next + 1) o).get (σ.next + 1) = some o := fun o => Store.get_upd_self _ _ (s3.lt e2)
  refine raw ?_
  repeat (first | (with_reducible refine unr ?_; try simp only [YY, ↓reduceIte, Za, Zb, Zc, reduceCtorEq, Zd, Ze, Zf, Zg, Zh, Zi, Zj, e3, e2, hl, hg, htk, hz, hzd, List.append_nil]) | (with_reducible refine WW (by decide) ?_))
  obtain ⟨q1, q2⟩ := MK.fin (MK.refl σ mid) M3 (by omega) hmid hm3 (id := σ.next + 1) (.cells 132 0 15 [cs])
  refine AnsL.fail hl q1 q2 hst hsem fun n k h => ⟨n + 1, ?_⟩
  rw [run_8, h]
 | true =>
 obtain ⟨v, n1, rfl, rfl, hst1, hr1, hw1⟩ := hsem.yes
 have hwa := hw1.aas
 rw [v.shape] at e3
 have hrl := v.rest_len
 have hrun : ∀ n b xs ts r, pickA v al = some (b, xs, ts) → run (lookD ds) sel doF n (.core b (e.ext xs ts)) = some r → run (lookD ds) sel doF (n1 + n + 1) (.core (.mk 8 nm m ar ps [g] al bs pk) e) = some r := fun n b xs ts r hp hr => by
  rw [run_8, up _ _ _ _ (by omega) hr1]
  simp only [hp]
  exact up _ _ _ _ (by omega) hr
 refine raw ?_
 repeat (first | (with_reducible refine unr ?_; try simp only [YY, ↓reduceIte, Za, Zb, Zc, reduceCtorEq, Zd, Ze, Zf, Zg, Zh, Zi, Zj]) | (with_reducible refine WW (by decide) ?_))
 refine AWP_while [0, 2, 4, 6, 8, 10] (fun i : Nat => al.length - i) (fun i => [.ptr mid 0 0 0, .list e.flat, .ptr σ.next 0 0 0, .ptr (σ.next + 1) 0 0 0, .ptr s2.next 0 0 0, .int .i64 i])
  (fun i s => i ≤ al.length ∧ Kp s3 s ∧ Hid (∀ x, x ∈ al.take i → ¬ hitA v x.1)) 0 ⟨by simp, .refl _, ⟨by simp⟩⟩ ?_ ?_
 · refine raw ?_
   repeat (first | (with_reducible refine unr ?_; try simp only [YY, ↓reduceIte, Za, Zb, Zc, reduceCtorEq, Zd, Ze, Zf, Zg, Zh, Zi, Zj]) | (with_reducible refine WW (by decide) ?_))
   rfl
 rintro i s ⟨hi, ks, hno⟩
 have hal := hln.2.1
 have hw := wrap_succ (i := i) (by omega)
 have e1 := ks.get e1
 have e2 := ks.get e2
 have e3 := ks.get e3
 have hm4 := ks.get hm3
 have M4 := M3.trans (.of ks)
 have hns := ks.next
 by_cases hil : i < al.length
 · have hil' : (i : Int) < (al.length : Int) := by omega
   obtain ⟨x, hx⟩ : ∃ x, al[i]? = some x := ⟨_, List.getElem?_eq_getElem hil⟩
   have hxm := List.mem_of_getElem? hx
   have hga : (al.map altC)[i]? = some (altC x) := by simp [hx]
   have hdrop : pickA v al = pickA v (x :: al.drop (i + 1)) := by
    obtain ⟨hi1, hi2⟩ := List.getElem?_eq_some_iff.1 hx
    rw [pickA_drop (i := i) (by omega) hno.out, List.drop_eq_getElem_cons hi1, hi2]
   obtain ⟨a, b⟩ := x
   have hgb := hg2 _ hxm
   have hpl := hln.2.2.2.2 _ hxm
   simp only at hgb hpl
   try simp only [YY, ↓reduceIte, Za, Zb, Zc, reduceCtorEq, Zd, Ze, Zf, Zg, Zh, Zi, Zj, hil', e1, hga, altC, AltH.cells, Cr.len, Cr.take9]
   iterate 9 ((with_reducible refine WW (by decide) ?_); refine unr ?_; try simp only [YY, ↓reduceIte, Za, Zb, Zc, reduceCtorEq, Zd, Ze, Zf, Zg, Zh, Zi, Zj, hil', e1, hga, altC, AltH.cells, Cr.len, Cr.take9])
   generalize hs : Store.push s _ = s5
   have k5 : Kp s s5 := by rw [← hs]; exact .pushed _ _
   have e4 : s5.get s.next = some (.cells 113 0 13 [[.int .i64 a.k, .str a.nm, .int .i64 a.n, strs a.ps] ++ b.cells]) := by rw [← hs]; simp [Store.push_get]
   have e1 := k5.get e1
   have e2 := k5.get e2
   have e3 := k5.get e3
   have hm5 := k5.get hm4
   have M5 := M4.trans (.of k5)
   clear hs
   have next : ¬ hitA v a → ∃ x : Nat, i + 1 = x ∧ (x ≤ al.length ∧ Kp s3 s5 ∧ Hid (∀ y, y ∈ al.take x → ¬ hitA v y.1)) ∧ al.length - x < al.length - i := fun hn => ⟨i + 1, rfl, ⟨by omega, ks.trans k5, ⟨all_succ (p := fun y => ¬ hitA v y.1) hno.out hx hn⟩⟩, by omega⟩
   have hext : e.ext [] [] = e := by simp [Env.ext]
   have hnil : ∀ n r, pickA v al = some (b, [], []) → run (lookD ds) sel doF n (.core b e) = some r → ∃ n', run (lookD ds) sel doF n' (.core (.mk 8 nm m ar ps [g] al bs pk) e) = some r := fun n r hp hr => ⟨_, hrun n b [] [] r hp (by rw [hext]; exact hr)⟩
   have hcall := H s5 mid st1 b e hm5 hst1 (by omega) hgb (he.mono (by omega))
   by_cases h3 : a.k = 3
   · refine raw ?_
     repeat (first | (with_reducible refine unr ?_; try simp only [YY, ↓reduceIte, Za, Zb, Zc, reduceCtorEq, Zd, Ze, Zf, Zg, Zh, Zi, Zj, e4, h3, List.cons_append, List.nil_append, Cr.len, Cr.take9]) | (with_reducible refine WW (by decide) ?_))
     refine hcall.mono ?_
     rintro _ s6 ⟨cs, b1, st', out, rfl, hl6, hm6, hk6, hst6, hsem⟩
     have f3 := hk6.get e2 (by omega)
     have hg : ∀ o : AObj, (s6.upd (σ.next + 1) o).get (σ.next + 1) = some o := fun o => Store.get_upd_self _ _ (s6.lt f3)
     have htk : List.take 15 cs = cs := List.take_of_length_le (by omega)
     refine raw ?_
     repeat (first | (with_reducible refine unr ?_; try simp only [YY, ↓reduceIte, Za, Zb, Zc, reduceCtorEq, Zd, Ze, Zf, Zg, Zh, Zi, Zj, f3, hl6, hg, htk, hz, hzd, List.append_nil]) | (with_reducible refine WW (by decide) ?_))
     obtain ⟨q1, q2⟩ := MK.fin M5 hk6 (by omega) hmid hm6 (id := σ.next + 1) (.cells 132 0 15 [cs])
     exact AnsL.tail hl6 q1 q2 (by omega) hsem fun n r h => hnil n r (hdrop.trans (pickA_any h3)) h
   by_cases h2 : a.k = 2
   · have h21 : ¬ a.k = 1 := by omega
     by_cases hk1 : v.k = 1
     · by_cases hvn : v.num = a.n
       · refine raw ?_
         repeat (first | (with_reducible refine unr ?_; try simp only [YY, ↓reduceIte, Za, Zb, Zc, reduceCtorEq, Zd, Ze, Zf, Zg, Zh, Zi, Zj, e4, e3, h3, h2, hk1, hvn, valK, List.cons_append, List.nil_append, Cr.len, Cr.take9]) | (with_reducible refine WW (by decide) ?_))
         refine hcall.mono ?_
         rintro _ s6 ⟨cs, b1, st', out, rfl, hl6, hm6, hk6, hst6, hsem⟩
         have f3 := hk6.get e2 (by omega)
         have hg : ∀ o : AObj, (s6.upd (σ.next + 1) o).get (σ.next + 1) = some o := fun o => Store.get_upd_self _ _ (s6.lt f3)
         have htk : List.take 15 cs = cs := List.take_of_length_le (by omega)
         refine raw ?_
         repeat (first | (with_reducible refine unr ?_; try simp only [YY, ↓reduceIte, Za, Zb, Zc, reduceCtorEq, Zd, Ze, Zf, Zg, Zh, Zi, Zj, f3, hl6, hg, htk, hz, hzd, List.append_nil]) | (with_reducible refine WW (by decide) ?_))
         obtain ⟨q1, q2⟩ := MK.fin M5 hk6 (by omega) hmid hm6 (id := σ.next + 1) (.cells 132 0 15 [cs])
         exact AnsL.tail hl6 q1 q2 (by omega) hsem fun n r h => hnil n r (hdrop.trans (pickA_int h2 hk1 hvn)) h
       · refine raw ?_
         repeat (first | (with_reducible refine unr ?_; try simp only [YY, ↓reduceIte, Za, Zb, Zc, reduceCtorEq, Zd, Ze, Zf, Zg, Zh, Zi, Zj, e4, e3, h3, h2, h21, hk1, hvn, hw, valK, List.cons_append, List.nil_append, Cr.len, Cr.take9]) | (with_reducible refine WW (by decide) ?_))
         obtain ⟨x, rfl, h4, h5⟩ := next (by unfold hitA; omega)
         exact ⟨_, rfl, h4, h5⟩
     · refine raw ?_
       repeat (first | (with_reducible refine unr ?_; try simp only [YY, ↓reduceIte, Za, Zb, Zc, reduceCtorEq, Zd, Ze, Zf, Zg, Zh, Zi, Zj, e4, e3, h3, h2, h21, hk1, hw, valK, List.cons_append, List.nil_append, Cr.len, Cr.take9]) | (with_reducible refine WW (by decide) ?_))
       obtain ⟨x, rfl, h4, h5⟩ := next (by unfold hitA; omega)
       exact ⟨_, rfl, h4, h5⟩
   by_cases hk1 : a.k = 1
   · by_cases hk2 : v.k = 2
     · by_cases hcn : v.con = a.nm
       · by_cases hlen : v.aas.length = a.ps.length
         · have hlen' : (v.aas.length : Int) = (a.ps.length : Int) := by omega
           refine raw ?_
           repeat (first | (with_reducible refine unr ?_; try simp only [YY, ↓reduceIte, Za, Zb, Zc, reduceCtorEq, Zd, Ze, Zf, Zg, Zh, Zi, Zj, e4, e3, h3, h2, hk1, hk2, hcn, hlen', valK, List.cons_append, List.nil_append, Cr.len, Cr.take9]) | (with_reducible refine WW (by decide) ?_))
           refine AWP_while [0, 2, 6, 8, 11, 12, 13] (fun j : Nat => a.ps.length - j) (fun j => [.ptr mid 0 0 0, .list e.flat, .ptr (σ.next + 1) 0 0 0, .ptr s2.next 0 0 0, .ptr s.next 0 0 0, .list (e.ext (a.ps.take j) (v.aas.take j)).flat, .int .i64 j])
            (fun j t => t = s5 ∧ j ≤ a.ps.length) 0 ⟨rfl, by simp⟩ ?_ ?_
           · refine raw ?_
             repeat (first | (with_reducible refine unr ?_; try simp only [YY, ↓reduceIte, Za, Zb, Zc, reduceCtorEq, Zd, Ze, Zf, Zg, Zh, Zi, Zj]) | (with_reducible refine WW (by decide) ?_))
             simp [Env.ext]
           rintro j _ ⟨rfl, hj⟩
           have hwj := wrap_succ (i := j) (by omega)
           have h0 := he.len
           by_cases hjl : j < a.ps.length
           · have hjl' : (j : Int) < (a.ps.length : Int) := by omega
             obtain ⟨x, hx⟩ : ∃ x, v.aas[j]? = some x := ⟨_, List.getElem?_eq_getElem (by omega)⟩
             obtain ⟨p, hp⟩ : ∃ p, a.ps[j]? = some p := ⟨_, List.getElem?_eq_getElem (by omega)⟩
             have hgx : (v.aas.map thkC)[j]? = some (thkC x) := by simp [hx]
             have hgp : (a.ps.map fun s => [AV.str s])[j]? = some [.str p] := by simp [hp]
             refine raw ?_
             repeat (first | (with_reducible refine unr ?_; try simp only [YY, ↓reduceIte, Za, Zb, Zc, reduceCtorEq, Zd, Ze, Zf, Zg, Zh, Zi, Zj, e4, e3, hjl', hgx, hgp, thkC_len, thkC_10, valK, List.cons_append, List.nil_append]) | (with_reducible refine WW (by decide) ?_))
             rw [thkE_of]
             have hfl := ext_flat (a.ps.take j) (v.aas.take j) e (by simp; omega)
             refine (cwith_ok _ _ (flat_len _) (thkE_len _ _ _) (fun n q hq c hc => ?_) ?_ _).mono ?_
             · rcases List.mem_append.1 hq with hq | hq
               · exact flat_cln _ q hq c hc
               · simp at hq; subst hq; exact entC_cln (flat_cln _) c hc
             · rw [hfl]; simp only [List.length_take]; omega
             rintro _ _ ⟨rfl, rfl⟩
             refine raw ?_
             repeat (first | (with_reducible refine unr ?_; try simp only [YY, ↓reduceIte, Za, Zb, Zc, reduceCtorEq, Zd, Ze, Zf, Zg, Zh, Zi, Zj, hwj]) | (with_reducible refine WW (by decide) ?_))
             refine ⟨j + 1, ?_, by omega, by omega⟩
             rw [List.take_add_one, List.take_add_one, hx, hp, Option.toList_some, Option.toList_some, ext_snoc _ _ _ _ _ (by simp; omega), Env.flat]
           · have hjl' : ¬ (j : Int) < (a.ps.length : Int) := by omega
             rw [List.take_of_length_le (by omega), List.take_of_length_le (by omega)]
             refine raw ?_
             repeat (first | (with_reducible refine unr ?_; try simp only [YY, ↓reduceIte, Za, Zb, Zc, reduceCtorEq, Zd, Ze, Zf, Zg, Zh, Zi, Zj, e4, hjl', List.cons_append, List.nil_append, Cr.len, Cr.take9]) | (with_reducible refine WW (by decide) ?_))
             refine (H _ mid st1 b (e.ext a.ps v.aas) hm5 hst1 (by omega) hgb ((he.mono (by omega)).ext hwa.2 hlen.symm (by omega))).mono ?_
             rintro _ s6 ⟨cs, b1, st', out, rfl, hl6, hm6, hk6, hst6, hsem⟩
             have f3 := hk6.get e2 (by omega)
             have hg : ∀ o : AObj, (s6.upd (σ.next + 1) o).get (σ.next + 1) = some o := fun o => Store.get_upd_self _ _ (s6.lt f3)
             have htk : List.take 15 cs = cs := List.take_of_length_le (by omega)
             refine raw ?_
             repeat (first | (with_reducible refine unr ?_; try simp only [YY, ↓reduceIte, Za, Zb, Zc, reduceCtorEq, Zd, Ze, Zf, Zg, Zh, Zi, Zj, f3, hl6, hg, htk, hz, hzd, List.append_nil]) | (with_reducible refine WW (by decide) ?_))
             obtain ⟨q1, q2⟩ := MK.fin M5 hk6 (by omega) hmid hm6 (id := σ.next + 1) (.cells 132 0 15 [cs])
             exact AnsL.tail hl6 q1 q2 (by omega) hsem fun n r h => ⟨_, hrun n b a.ps v.aas r (hdrop.trans (pickA_con hk1 hk2 hcn hlen)) h⟩
         · have hlen' : ¬ (v.aas.length : Int) = (a.ps.length : Int) := by omega
           refine raw ?_
           repeat (first | (with_reducible refine unr ?_; try simp only [YY, ↓reduceIte, Za, Zb, Zc, reduceCtorEq, Zd, Ze, Zf, Zg, Zh, Zi, Zj, e4, e3, h3, h2, hk1, hk2, hcn, hlen', valK, List.cons_append, List.nil_append, Cr.len, Cr.take9]) | (with_reducible refine WW (by decide) ?_))
           refine (wrong_ok hm5 (-2)).mono ?_
           rintro _ s6 ⟨rfl, hm6, hk6⟩
           have f3 := hk6.get e2 (by omega)
           have hg : ∀ o : AObj, (s6.upd (σ.next + 1) o).get (σ.next + 1) = some o := fun o => Store.get_upd_self _ _ (s6.lt f3)
           refine raw ?_
           repeat (first | (with_reducible refine unr ?_; try simp only [YY, ↓reduceIte, Za, Zb, Zc, reduceCtorEq, Zd, Ze, Zf, Zg, Zh, Zi, Zj, f3, hg, hz, hzd, hzt, List.append_nil]) | (with_reducible refine WW (by decide) ?_))
           obtain ⟨q1, q2⟩ := MK.fin M5 hk6 (by omega) hmid hm6 (id := σ.next + 1) (.cells 132 0 15 [valZ])
           exact AnsL.low rfl q1 q2 (by omega) (by decide)
       · refine raw ?_
         repeat (first | (with_reducible refine unr ?_; try simp only [YY, ↓reduceIte, Za, Zb, Zc, reduceCtorEq, Zd, Ze, Zf, Zg, Zh, Zi, Zj, e4, e3, h3, h2, hk1, hk2, hcn, hw, valK, List.cons_append, List.nil_append, Cr.len, Cr.take9]) | (with_reducible refine WW (by decide) ?_))
         obtain ⟨x, rfl, h4, h5⟩ := next (by unfold hitA; intro hh; rcases hh with hh | hh | hh <;> first | omega | exact hcn hh.2.2)
         exact ⟨_, rfl, h4, h5⟩
     · refine raw ?_
       repeat (first | (with_reducible refine unr ?_; try simp only [YY, ↓reduceIte, Za, Zb, Zc, reduceCtorEq, Zd, Ze, Zf, Zg, Zh, Zi, Zj, e4, e3, h3, h2, hk1, hk2, hw, valK, List.cons_append, List.nil_append, Cr.len, Cr.take9]) | (with_reducible refine WW (by decide) ?_))
       obtain ⟨x, rfl, h4, h5⟩ := next (by unfold hitA; omega)
       exact ⟨_, rfl, h4, h5⟩
   · refine raw ?_
     repeat (first | (with_reducible refine unr ?_; try simp only [YY, ↓reduceIte, Za, Zb, Zc, reduceCtorEq, Zd, Ze, Zf, Zg, Zh, Zi, Zj, e4, e3, h3, h2, hk1, hw, valK, List.cons_append, List.nil_append, Cr.len, Cr.take9]) | (with_reducible refine WW (by decide) ?_))
     obtain ⟨x, rfl, h4, h5⟩ := next (by unfold hitA; omega)
     exact ⟨_, rfl, h4, h5⟩
 · have hil' : ¬ (i : Int) < (al.length : Int) := by omega
   refine raw ?_
   repeat (first | (with_reducible refine unr ?_; try simp only [YY, ↓reduceIte, Za, Zb, Zc, reduceCtorEq, Zd, Ze, Zf, Zg, Zh, Zi, Zj, hil', e1]) | (with_reducible refine WW (by decide) ?_))
   refine (wrong_ok hm4 (-2)).mono ?_
   rintro _ s6 ⟨rfl, hm6, hk6⟩
   have f3 := hk6.get e2 (by omega)
   have hg : ∀ o : AObj, (s6.upd (σ.next + 1) o).get (σ.next + 1) = some o := fun o => Store.get_upd_self _ _ (s6.lt f3)
   refine raw ?_
   repeat (first | (with_reducible refine unr ?_; try simp only [YY, ↓reduceIte, Za, Zb, Zc, reduceCtorEq, Zd, Ze, Zf, Zg, Zh, Zi, Zj, f3, hg, hz, hzd, hzt, List.append_nil]) | (with_reducible refine WW (by decide) ?_))
   obtain ⟨q1, q2⟩ := MK.fin M4 hk6 (by omega) hmid hm6 (id := σ.next + 1) (.cells 132 0 15 [valZ])
   exact AnsL.low rfl q1 q2 (by omega) (by decide)
end Go.Proofs.Ytjjbjibbjbbeaaa
/- Numbers read, local names: exactly. -/
set_option linter.unusedVariables false
set_option linter.unusedSimpArgs false
namespace Go.AL
theorem valN_take {l : List UInt8} {i : Nat} {b : UInt8} (h : l[i]? = some b) : valN (l.take (i + 1)) = valN (l.take i) * 10 + (b.toNat - 48) := by
 rw [List.take_add_one, h, Option.toList_some, valN_snoc]
theorem dig_take {l : List UInt8} {i : Nat} {b : UInt8} (h : l[i]? = some b) (hd : ∀ c, c ∈ l.take i → digitB c) (hb : digitB b) : ∀ c, c ∈ l.take (i + 1) → digitB c := by
 intro c hc
 rw [List.take_add_one, h] at hc
 rcases List.mem_append.1 hc with h1 | h1
 · exact hd c h1
 · simp at h1; subst h1; exact hb
theorem valN_bd {l : List UInt8} (h : ∀ b, b ∈ l → digitB b) (hl : l.length ≤ 19) : valN l < 10000000000000000000 := by
 have h1 := valN_lt l.length l rfl h
 have h2 : (10 : Nat) ^ l.length ≤ 10 ^ 19 := Nat.pow_le_pow_right (by omega) hl
 omega
theorem u64_of {x : Int} (h0 : 0 ≤ x) (h1 : x < 18446744073709551616) : IntKind.u64.wrap x = x := by rw [wrap_u64']; omega
theorem u8_of {x : Int} (h0 : 0 ≤ x) (h1 : x < 256) : IntKind.u8.wrap x = x := by
 have : IntKind.u8.wrap x = x % 256 := by simp [IntKind.wrap, IntKind.bits, IntKind.signed]
 rw [this]; omega
/-- One digit more. -/
theorem valN_step {l : List UInt8} {i : Nat} {b : UInt8} (h : l[i]? = some b) (hl : l.length ≤ 19) (hd : ∀ c, c ∈ l.take i → digitB c) (hb : digitB b) :
 IntKind.u64.wrap (IntKind.u64.wrap (((valN (l.take i) : Nat) : Int) * 10) + IntKind.u64.wrap (IntKind.u8.wrap ((b.toNat : Int) - 48))) = ((valN (l.take (i + 1)) : Nat) : Int) := by
 have h1 := valN_bd (dig_take h hd hb) (by rw [List.length_take]; omega)
 have h2 := valN_take h
 unfold digitB at hb
 rw [u8_of (x := (b.toNat : Int) - 48) (by omega) (by omega), u64_of (x := (b.toNat : Int) - 48) (by omega) (by omega), u64_of (x := ((valN (l.take i) : Nat) : Int) * 10) (by omega) (by omega), u64_of (by omega) (by omega)]
 omega
theorem u8_eq (b c : UInt8) : ((b.toNat : Int) = (c.toNat : Int)) ↔ b = c := ⟨fun h => UInt8.toNat_inj.1 (by omega), fun h => by rw [h]⟩
theorem u8_45 (b : UInt8) : ((b.toNat : Int) = 45) ↔ b = 45 := u8_eq b 45
theorem u8_48 (b : UInt8) : ((b.toNat : Int) = 48) ↔ b = 48 := u8_eq b 48
theorem u8_35 (b : UInt8) : ((b.toNat : Int) = 35) ↔ b = 35 := u8_eq b 35
theorem bl_none {s : ByteArray} {i : Nat} (h : ¬ (i : Int) < (s.size : Int)) : (bl s)[i]? = none := List.getElem?_eq_none (by rw [bl_len]; omega)
theorem at_iff {l : List UInt8} {b c : UInt8} {i : Nat} (h : l[i]? = some b) : l[i]? = some c ↔ b = c := by rw [h]; exact ⟨fun e => by cases e; rfl, fun e => by rw [e]⟩
end Go.AL
namespace Go.Proofs.Ytjjbjibbjbbeaaa
open Go.AL
theorem parseE (s : ByteArray) (σ : Store) : ACalls Try.prog 141 [.str s] σ fun r σ' => (∃ p : Int × Int, r = .tuple [.int .i64 p.1, .int .i64 p.2] ∧ (p.2 = 0 ↔ NumT (bl s))) ∧ σ' = σ := by
 refine in141 (by simp) ?_
 unfold c141
 try simp only [YY, ↓reduceIte, Za, Zb, Zc, reduceCtorEq, Zd, Ze, Zf, Zg, Zh, Zi, Zj]
 iterate 5 ((with_reducible refine WW (by decide) ?_); refine unr ?_; try simp only [YY, ↓reduceIte, Za, Zb, Zc, reduceCtorEq, Zd, Ze, Zf, Zg, Zh, Zi, Zj])
 refine AWP_cut [0, 2, 3, 4, 5] (fun b : Bool => [.str s, .int .i64 0, .int .i64 0, .str s, .bool b]) (fun b t => t = σ ∧ (b = true ↔ (bl s)[0]? = some 45)) ?_ ?_
 · refine raw ?_
   repeat' (first | (with_reducible refine unr ?_; try simp only [YY, ↓reduceIte, Za, Zb, Zc, reduceCtorEq, Zd, Ze, Zf, Zg, Zh, Zi, Zj, str_nil, *]) | (with_reducible first | refine WW (by decide) ?_ | refine ok_idx (by first | assumption | omega) (fun b hb => raw ?_) | refine ok_iad (by first | assumption | omega) (fun x hx hxm => raw ?_) | refine And.intro (by omega) (raw ?_) | (refine guardW_b (fun h => raw ?_) (fun h => raw ?_) <;> try simp only [Ty] at h) | (refine ePick_b (fun h => raw ?_) (fun h => raw ?_) <;> try simp only [Ty] at h) | (refine condW_b (fun h => raw ?_) (fun h => raw ?_) <;> try simp only [Ty] at h)))
   · exact ⟨_, rfl, by rw [at_iff (l := bl s) hb, decide_eq_true_iff, u8_45]⟩
   · exact ⟨_, rfl, by rw [bl_none (i := 0) (by omega)]; simp⟩
 rintro b t ⟨rfl, hb⟩
 refine AWP_cut [0, 2, 3, 4, 5] (fun x : ByteArray => [.str s, .int .i64 0, .int .i64 0, .str x, .bool b]) (fun x s' => s' = t ∧ Hid (bl x = if b = true then (bl s).drop 1 else bl s)) ?_ ?_
 · cases b with
   | true =>
    have h0 : 0 < s.size := by rw [← bl_len]; exact (List.getElem?_eq_some_iff.1 (hb.1 rfl)).1
    have h1 : (1 : Int) ≤ (s.size : Int) := by omega
    refine raw ?_
    repeat (first | (with_reducible refine unr ?_; try simp only [YY, ↓reduceIte, Za, Zb, Zc, reduceCtorEq, Zd, Ze, Zf, Zg, Zh, Zi, Zj, h1]) | (with_reducible refine WW (by decide) ?_))
    exact ⟨_, rfl, ⟨by rw [bl_ext, List.take_of_length_le (by rw [bl_len]; simp)]⟩⟩
   | false =>
    refine raw ?_
    repeat (first | (with_reducible refine unr ?_; try simp only [YY, ↓reduceIte, Za, Zb, Zc, reduceCtorEq, Zd, Ze, Zf, Zg, Zh, Zi, Zj]) | (with_reducible refine WW (by decide) ?_))
    exact ⟨_, rfl, ⟨by simp⟩⟩
 rintro x t ⟨rfl, hx⟩
 have hN : Hid (NumD b (bl x) ↔ NumT (bl s)) := by
  refine ⟨?_⟩
  unfold NumT
  cases b with
  | true => rw [if_pos (hb.1 rfl), hx.out, if_pos rfl]
  | false => rw [if_neg (fun e => by have := hb.2 e; cases this), hx.out]; simp
 have hsz : Hid ((s.size : Int) = x.size + (if b = true then 1 else 0)) := by
  refine ⟨?_⟩
  have e := congrArg List.length hx.out
  cases b with
  | true =>
   have h0 : 0 < s.size := by rw [← bl_len]; exact (List.getElem?_eq_some_iff.1 (hb.1 rfl)).1
   simp [bl_len] at e; simp; omega
  | false => simp [bl_len] at e; simp; omega
 replace hb : Hid (b = true ↔ (bl s)[0]? = some 45) := ⟨hb⟩
 refine AWP_cut [0, 2, 3, 4, 5] (fun z : Unit => [.str s, .int .i64 0, .int .i64 0, .str x, .bool b]) (fun z s' => s' = t ∧ Hid (0 < x.size ∧ x.size ≤ 19 ∧ ((bl x)[0]? = some 48 → x.size = 1 ∧ b = false))) ?_ ?_
 · refine raw ?_
   repeat' (first | (with_reducible refine unr ?_; try simp only [YY, ↓reduceIte, Za, Zb, Zc, reduceCtorEq, Zd, Ze, Zf, Zg, Zh, Zi, Zj, str_nil, *]) | (with_reducible first | refine WW (by decide) ?_ | refine ok_idx (by first | assumption | omega) (fun b hb => raw ?_) | refine ok_iad (by first | assumption | omega) (fun x hx hxm => raw ?_) | refine And.intro (by omega) (raw ?_) | (refine guardW_b (fun h => raw ?_) (fun h => raw ?_) <;> try simp only [Ty] at h) | (refine ePick_b (fun h => raw ?_) (fun h => raw ?_) <;> try simp only [Ty] at h) | (refine condW_b (fun h => raw ?_) (fun h => raw ?_) <;> try simp only [Ty] at h)))
   · refine ⟨(_, _), rfl, ?_⟩
     rw [← hN.out]
     exact ⟨by simp, fun hh => absurd (bl_len x) (by rw [h]; exact fun e => hh.1 (List.eq_nil_of_length_eq_zero e))⟩
   · refine ⟨(_, _), rfl, ?_⟩
     rw [← hN.out]
     exact ⟨by simp, fun hh => by have := hh.2.1; rw [bl_len] at this; omega⟩
   · rename_i hq
     refine ⟨(_, _), rfl, ?_⟩
     rw [← hN.out]
     refine ⟨by simp, fun hh => ?_⟩
     have h2 := hh.2.2.2.1 (by rw [at_iff (l := bl x) hb]; exact (u8_48 _).1 hq)
     have h3 := hsz.out
     rw [bl_len] at h2
     rw [h2.2] at h3
     simp at h3
     omega
   · rename_i hq h
     refine ⟨(), ⟨by omega, by omega, fun _ => ?_⟩⟩
     have h3 := hsz.out
     revert h3
     split
     · intro h3; omega
     · rename_i hb0; intro h3; exact ⟨by omega, by simpa using hb0⟩
   · refine ⟨(), ⟨by omega, by omega, fun e => ?_⟩⟩
     rw [at_iff (l := bl x) hb] at e
     exact absurd ((u8_48 _).2 e) h
 rintro _ t ⟨rfl, hx2⟩
 obtain ⟨h0, h19, h48⟩ := hx2.out
 replace h48 : Hid ((bl x)[0]? = some 48 → x.size = 1 ∧ b = false) := ⟨h48⟩
 clear hx2 hx hsz
 try simp only [YY, ↓reduceIte, Za, Zb, Zc, reduceCtorEq, Zd, Ze, Zf, Zg, Zh, Zi, Zj]
 iterate 6 ((with_reducible refine WW (by decide) ?_); refine unr ?_; try simp only [YY, ↓reduceIte, Za, Zb, Zc, reduceCtorEq, Zd, Ze, Zf, Zg, Zh, Zi, Zj])
 refine AWP_cut [0, 5, 6, 7] (fun y : Int × Bool => [.str s, .bool b, .int .u64 y.1, .bool y.2]) (fun y s' => s' = t ∧ Hid ((y.2 = true → y.1 = valN (bl x) ∧ ∀ c, c ∈ bl x → digitB c) ∧ (y.2 = false → ∃ c, c ∈ bl x ∧ ¬ digitB c))) ?_ ?_
 · refine raw ?_
   repeat (first | (with_reducible refine unr ?_; try simp only [YY, ↓reduceIte, Za, Zb, Zc, reduceCtorEq, Zd, Ze, Zf, Zg, Zh, Zi, Zj]) | (with_reducible refine WW (by decide) ?_))
   refine AWP_while [0, 4, 5, 6, 7, 8] (fun i : Nat => x.size - i) (fun i => [.str s, .str x, .bool b, .int .u64 (valN ((bl x).take i)), .bool true, .int .i64 i]) (fun i s' => s' = t ∧ i ≤ x.size ∧ Hid (∀ c, c ∈ (bl x).take i → digitB c)) 0 ⟨rfl, by simp, ⟨by simp⟩⟩ ?_ ?_
   · refine raw ?_
     repeat (first | (with_reducible refine unr ?_; try simp only [YY, ↓reduceIte, Za, Zb, Zc, reduceCtorEq, Zd, Ze, Zf, Zg, Zh, Zi, Zj]) | (with_reducible refine WW (by decide) ?_))
     rfl
   rintro i t ⟨rfl, hi, hd⟩
   have hw := wrap_succ (i := i) (by omega)
   refine raw ?_
   repeat' (first | (with_reducible refine unr ?_; try simp only [YY, ↓reduceIte, Za, Zb, Zc, reduceCtorEq, Zd, Ze, Zf, Zg, Zh, Zi, Zj, str_nil, *]) | (with_reducible first | refine WW (by decide) ?_ | refine ok_idx (by first | assumption | omega) (fun b hb => raw ?_) | refine ok_iad (by first | assumption | omega) (fun x hx hxm => raw ?_) | refine And.intro (by omega) (raw ?_) | (refine guardW_b (fun h => raw ?_) (fun h => raw ?_) <;> try simp only [Ty] at h) | (refine ePick_b (fun h => raw ?_) (fun h => raw ?_) <;> try simp only [Ty] at h) | (refine condW_b (fun h => raw ?_) (fun h => raw ?_) <;> try simp only [Ty] at h)))
   · exact ⟨(_, false), rfl, ⟨by simp, fun _ => ⟨b, List.mem_of_getElem? (l := bl x) hb, by unfold digitB; omega⟩⟩⟩
   · exact ⟨(_, false), rfl, ⟨by simp, fun _ => ⟨b, List.mem_of_getElem? (l := bl x) hb, by unfold digitB; omega⟩⟩⟩
   · have hb3 : digitB b := by unfold digitB; omega
     rw [valN_step (l := bl x) hb (by rw [bl_len]; omega) hd.out hb3]
     exact ⟨i + 1, rfl, ⟨by omega, ⟨dig_take (l := bl x) hb hd.out hb3⟩⟩, by omega⟩
   · have hd := hd.out
     rw [List.take_of_length_le (by rw [bl_len]; omega)] at hd ⊢
     exact ⟨(_, true), rfl, ⟨fun _ => ⟨rfl, hd⟩, by simp⟩⟩
 rintro ⟨a, g⟩ t ⟨rfl, hg⟩
 simp only at hg
 cases g with
 | false =>
  obtain ⟨c, hc, hn⟩ := hg.out.2 rfl
  refine raw ?_
  repeat (first | (with_reducible refine unr ?_; try simp only [YY, ↓reduceIte, Za, Zb, Zc, reduceCtorEq, Zd, Ze, Zf, Zg, Zh, Zi, Zj]) | (with_reducible refine WW (by decide) ?_))
  refine ⟨(_, _), rfl, ?_⟩
  rw [← hN.out]
  exact ⟨by simp, fun hh => absurd (hh.2.2.1 c hc) hn⟩
 | true =>
  obtain ⟨rfl, hd⟩ := hg.out.1 rfl
  replace hd : Hid (∀ c, c ∈ bl x → digitB c) := ⟨hd⟩
  have hfin : Hid (NumT (bl s) ↔ valN (bl x) ≤ 9223372036854775808 ∧ (valN (bl x) = 9223372036854775808 → b = true)) := by
   refine ⟨?_⟩
   rw [← hN.out]
   have hne : bl x ≠ [] := fun e => by have := bl_len x; rw [e] at this; simp at this; omega
   exact ⟨fun h => ⟨h.2.2.2.2.1, h.2.2.2.2.2⟩, fun h => ⟨hne, by rw [bl_len]; exact h19, hd.out, fun e => by rw [bl_len]; exact h48.out e, h.1, h.2⟩⟩
  clear hg
  refine raw ?_
  repeat' (first | (with_reducible refine unr ?_; try simp only [YY, ↓reduceIte, Za, Zb, Zc, reduceCtorEq, Zd, Ze, Zf, Zg, Zh, Zi, Zj, str_nil, *]) | (with_reducible first | refine WW (by decide) ?_ | refine ok_idx (by first | assumption | omega) (fun b hb => raw ?_) | refine ok_iad (by first | assumption | omega) (fun x hx hxm => raw ?_) | refine And.intro (by omega) (raw ?_) | (refine guardW_b (fun h => raw ?_) (fun h => raw ?_) <;> try simp only [Ty] at h) | (refine ePick_b (fun h => raw ?_) (fun h => raw ?_) <;> try simp only [Ty] at h) | (refine condW_b (fun h => raw ?_) (fun h => raw ?_) <;> try simp only [Ty] at h)))
  all_goals refine ⟨(_, _), rfl, ?_⟩
  all_goals rw [hfin.out]
  · exact ⟨fun e => absurd e (by decide), fun hh => by omega⟩
  · exact ⟨fun e => absurd e (by decide), fun hh => by have := hh.2 (by omega); rw [h] at this; cases this⟩
  · exact ⟨fun _ => ⟨by omega, fun _ => h⟩, fun _ => rfl⟩
  · exact ⟨fun _ => ⟨by omega, fun e => by omega⟩, fun _ => rfl⟩
  · exact ⟨fun _ => ⟨by omega, fun e => by omega⟩, fun _ => rfl⟩
theorem prefixE (s p : ByteArray) (σ : Store) : ACalls Try.prog 173 [.str s, .str p] σ fun r σ' => (∃ b : Bool, r = .bool b ∧ (b = true ↔ (bl s).take p.size = bl p)) ∧ σ' = σ := by
 refine in173 (by simp) ?_
 unfold c173
 by_cases h : p.size ≤ s.size
 · have h' : (p.size : Int) ≤ (s.size : Int) := by omega
   have h0 : (0 : Int) ≤ (p.size : Int) := by omega
   refine raw ?_
   repeat (first | (with_reducible refine unr ?_; try simp only [YY, ↓reduceIte, Za, Zb, Zc, reduceCtorEq, Zd, Ze, Zf, Zg, Zh, Zi, Zj, h', h0]) | (with_reducible refine WW (by decide) ?_))
   exact ⟨_, rfl, by rw [decide_eq_true_iff, bl_eq, bl_ext]; simp⟩
 · have h' : ¬ (p.size : Int) ≤ (s.size : Int) := by omega
   refine raw ?_
   repeat (first | (with_reducible refine unr ?_; try simp only [YY, ↓reduceIte, Za, Zb, Zc, reduceCtorEq, Zd, Ze, Zf, Zg, Zh, Zi, Zj, h']) | (with_reducible refine WW (by decide) ?_))
   refine ⟨_, rfl, by simp, fun e => ?_⟩
   have := congrArg List.length e
   rw [List.length_take, bl_len, bl_len] at this
   omega
theorem hasPrefixE (s p : ByteArray) (σ : Store) : ACalls Try.prog 169 [.str s, .str p] σ fun r σ' => (∃ b : Bool, r = .bool b ∧ (b = true ↔ (bl s).take p.size = bl p)) ∧ σ' = σ := by
 refine in169 (by simp) ?_
 unfold c169
 refine raw ?_
 repeat (first | (with_reducible refine unr ?_; try simp only [YY, ↓reduceIte, Za, Zb, Zc, reduceCtorEq, Zd, Ze, Zf, Zg, Zh, Zi, Zj]) | (with_reducible refine WW (by decide) ?_))
 refine (prefixE s p σ).mono ?_
 rintro r t ⟨⟨b, rfl, hb⟩, rfl⟩
 refine raw ?_
 repeat (first | (with_reducible refine unr ?_; try simp only [YY, ↓reduceIte, Za, Zb, Zc, reduceCtorEq, Zd, Ze, Zf, Zg, Zh, Zi, Zj]) | (with_reducible refine WW (by decide) ?_))
 exact ⟨b, rfl, hb⟩
theorem localE (s : ByteArray) (σ : Store) : ACalls Try.prog 154 [.str s] σ fun r σ' => (∃ b : Bool, r = .bool b ∧ (b = true ↔ LocN s)) ∧ σ' = σ := by
 have p1 : (bl s).take 1 = [35] ↔ (bl s)[0]? = some 35 := by
  cases bl s with
  | nil => simp
  | cons x r => simp
 have p2 : (bl s).take 2 = [35, 45] ↔ (bl s)[0]? = some 35 ∧ (bl s)[1]? = some 45 := by
  cases bl s with
  | nil => simp
  | cons x r =>
   cases r with
   | nil => simp
   | cons y r => simp
 refine in154 (by simp) ?_
 unfold c154
 refine raw ?_
 repeat (first | (with_reducible refine unr ?_; try simp only [YY, ↓reduceIte, Za, Zb, Zc, reduceCtorEq, Zd, Ze, Zf, Zg, Zh, Zi, Zj]) | (with_reducible refine WW (by decide) ?_))
 refine (hasPrefixE s _ σ).mono ?_
 rintro r t ⟨⟨b, rfl, hb⟩, rfl⟩
 have hb : b = true ↔ (bl s)[0]? = some 35 := hb.trans p1
 cases b with
 | false =>
  refine raw ?_
  repeat (first | (with_reducible refine unr ?_; try simp only [YY, ↓reduceIte, Za, Zb, Zc, reduceCtorEq, Zd, Ze, Zf, Zg, Zh, Zi, Zj]) | (with_reducible refine WW (by decide) ?_))
  exact ⟨_, rfl, by simp, fun h => hb.2 h.1⟩
 | true =>
  have h0 : 0 < s.size := by rw [← bl_len]; exact (List.getElem?_eq_some_iff.1 (hb.1 rfl)).1
  have h1 : (1 : Int) ≤ (s.size : Int) := by omega
  refine raw ?_
  repeat (first | (with_reducible refine unr ?_; try simp only [YY, ↓reduceIte, Za, Zb, Zc, reduceCtorEq, Zd, Ze, Zf, Zg, Zh, Zi, Zj]) | (with_reducible refine WW (by decide) ?_))
  refine (hasPrefixE s _ _).mono ?_
  rintro r t ⟨⟨b2, rfl, hb2⟩, rfl⟩
  have hb2 : b2 = true ↔ (bl s)[0]? = some 35 ∧ (bl s)[1]? = some 45 := hb2.trans p2
  cases b2 with
  | true =>
   refine raw ?_
   repeat (first | (with_reducible refine unr ?_; try simp only [YY, ↓reduceIte, Za, Zb, Zc, reduceCtorEq, Zd, Ze, Zf, Zg, Zh, Zi, Zj]) | (with_reducible refine WW (by decide) ?_))
   exact ⟨_, rfl, by simp, fun h => absurd (hb2.1 rfl).2 h.2.1⟩
  | false =>
   refine raw ?_
   repeat (first | (with_reducible refine unr ?_; try simp only [YY, ↓reduceIte, Za, Zb, Zc, reduceCtorEq, Zd, Ze, Zf, Zg, Zh, Zi, Zj, h1]) | (with_reducible refine WW (by decide) ?_))
   refine (parseE _ _).mono ?_
   rintro r t ⟨⟨⟨n, e⟩, rfl, hp⟩, rfl⟩
   refine raw ?_
   repeat (first | (with_reducible refine unr ?_; try simp only [YY, ↓reduceIte, Za, Zb, Zc, reduceCtorEq, Zd, Ze, Zf, Zg, Zh, Zi, Zj]) | (with_reducible refine WW (by decide) ?_))
   refine ⟨_, rfl, ?_⟩
   rw [decide_eq_true_iff, hp, bl_ext, List.take_of_length_le (by rw [bl_len]; simp)]
   exact ⟨fun h => ⟨hb.1 rfl, fun e => (by have := hb2.2 ⟨hb.1 rfl, e⟩; cases this), h⟩, fun h => h.2.2⟩
end Go.Proofs.Ytjjbjibbjbbeaaa
/- The table of the globals. -/
set_option linter.unusedVariables false
set_option linter.unusedSimpArgs false
namespace Go.AL
/-- A constructor as a value. -/
structure Con5 where
 nm : ByteArray
 data : ByteArray
 tag : Int
 par : Int
 fs : List (List AV)
def glOf (l : List Sup) (cons : List Con5) : Gl := ⟨l.map (·.nm), cons.map fun c => (c.nm, c.fs.length)⟩
def ents : Nat → List ByteArray → List (AV × AV)
 | i, [] => []
 | i, s :: r => (.str s, .int .i64 (i : Int)) :: ents (i + 1) r
end Go.AL
namespace Go.Proofs.Ytjjbjibbjbbeaaa
open Go.AL
end Go.Proofs.Ytjjbjibbjbbeaaa
/- Which expressions are known; what is opened. -/
set_option linter.unusedVariables false
set_option linter.unusedSimpArgs false
namespace Go.AL
theorem TAt.kp {σ s : Store} {T tid : Nat} {g : Gl} (h : TAt σ T tid g) (hT : T ≤ σ.next) (k : Kp σ s) : TAt s T tid g := h.keep fun j hj => k.keep j (by omega)
end Go.AL
namespace Go.Proofs.Ytjjbjibbjbbeaaa
open Go.AL
end Go.Proofs.Ytjjbjibbjbbeaaa
/- What is opened. -/
set_option linter.unusedVariables false
set_option linter.unusedSimpArgs false
namespace Go.AL
theorem TAt.up {σ : Store} {T T' tid : Nat} {g : Gl} (h : TAt σ T tid g) (hT : T ≤ T') : TAt σ T' tid g := by
 obtain ⟨⟨sm, cm, fv, sme, cme, h1, h2, h3, h4, h5, h6, h7, h8, h9, h10, h11⟩, hs⟩ := h
 exact ⟨⟨sm, cm, fv, sme, cme, h1, h2, h3, h4, h5, h6, h7, by omega, by omega, by omega, fun j hj => by have := h11 j hj; omega⟩, hs⟩
end Go.AL
namespace Go.Proofs.Ytjjbjibbjbbeaaa
open Go.AL
end Go.Proofs.Ytjjbjibbjbbeaaa
/- What is compiled. -/
set_option linter.unusedVariables false
set_option linter.unusedSimpArgs false
namespace Go.AL
/-- The constructors' codes from a number on. -/
def consS : Nat → List Con5 → List Cd
 | _, [] => []
 | k, c :: r => conS k (c.nm, c.fs.length) :: consS (k + 1) r
def opsS (n : Nat) : List Cd := (List.range n).map fun (i : Nat) => opS' ((i + 1 : Nat) : Int)
noncomputable def compS (l : List Sup) (cons : List Con5) : List Cd := l.map (superS (glOf l cons)) ++ consS 0 cons ++ opsS 11
/-- What is compiled, as a result. -/
def CompP (l : List Sup) (cons : List Con5) (r : AV) : Prop := r = .tuple [.nils, .int .i64 1] ∨ (FlatP l ∧ cons ≠ [] ∧ r = .tuple [.list ((compS l cons).map codeC), .int .i64 0])
@[congr] theorem CompP_congr {w : Prop} (hw : Visit = w) {l : List Sup} {cons : List Con5} {r r' : AV} (h : r = r') : CompP l cons r = CompP l cons r' := by rw [h]
end Go.AL
namespace Go.Proofs.Ytjjbjibbjbbeaaa
open Go.AL
end Go.Proofs.Ytjjbjibbjbbeaaa
/- Two expressions of which Same says true are the same. -/
set_option linter.unusedVariables false
set_option linter.unusedSimpArgs false
namespace Go.AL
end Go.AL
namespace Go.Proofs.Ytjjbjibbjbbeaaa
open Go.AL
end Go.Proofs.Ytjjbjibbjbbeaaa
/- The document's numbers and local names: exactly. -/
set_option linter.unusedVariables false
set_option linter.unusedSimpArgs false
namespace Go.AL
theorem strs_get {l : List ByteArray} {i : Nat} {x : ByteArray} (h : l[i]? = some x) : (l.map fun s => [AV.str s])[i]? = some [AV.str x] := by simp [h]
theorem mem_take_succ {l : List ByteArray} {i : Nat} {x s : ByteArray} (hx : l[i]? = some x) (h : s ∉ l.take i) (hn : ¬ x = s) : s ∉ l.take (i + 1) := by
 intro hm
 rw [List.take_add_one, hx] at hm
 rcases List.mem_append.1 hm with h1 | h1
 · exact h h1
 · simp at h1; exact hn h1.symm
theorem decP_t {p : Prop} (h : p) : @decide p (Classical.propDecidable _) = true := @decide_eq_true _ (Classical.propDecidable _) h
theorem decP_f {p : Prop} (h : ¬ p) : @decide p (Classical.propDecidable _) = false := @decide_eq_false _ (Classical.propDecidable _) h
theorem opFrom_none {s : ByteArray} : ∀ (f i : Nat), (∀ j : Nat, i ≤ j → j < i + f → nameS j ≠ s) → opFrom s f i = 0
 | 0, i, _ => by rw [opFrom]
 | f + 1, i, h => by
  rw [opFrom, if_neg (h i (Nat.le_refl _) (by omega))]
  exact opFrom_none f (i + 1) fun j a b => h j (by omega) (by omega)
theorem opFrom_at {s : ByteArray} : ∀ (f i k : Nat), i ≤ k → k < i + f → nameS k = s → (∀ j : Nat, i ≤ j → j < k → nameS j ≠ s) → opFrom s f i = k
 | 0, i, k, h1, h2, _, _ => by omega
 | f + 1, i, k, h1, h2, hk, h => by
  rw [opFrom]
  by_cases e : i = k
  · subst e; rw [if_pos hk]
  · rw [if_neg (h i (Nat.le_refl _) (by omega))]
    exact opFrom_at f (i + 1) k (by omega) (by omega) hk fun j a b => h j (by omega) b
def opNames : List ByteArray := (List.range 11).map fun (i : Nat) => nameS ((i + 1 : Nat) : Int)
theorem opNames_get {i : Nat} (h : i < 11) : opNames[i]? = some (nameS ((i + 1 : Nat) : Int)) := by simp [opNames, h]
theorem opS_some {s : ByteArray} {i : Nat} (h : i < 11) (e : nameS ((i + 1 : Nat) : Int) = s) (hn : ∀ j : Nat, j < i → nameS ((j + 1 : Nat) : Int) ≠ s) : opS s = ((i + 1 : Nat) : Int) := by
 have hs : ¬ s.size = 0 := by
  have : ∀ k : Nat, k < 11 → ¬ (nameS ((k + 1 : Nat) : Int)).size = 0 := by decide
  rw [← e]; exact this i h
 rw [opS, if_neg hs]
 exact opFrom_at 11 1 (i + 1) (by omega) (by omega) e fun j a b => by
  have := hn (j - 1) (by omega)
  rwa [show j - 1 + 1 = j by omega] at this
theorem opS_zero {s : ByteArray} (hn : ∀ j : Nat, j < 11 → nameS ((j + 1 : Nat) : Int) ≠ s) : opS s = 0 := by
 rw [opS]
 split
 · rfl
 · exact opFrom_none 11 1 fun j a b => by
    have := hn (j - 1) (by omega)
    rwa [show j - 1 + 1 = j by omega] at this
end Go.AL
namespace Go.Proofs.Ytjjbjibbjbbeaaa
open Go.AL
theorem has2 (l : List ByteArray) (hl : l.length ≤ 9223372036854775806) (k : ByteArray) (σ : Store) : ACalls Try.prog 52 [strs l, .str k] σ fun r σ' => r = .bool (@decide (k ∈ l) (Classical.propDecidable _)) ∧ σ' = σ := by
 refine (show ACalls Try.prog 52 [strs l, .str k] σ fun r σ' => (r = .bool (@decide (k ∈ l) (Classical.propDecidable _))) ∧ σ' = σ from ?_)
 refine in52 (by simp) ?_
 unfold c52
 refine raw ?_
 repeat (first | (with_reducible refine unr ?_; try simp only [YY, ↓reduceIte, Za, Zb, Zc, reduceCtorEq, Zd, Ze, Zf, Zg, Zh, Zi, Zj]) | (with_reducible refine WW (by decide) ?_))
 refine AWP_while [0, 1, 5] (fun i : Nat => l.length - i) (fun i => [strs l, .str k, .int .i64 i]) (fun i t => t = σ ∧ i ≤ l.length ∧ Hid (k ∉ l.take i)) 0 ⟨rfl, by simp, ⟨by simp⟩⟩ ?_ ?_
 · refine raw ?_
   repeat (first | (with_reducible refine unr ?_; try simp only [YY, ↓reduceIte, Za, Zb, Zc, reduceCtorEq, Zd, Ze, Zf, Zg, Zh, Zi, Zj]) | (with_reducible refine WW (by decide) ?_))
   rfl
 rintro i t ⟨rfl, hi, hn⟩
 have hw := wrap_succ (i := i) (by omega)
 by_cases hil : i < l.length
 · have hil' : (i : Int) < (l.length : Int) := by omega
   obtain ⟨x, hx⟩ : ∃ x, l[i]? = some x := ⟨_, List.getElem?_eq_getElem hil⟩
   have hg := strs_get hx
   by_cases hk : x = k
   · subst hk
     refine raw ?_
     repeat (first | (with_reducible refine unr ?_; try simp only [YY, ↓reduceIte, Za, Zb, Zc, reduceCtorEq, Zd, Ze, Zf, Zg, Zh, Zi, Zj, hil', hg]) | (with_reducible refine WW (by decide) ?_))
     exact (congrArg AV.bool (decP_t (List.mem_of_getElem? hx))).symm
   · refine raw ?_
     repeat (first | (with_reducible refine unr ?_; try simp only [YY, ↓reduceIte, Za, Zb, Zc, reduceCtorEq, Zd, Ze, Zf, Zg, Zh, Zi, Zj, hil', hg, hk, hw]) | (with_reducible refine WW (by decide) ?_))
     exact ⟨i + 1, rfl, ⟨by omega, ⟨mem_take_succ hx hn.out hk⟩⟩, by omega⟩
 · have hil' : ¬ (i : Int) < (l.length : Int) := by omega
   have hnn := hn.out
   rw [List.take_of_length_le (by omega)] at hnn
   refine raw ?_
   repeat (first | (with_reducible refine unr ?_; try simp only [YY, ↓reduceIte, Za, Zb, Zc, reduceCtorEq, Zd, Ze, Zf, Zg, Zh, Zi, Zj, hil']) | (with_reducible refine WW (by decide) ?_))
   exact (congrArg AV.bool (decP_f hnn)).symm
theorem has14 (l : List ByteArray) (hl : l.length ≤ 9223372036854775806) (k : ByteArray) (σ : Store) : ACalls Try.prog 150 [strs l, .str k] σ fun r σ' => r = .bool (@decide (k ∈ l) (Classical.propDecidable _)) ∧ σ' = σ := by
 refine (show ACalls Try.prog 150 [strs l, .str k] σ fun r σ' => (r = .bool (@decide (k ∈ l) (Classical.propDecidable _))) ∧ σ' = σ from ?_)
 refine in150 (by simp) ?_
 unfold c150
 refine raw ?_
 repeat (first | (with_reducible refine unr ?_; try simp only [YY, ↓reduceIte, Za, Zb, Zc, reduceCtorEq, Zd, Ze, Zf, Zg, Zh, Zi, Zj]) | (with_reducible refine WW (by decide) ?_))
 refine AWP_while [0, 1, 5] (fun i : Nat => l.length - i) (fun i => [strs l, .str k, .int .i64 i]) (fun i t => t = σ ∧ i ≤ l.length ∧ Hid (k ∉ l.take i)) 0 ⟨rfl, by simp, ⟨by simp⟩⟩ ?_ ?_
 · refine raw ?_
   repeat (first | (with_reducible refine unr ?_; try simp only [YY, ↓reduceIte, Za, Zb, Zc, reduceCtorEq, Zd, Ze, Zf, Zg, Zh, Zi, Zj]) | (with_reducible refine WW (by decide) ?_))
   rfl
 rintro i t ⟨rfl, hi, hn⟩
 have hw := wrap_succ (i := i) (by omega)
 by_cases hil : i < l.length
 · have hil' : (i : Int) < (l.length : Int) := by omega
   obtain ⟨x, hx⟩ : ∃ x, l[i]? = some x := ⟨_, List.getElem?_eq_getElem hil⟩
   have hg := strs_get hx
   by_cases hk : x = k
   · subst hk
     refine raw ?_
     repeat (first | (with_reducible refine unr ?_; try simp only [YY, ↓reduceIte, Za, Zb, Zc, reduceCtorEq, Zd, Ze, Zf, Zg, Zh, Zi, Zj, hil', hg]) | (with_reducible refine WW (by decide) ?_))
     exact (congrArg AV.bool (decP_t (List.mem_of_getElem? hx))).symm
   · refine raw ?_
     repeat (first | (with_reducible refine unr ?_; try simp only [YY, ↓reduceIte, Za, Zb, Zc, reduceCtorEq, Zd, Ze, Zf, Zg, Zh, Zi, Zj, hil', hg, hk, hw]) | (with_reducible refine WW (by decide) ?_))
     exact ⟨i + 1, rfl, ⟨by omega, ⟨mem_take_succ hx hn.out hk⟩⟩, by omega⟩
 · have hil' : ¬ (i : Int) < (l.length : Int) := by omega
   have hnn := hn.out
   rw [List.take_of_length_le (by omega)] at hnn
   refine raw ?_
   repeat (first | (with_reducible refine unr ?_; try simp only [YY, ↓reduceIte, Za, Zb, Zc, reduceCtorEq, Zd, Ze, Zf, Zg, Zh, Zi, Zj, hil']) | (with_reducible refine WW (by decide) ?_))
   exact (congrArg AV.bool (decP_f hnn)).symm
theorem opE (s : ByteArray) (σ : Store) : ACalls Try.prog 50 [.str s] σ fun r σ' => r = .int .i64 (opS s) ∧ σ' = σ := by
 have h90 : ∀ σ : Store, ACalls Try.prog 90 [] σ fun r σ' => r = strs opNames ∧ σ' = σ := fun σ => by
  refine in90 (by simp) ?_
  unfold c90
  refine raw ?_
  repeat (first | (with_reducible refine unr ?_; try simp only [YY, ↓reduceIte, Za, Zb, Zc, reduceCtorEq, Zd, Ze, Zf, Zg, Zh, Zi, Zj]) | (with_reducible refine WW (by decide) ?_))
  rfl
 refine in50 (by simp) ?_
 unfold c50
 refine raw ?_
 repeat (first | (with_reducible refine unr ?_; try simp only [YY, ↓reduceIte, Za, Zb, Zc, reduceCtorEq, Zd, Ze, Zf, Zg, Zh, Zi, Zj]) | (with_reducible refine WW (by decide) ?_))
 refine (h90 σ).mono ?_
 rintro _ σ ⟨rfl, rfl⟩
 refine raw ?_
 repeat (first | (with_reducible refine unr ?_; try simp only [YY, ↓reduceIte, Za, Zb, Zc, reduceCtorEq, Zd, Ze, Zf, Zg, Zh, Zi, Zj]) | (with_reducible refine WW (by decide) ?_))
 have h11 : opNames.length = 11 := rfl
 refine AWP_while [0, 3, 4] (fun i : Nat => 11 - i) (fun i => [.str s, strs opNames, .int .i64 i]) (fun i t => t = σ ∧ i ≤ 11 ∧ Hid (∀ j : Nat, j < i → nameS ((j + 1 : Nat) : Int) ≠ s)) 0 ⟨rfl, by simp, ⟨by simp⟩⟩ ?_ ?_
 · refine raw ?_
   repeat (first | (with_reducible refine unr ?_; try simp only [YY, ↓reduceIte, Za, Zb, Zc, reduceCtorEq, Zd, Ze, Zf, Zg, Zh, Zi, Zj]) | (with_reducible refine WW (by decide) ?_))
   rfl
 rintro i t ⟨rfl, hi, hn⟩
 have hw := wrap_succ (i := i) (by omega)
 by_cases hil : i < 11
 · have hil' : (i : Int) < ((11 : Nat) : Int) := by omega
   have hg := strs_get (opNames_get hil)
   by_cases hk : nameS ((i + 1 : Nat) : Int) = s
   · refine raw ?_
     repeat (first | (with_reducible refine unr ?_; try simp only [YY, ↓reduceIte, Za, Zb, Zc, reduceCtorEq, Zd, Ze, Zf, Zg, Zh, Zi, Zj, h11, hil', hg, hk, hw]) | (with_reducible refine WW (by decide) ?_))
     rw [opS_some hil hk hn.out]
   · refine raw ?_
     repeat (first | (with_reducible refine unr ?_; try simp only [YY, ↓reduceIte, Za, Zb, Zc, reduceCtorEq, Zd, Ze, Zf, Zg, Zh, Zi, Zj, h11, hil', hg, hk, hw]) | (with_reducible refine WW (by decide) ?_))
     refine ⟨i + 1, rfl, ⟨by omega, ⟨fun j hj => ?_⟩⟩, by omega⟩
     by_cases e : j = i
     · subst e; exact hk
     · exact hn.out j (by omega)
 · have hil' : ¬ (i : Int) < ((11 : Nat) : Int) := by omega
   refine raw ?_
   repeat (first | (with_reducible refine unr ?_; try simp only [YY, ↓reduceIte, Za, Zb, Zc, reduceCtorEq, Zd, Ze, Zf, Zg, Zh, Zi, Zj, h11, hil']) | (with_reducible refine WW (by decide) ?_))
   rw [opS_zero fun j hj => hn.out j (by omega)]
end Go.Proofs.Ytjjbjibbjbbeaaa

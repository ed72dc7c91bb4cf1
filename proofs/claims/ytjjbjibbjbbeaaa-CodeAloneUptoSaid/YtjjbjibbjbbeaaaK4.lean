/- A part of the proof of the claim: the abstract layer, the contracts of the functions, the law (no condition of its own). -/
import Derived.Test.YtjjbjibbjbbeaaaK3
import Derived.Test.YtjjbjibbjbbeaaaProg
import Derived.KernelRfl
/- The resolved code of some functions. -/
set_option linter.unusedVariables false
namespace Go.Proofs.Ytjjbjibbjbbeaaa
open Go.AL
/-- changeling/changelinglaw15.LiftAlone -/
def c5 : ACode :=
(.seq
 (.reg [⟨(some 3), .new 58 (.t 1), none⟩,
 ⟨(some 4), .move (.c (.bool false)), none⟩])
 (.seq
 (.seq
 (.reg [⟨(some 11), .move (.t 0), none⟩,
 ⟨(some 12), .call 16 [(.t 11)], none⟩,
 ⟨(some 13), .not (.t 12), none⟩,
 ⟨(some 14), .move (.t 13), none⟩,
 ⟨(some 15), .load (some 10) (.t 3), some (14, false)⟩,
 ⟨(some 16), .lit false 58 10 [(.t 15)], some (14, false)⟩,
 ⟨(some 17), .call 16 [(.t 16)], some (14, false)⟩,
 ⟨(some 18), .not (.t 17), some (14, false)⟩,
 ⟨(some 19), .pick (.t 14) (.c (.bool true)) (.t 18), none⟩])
 (.cond (.t 19)
 (.seq
 (.reg [⟨(some 20), .call 18 [], none⟩,
 ⟨(some 4), .move (.t 20), none⟩])
 .ret)
 .skip))
 (.seq
 (.reg [⟨(some 22), .move (.t 0), none⟩,
 ⟨(some 23), .call 19 [(.t 22)], none⟩,
 ⟨(some 21), .move (.t 23), none⟩,
 ⟨(some 24), .extract (.t 21) 0, none⟩,
 ⟨(some 25), .extract (.t 21) 1, none⟩,
 ⟨(some 5), .move (.t 24), none⟩,
 ⟨(some 6), .move (.t 25), none⟩])
 (.seq
 (.reg [⟨(some 7), .move (.c .nils), none⟩])
 (.seq
 (.seq
 (.reg [⟨(some 8), .move (.c (.int .i64 0)), none⟩])
 (.block 0
 (.loop
 (.seq
 (.seq
 (.reg [⟨(some 26), .move (.t 8), none⟩,
 ⟨(some 27), .move (.t 0), none⟩,
 ⟨(some 28), .len .slice (.t 27), none⟩,
 ⟨(some 29), .bin .int .lss (.t 26) (.t 28), none⟩])
 (.cond (.t 29)
 .skip
 (.exit 0)))
 (.seq
 (.block 1
 (.reg [⟨(some 32), .move (.t 7), none⟩,
 ⟨(some 33), .move (.t 0), none⟩,
 ⟨(some 34), .move (.t 8), none⟩,
 ⟨(some 35), .iaddr 10 (.t 33) (.t 34), none⟩,
 ⟨(some 36), .load (some 10) (.t 35), none⟩,
 ⟨(some 37), .lit false 58 10 [(.t 36)], none⟩,
 ⟨(some 38), .append 58 10 176 (.t 32) (.t 37), none⟩,
 ⟨(some 7), .move (.t 38), none⟩]))
 (.reg [⟨(some 30), .move (.t 8), none⟩,
 ⟨(some 31), .bin .int .add (.t 30) (.c (.int .i64 1)), none⟩,
 ⟨(some 8), .move (.t 31), none⟩]))))))
 (.seq
 (.reg [⟨(some 40), .move (.t 7), none⟩,
 ⟨(some 41), .load (some 10) (.t 3), none⟩,
 ⟨(some 42), .lit false 58 10 [(.t 41)], none⟩,
 ⟨(some 43), .append 58 10 176 (.t 40) (.t 42), none⟩,
 ⟨(some 44), .call 19 [(.t 43)], none⟩,
 ⟨(some 39), .move (.t 44), none⟩,
 ⟨(some 45), .extract (.t 39) 0, none⟩,
 ⟨(some 46), .extract (.t 39) 1, none⟩,
 ⟨(some 9), .move (.t 45), none⟩,
 ⟨(some 10), .move (.t 46), none⟩])
 (.seq
 (.seq
 (.reg [⟨(some 47), .move (.t 6), none⟩,
 ⟨(some 48), .bin .int .neq (.t 47) (.c (.int .i64 0)), none⟩,
 ⟨(some 49), .move (.t 48), none⟩,
 ⟨(some 50), .move (.t 10), some (49, false)⟩,
 ⟨(some 51), .bin .int .neq (.t 50) (.c (.int .i64 0)), some (49, false)⟩,
 ⟨(some 52), .pick (.t 49) (.c (.bool true)) (.t 51), none⟩])
 (.cond (.t 52)
 (.seq
 (.reg [⟨(some 53), .call 18 [], none⟩,
 ⟨(some 4), .move (.t 53), none⟩])
 .ret)
 .skip))
 (.seq
 (.reg [⟨(some 54), .move (.t 9), none⟩,
 ⟨(some 55), .len .slice (.t 54), none⟩,
 ⟨(some 56), .move (.t 5), none⟩,
 ⟨(some 57), .len .slice (.t 56), none⟩,
 ⟨(some 58), .bin .int .gtr (.t 55) (.t 57), none⟩,
 ⟨(some 59), .move (.t 58), none⟩,
 ⟨(some 60), .move (.t 9), some (59, true)⟩,
 ⟨(some 61), .move (.t 5), some (59, true)⟩,
 ⟨(some 62), .len .slice (.t 61), some (59, true)⟩,
 ⟨(some 63), .cut .slice 11 (.t 60) none (some (.t 62)), some (59, true)⟩,
 ⟨(some 65), .move (.t 5), some (59, true)⟩,
 ⟨(some 64), .call 22 [(.t 63)], some (59, true)⟩,
 ⟨(some 66), .call 22 [(.t 65)], some (59, true)⟩,
 ⟨(some 67), .call 24 [(.t 64), (.t 66)], some (59, true)⟩,
 ⟨(some 68), .pick (.t 59) (.t 67) (.c (.bool false)), none⟩,
 ⟨(some 69), .move (.t 68), none⟩,
 ⟨(some 70), .move (.t 9), some (69, true)⟩,
 ⟨(some 71), .move (.t 5), some (69, true)⟩,
 ⟨(some 72), .len .slice (.t 71), some (69, true)⟩,
 ⟨(some 73), .iaddr 11 (.t 70) (.t 72), some (69, true)⟩,
 ⟨(some 74), .faddr 0 (.t 73), some (69, true)⟩,
 ⟨(some 75), .load none (.t 74), some (69, true)⟩,
 ⟨(some 76), .faddr 0 (.t 3), some (69, true)⟩,
 ⟨(some 77), .load none (.t 76), some (69, true)⟩,
 ⟨(some 78), .bin .str .eql (.t 75) (.t 77), some (69, true)⟩,
 ⟨(some 79), .pick (.t 69) (.t 78) (.c (.bool false)), none⟩,
 ⟨(some 80), .move (.t 79), none⟩,
 ⟨(some 81), .call 18 [], some (80, true)⟩,
 ⟨(some 82), .pick (.t 80) (.t 81) (.c (.bool false)), none⟩,
 ⟨(some 4), .move (.t 82), none⟩])
 .ret))))))))
/-- changeling/changelingref14.Size -/
def c17 : ACode :=
(.seq
 (.reg [⟨(some 1), .new 54 (.t 0), none⟩,
 ⟨(some 2), .move (.c (.int .i64 0)), none⟩])
 (.seq
 (.reg [⟨(some 3), .move (.c (.int .i64 1)), none⟩])
 (.seq
 (.seq
 (.reg [⟨(some 4), .move (.c (.int .i64 0)), none⟩])
 (.block 0
 (.loop
 (.seq
 (.seq
 (.reg [⟨(some 8), .move (.t 4), none⟩,
 ⟨(some 9), .faddr 5 (.t 1), none⟩,
 ⟨(some 10), .load none (.t 9), none⟩,
 ⟨(some 11), .len .slice (.t 10), none⟩,
 ⟨(some 12), .bin .int .lss (.t 8) (.t 11), none⟩])
 (.cond (.t 12)
 .skip
 (.exit 0)))
 (.seq
 (.block 1
 (.reg [⟨(some 15), .move (.t 3), none⟩,
 ⟨(some 16), .faddr 5 (.t 1), none⟩,
 ⟨(some 17), .load none (.t 16), none⟩,
 ⟨(some 18), .move (.t 4), none⟩,
 ⟨(some 19), .iaddr 9 (.t 17) (.t 18), none⟩,
 ⟨(some 20), .load (some 9) (.t 19), none⟩,
 ⟨(some 21), .call 17 [(.t 20)], none⟩,
 ⟨(some 22), .bin .int .add (.t 15) (.t 21), none⟩,
 ⟨(some 3), .move (.t 22), none⟩]))
 (.reg [⟨(some 13), .move (.t 4), none⟩,
 ⟨(some 14), .bin .int .add (.t 13) (.c (.int .i64 1)), none⟩,
 ⟨(some 4), .move (.t 14), none⟩]))))))
 (.seq
 (.seq
 (.reg [⟨(some 5), .move (.c (.int .i64 0)), none⟩])
 (.block 2
 (.loop
 (.seq
 (.seq
 (.reg [⟨(some 23), .move (.t 5), none⟩,
 ⟨(some 24), .faddr 6 (.t 1), none⟩,
 ⟨(some 25), .load none (.t 24), none⟩,
 ⟨(some 26), .len .slice (.t 25), none⟩,
 ⟨(some 27), .bin .int .lss (.t 23) (.t 26), none⟩])
 (.cond (.t 27)
 .skip
 (.exit 2)))
 (.seq
 (.block 3
 (.reg [⟨(some 30), .move (.t 3), none⟩,
 ⟨(some 31), .faddr 6 (.t 1), none⟩,
 ⟨(some 32), .load none (.t 31), none⟩,
 ⟨(some 33), .move (.t 5), none⟩,
 ⟨(some 34), .iaddr 13 (.t 32) (.t 33), none⟩,
 ⟨(some 35), .faddr 4 (.t 34), none⟩,
 ⟨(some 36), .load (some 9) (.t 35), none⟩,
 ⟨(some 37), .call 17 [(.t 36)], none⟩,
 ⟨(some 38), .bin .int .add (.t 30) (.t 37), none⟩,
 ⟨(some 3), .move (.t 38), none⟩]))
 (.reg [⟨(some 28), .move (.t 5), none⟩,
 ⟨(some 29), .bin .int .add (.t 28) (.c (.int .i64 1)), none⟩,
 ⟨(some 5), .move (.t 29), none⟩]))))))
 (.seq
 (.seq
 (.reg [⟨(some 6), .move (.c (.int .i64 0)), none⟩])
 (.block 4
 (.loop
 (.seq
 (.seq
 (.reg [⟨(some 39), .move (.t 6), none⟩,
 ⟨(some 40), .faddr 7 (.t 1), none⟩,
 ⟨(some 41), .load none (.t 40), none⟩,
 ⟨(some 42), .len .slice (.t 41), none⟩,
 ⟨(some 43), .bin .int .lss (.t 39) (.t 42), none⟩])
 (.cond (.t 43)
 .skip
 (.exit 4)))
 (.seq
 (.block 5
 (.reg [⟨(some 46), .move (.t 3), none⟩,
 ⟨(some 47), .faddr 7 (.t 1), none⟩,
 ⟨(some 48), .load none (.t 47), none⟩,
 ⟨(some 49), .move (.t 6), none⟩,
 ⟨(some 50), .iaddr 10 (.t 48) (.t 49), none⟩,
 ⟨(some 51), .faddr 1 (.t 50), none⟩,
 ⟨(some 52), .load (some 9) (.t 51), none⟩,
 ⟨(some 53), .call 17 [(.t 52)], none⟩,
 ⟨(some 54), .bin .int .add (.t 46) (.t 53), none⟩,
 ⟨(some 3), .move (.t 54), none⟩]))
 (.reg [⟨(some 44), .move (.t 6), none⟩,
 ⟨(some 45), .bin .int .add (.t 44) (.c (.int .i64 1)), none⟩,
 ⟨(some 6), .move (.t 45), none⟩]))))))
 (.seq
 (.seq
 (.reg [⟨(some 7), .move (.c (.int .i64 0)), none⟩])
 (.block 6
 (.loop
 (.seq
 (.seq
 (.reg [⟨(some 55), .move (.t 7), none⟩,
 ⟨(some 56), .faddr 8 (.t 1), none⟩,
 ⟨(some 57), .load none (.t 56), none⟩,
 ⟨(some 58), .len .slice (.t 57), none⟩,
 ⟨(some 59), .bin .int .lss (.t 55) (.t 58), none⟩])
 (.cond (.t 59)
 .skip
 (.exit 6)))
 (.seq
 (.block 7
 (.reg [⟨(some 62), .move (.t 3), none⟩,
 ⟨(some 63), .faddr 8 (.t 1), none⟩,
 ⟨(some 64), .load none (.t 63), none⟩,
 ⟨(some 65), .move (.t 7), none⟩,
 ⟨(some 66), .iaddr 10 (.t 64) (.t 65), none⟩,
 ⟨(some 67), .faddr 1 (.t 66), none⟩,
 ⟨(some 68), .load (some 9) (.t 67), none⟩,
 ⟨(some 69), .call 17 [(.t 68)], none⟩,
 ⟨(some 70), .bin .int .add (.t 62) (.t 69), none⟩,
 ⟨(some 3), .move (.t 70), none⟩]))
 (.reg [⟨(some 60), .move (.t 7), none⟩,
 ⟨(some 61), .bin .int .add (.t 60) (.c (.int .i64 1)), none⟩,
 ⟨(some 7), .move (.t 61), none⟩]))))))
 (.seq
 (.reg [⟨(some 71), .move (.t 3), none⟩,
 ⟨(some 2), .move (.t 71), none⟩])
 .ret)))))))
theorem in17 {args : List AV} {σ : Store} {K : AV → Store → Prop} (hargs : args.length ≤ 72 := by simp) (h : AWP Try.prog Try.f17.ntmps c17 (fun e t s => match e with | .exit _ => False | _ => Res [.slot 2] K t s) (env (argList 0 args)) σ) : ACalls Try.prog 17 args σ K :=
  enter (own := []) Try.func17 (by kernel_rfl) (by kernel_rfl) (by kernel_rfl) hargs h
/-- changeling/num.Op -/
def c83 : ACode :=
(.seq
 (.reg [⟨(some 2), .move (.c (.int .i64 0)), none⟩])
 (.seq
 (.seq
 (.reg [⟨(some 4), .move (.t 0), none⟩,
 ⟨(some 5), .bin .str .eql (.t 4) (.c (.str ⟨#[]⟩)), none⟩])
 (.cond (.t 5)
 (.seq
 (.reg [⟨(some 2), .move (.c (.int .i64 0)), none⟩])
 .ret)
 .skip))
 (.seq
 (.seq
 (.reg [⟨(some 3), .move (.c (.int .i64 1)), none⟩])
 (.block 0
 (.loop
 (.seq
 (.seq
 (.reg [⟨(some 6), .move (.t 3), none⟩,
 ⟨(some 7), .bin .int .leq (.t 6) (.c (.int .i64 11)), none⟩])
 (.cond (.t 7)
 .skip
 (.exit 0)))
 (.seq
 (.block 1
 (.seq
 (.reg [⟨(some 10), .move (.t 3), none⟩,
 ⟨(some 11), .call 110 [(.t 10)], none⟩,
 ⟨(some 12), .move (.t 0), none⟩,
 ⟨(some 13), .bin .str .eql (.t 11) (.t 12), none⟩])
 (.cond (.t 13)
 (.seq
 (.reg [⟨(some 14), .move (.t 3), none⟩,
 ⟨(some 2), .move (.t 14), none⟩])
 .ret)
 .skip)))
 (.reg [⟨(some 8), .move (.t 3), none⟩,
 ⟨(some 9), .bin .int .add (.t 8) (.c (.int .i64 1)), none⟩,
 ⟨(some 3), .move (.t 9), none⟩]))))))
 (.seq
 (.reg [⟨(some 2), .move (.c (.int .i64 0)), none⟩])
 .ret))))
theorem in83 {args : List AV} {σ : Store} {K : AV → Store → Prop} (hargs : args.length ≤ 15 := by simp) (h : AWP Try.prog Try.f83.ntmps c83 (fun e t s => match e with | .exit _ => False | _ => Res [.slot 2] K t s) (env (argList 0 args)) σ) : ACalls Try.prog 83 args σ K :=
  enter (own := []) Try.func83 (by kernel_rfl) (by kernel_rfl) (by kernel_rfl) hargs h
/-- changeling/num.Name -/
def c110 : ACode :=
(.seq
 (.reg [⟨(some 2), .move (.c (.str ⟨#[]⟩)), none⟩])
 (.seq
 (.seq
 (.reg [⟨(some 3), .move (.t 0), none⟩])
 (.block 0
 (.seq
 (.reg [⟨(some 5), .bin .int .eql (.t 3) (.c (.int .i64 1)), none⟩,
 ⟨(some 4), .move (.t 5), none⟩])
 (.cond (.t 4)
 (.seq
 (.reg [⟨(some 2), .move (.c (.str ⟨#[43]⟩)), none⟩])
 .ret)
 (.seq
 (.reg [⟨(some 7), .bin .int .eql (.t 3) (.c (.int .i64 2)), none⟩,
 ⟨(some 6), .move (.t 7), none⟩])
 (.cond (.t 6)
 (.seq
 (.reg [⟨(some 2), .move (.c (.str ⟨#[45]⟩)), none⟩])
 .ret)
 (.seq
 (.reg [⟨(some 9), .bin .int .eql (.t 3) (.c (.int .i64 3)), none⟩,
 ⟨(some 8), .move (.t 9), none⟩])
 (.cond (.t 8)
 (.seq
 (.reg [⟨(some 2), .move (.c (.str ⟨#[42]⟩)), none⟩])
 .ret)
 (.seq
 (.reg [⟨(some 11), .bin .int .eql (.t 3) (.c (.int .i64 4)), none⟩,
 ⟨(some 10), .move (.t 11), none⟩])
 (.cond (.t 10)
 (.seq
 (.reg [⟨(some 2), .move (.c (.str ⟨#[47]⟩)), none⟩])
 .ret)
 (.seq
 (.reg [⟨(some 13), .bin .int .eql (.t 3) (.c (.int .i64 5)), none⟩,
 ⟨(some 12), .move (.t 13), none⟩])
 (.cond (.t 12)
 (.seq
 (.reg [⟨(some 2), .move (.c (.str ⟨#[37]⟩)), none⟩])
 .ret)
 (.seq
 (.reg [⟨(some 15), .bin .int .eql (.t 3) (.c (.int .i64 6)), none⟩,
 ⟨(some 14), .move (.t 15), none⟩])
 (.cond (.t 14)
 (.seq
 (.reg [⟨(some 2), .move (.c (.str ⟨#[61, 61]⟩)), none⟩])
 .ret)
 (.seq
 (.reg [⟨(some 17), .bin .int .eql (.t 3) (.c (.int .i64 7)), none⟩,
 ⟨(some 16), .move (.t 17), none⟩])
 (.cond (.t 16)
 (.seq
 (.reg [⟨(some 2), .move (.c (.str ⟨#[47, 61]⟩)), none⟩])
 .ret)
 (.seq
 (.reg [⟨(some 19), .bin .int .eql (.t 3) (.c (.int .i64 8)), none⟩,
 ⟨(some 18), .move (.t 19), none⟩])
 (.cond (.t 18)
 (.seq
 (.reg [⟨(some 2), .move (.c (.str ⟨#[60]⟩)), none⟩])
 .ret)
 (.seq
 (.reg [⟨(some 21), .bin .int .eql (.t 3) (.c (.int .i64 9)), none⟩,
 ⟨(some 20), .move (.t 21), none⟩])
 (.cond (.t 20)
 (.seq
 (.reg [⟨(some 2), .move (.c (.str ⟨#[60, 61]⟩)), none⟩])
 .ret)
 (.seq
 (.reg [⟨(some 23), .bin .int .eql (.t 3) (.c (.int .i64 10)), none⟩,
 ⟨(some 22), .move (.t 23), none⟩])
 (.cond (.t 22)
 (.seq
 (.reg [⟨(some 2), .move (.c (.str ⟨#[62]⟩)), none⟩])
 .ret)
 (.seq
 (.reg [⟨(some 25), .bin .int .eql (.t 3) (.c (.int .i64 11)), none⟩,
 ⟨(some 24), .move (.t 25), none⟩])
 (.cond (.t 24)
 (.seq
 (.reg [⟨(some 2), .move (.c (.str ⟨#[62, 61]⟩)), none⟩])
 .ret)
 .skip))))))))))))))))))))))))
 (.seq
 (.reg [⟨(some 2), .move (.c (.str ⟨#[]⟩)), none⟩])
 .ret)))
theorem in110 {args : List AV} {σ : Store} {K : AV → Store → Prop} (hargs : args.length ≤ 26 := by simp) (h : AWP Try.prog Try.f110.ntmps c110 (fun e t s => match e with | .exit _ => False | _ => Res [.slot 2] K t s) (env (argList 0 args)) σ) : ACalls Try.prog 110 args σ K :=
  enter (own := []) Try.func110 (by kernel_rfl) (by kernel_rfl) (by kernel_rfl) hargs h
/-- changeling/num.Parse -/
def c141 : ACode :=
(.seq
 (.reg [⟨(some 2), .move (.c (.int .i64 0)), none⟩,
 ⟨(some 3), .move (.c (.int .i64 0)), none⟩])
 (.scope
 (.seq
 (.reg [⟨(some 10), .move (.t 0), none⟩,
 ⟨(some 4), .move (.t 10), none⟩])
 (.seq
 (.reg [⟨(some 11), .move (.t 0), none⟩,
 ⟨(some 12), .len .str (.t 11), none⟩,
 ⟨(some 13), .bin .int .gtr (.t 12) (.c (.int .i64 0)), none⟩,
 ⟨(some 14), .move (.t 13), none⟩,
 ⟨(some 15), .move (.t 0), some (14, true)⟩,
 ⟨(some 16), .index (.t 15) (.c (.int .i64 0)), some (14, true)⟩,
 ⟨(some 17), .bin .int .eql (.t 16) (.c (.int .u8 45)), some (14, true)⟩,
 ⟨(some 18), .pick (.t 14) (.t 17) (.c (.bool false)), none⟩,
 ⟨(some 5), .move (.t 18), none⟩])
 (.seq
 (.seq
 (.reg [⟨(some 19), .move (.t 5), none⟩])
 (.cond (.t 19)
 (.reg [⟨(some 20), .move (.t 0), none⟩,
 ⟨(some 21), .cut .str 1 (.t 20) (some (.c (.int .i64 1))) none, none⟩,
 ⟨(some 4), .move (.t 21), none⟩])
 .skip))
 (.seq
 (.seq
 (.reg [⟨(some 22), .move (.t 4), none⟩,
 ⟨(some 23), .bin .str .eql (.t 22) (.c (.str ⟨#[]⟩)), none⟩,
 ⟨(some 24), .move (.t 23), none⟩,
 ⟨(some 25), .move (.t 4), some (24, false)⟩,
 ⟨(some 26), .len .str (.t 25), some (24, false)⟩,
 ⟨(some 27), .bin .int .gtr (.t 26) (.c (.int .i64 19)), some (24, false)⟩,
 ⟨(some 28), .pick (.t 24) (.c (.bool true)) (.t 27), none⟩,
 ⟨(some 29), .move (.t 28), none⟩,
 ⟨(some 30), .move (.t 4), some (29, false)⟩,
 ⟨(some 31), .index (.t 30) (.c (.int .i64 0)), some (29, false)⟩,
 ⟨(some 32), .bin .int .eql (.t 31) (.c (.int .u8 48)), some (29, false)⟩,
 ⟨(some 33), .move (.t 32), some (29, false)⟩,
 ⟨(some 34), .move (.t 0), some (33, true)⟩,
 ⟨(some 35), .len .str (.t 34), some (33, true)⟩,
 ⟨(some 36), .bin .int .gtr (.t 35) (.c (.int .i64 1)), some (33, true)⟩,
 ⟨(some 37), .pick (.t 33) (.t 36) (.c (.bool false)), some (29, false)⟩,
 ⟨(some 38), .pick (.t 29) (.c (.bool true)) (.t 37), none⟩])
 (.cond (.t 38)
 (.seq
 (.reg [⟨(some 2), .move (.c (.int .i64 0)), none⟩,
 ⟨(some 3), .move (.c (.int .i64 11)), none⟩])
 .ret)
 .skip))
 (.seq
 (.reg [⟨(some 6), .move (.c (.int .u64 0)), none⟩])
 (.seq
 (.reg [⟨(some 7), .move (.c (.bool true)), none⟩])
 (.seq
 .skip
 (.seq
 (.seq
 (.reg [⟨(some 8), .move (.c (.int .i64 0)), none⟩])
 (.block 0
 (.loop
 (.seq
 (.seq
 (.reg [⟨(some 39), .move (.t 8), none⟩,
 ⟨(some 40), .move (.t 4), none⟩,
 ⟨(some 41), .len .str (.t 40), none⟩,
 ⟨(some 42), .bin .int .lss (.t 39) (.t 41), none⟩])
 (.cond (.t 42)
 .skip
 (.exit 0)))
 (.seq
 (.block 1
 (.seq
 (.reg [⟨(some 45), .move (.t 4), none⟩,
 ⟨(some 46), .move (.t 8), none⟩,
 ⟨(some 47), .index (.t 45) (.t 46), none⟩,
 ⟨(some 9), .move (.t 47), none⟩])
 (.seq
 (.seq
 (.reg [⟨(some 48), .move (.t 9), none⟩,
 ⟨(some 49), .bin .int .lss (.t 48) (.c (.int .u8 48)), none⟩,
 ⟨(some 50), .move (.t 49), none⟩,
 ⟨(some 51), .move (.t 9), some (50, false)⟩,
 ⟨(some 52), .bin .int .gtr (.t 51) (.c (.int .u8 57)), some (50, false)⟩,
 ⟨(some 53), .pick (.t 50) (.c (.bool true)) (.t 52), none⟩])
 (.cond (.t 53)
 (.seq
 (.reg [⟨(some 7), .move (.c (.bool false)), none⟩])
 (.exit 0))
 .skip))
 (.reg [⟨(some 54), .move (.t 6), none⟩,
 ⟨(some 55), .bin .int .mul (.t 54) (.c (.int .u64 10)), none⟩,
 ⟨(some 56), .move (.t 9), none⟩,
 ⟨(some 57), .bin .int .sub (.t 56) (.c (.int .u8 48)), none⟩,
 ⟨(some 58), .conv .u64 (.t 57), none⟩,
 ⟨(some 59), .bin .int .add (.t 55) (.t 58), none⟩,
 ⟨(some 6), .move (.t 59), none⟩]))))
 (.reg [⟨(some 43), .move (.t 8), none⟩,
 ⟨(some 44), .bin .int .add (.t 43) (.c (.int .i64 1)), none⟩,
 ⟨(some 8), .move (.t 44), none⟩]))))))
 (.seq
 (.seq
 (.reg [⟨(some 60), .move (.t 7), none⟩,
 ⟨(some 61), .not (.t 60), none⟩,
 ⟨(some 62), .move (.t 61), none⟩,
 ⟨(some 63), .move (.t 6), some (62, false)⟩,
 ⟨(some 64), .bin .int .gtr (.t 63) (.c (.int .u64 9223372036854775808)), some (62, false)⟩,
 ⟨(some 65), .pick (.t 62) (.c (.bool true)) (.t 64), none⟩,
 ⟨(some 66), .move (.t 65), none⟩,
 ⟨(some 67), .move (.t 6), some (66, false)⟩,
 ⟨(some 68), .bin .int .eql (.t 67) (.c (.int .u64 9223372036854775808)), some (66, false)⟩,
 ⟨(some 69), .move (.t 68), some (66, false)⟩,
 ⟨(some 70), .move (.t 5), some (69, true)⟩,
 ⟨(some 71), .not (.t 70), some (69, true)⟩,
 ⟨(some 72), .pick (.t 69) (.t 71) (.c (.bool false)), some (66, false)⟩,
 ⟨(some 73), .pick (.t 66) (.c (.bool true)) (.t 72), none⟩])
 (.cond (.t 73)
 (.seq
 (.reg [⟨(some 2), .move (.c (.int .i64 0)), none⟩,
 ⟨(some 3), .move (.c (.int .i64 11)), none⟩])
 .ret)
 .skip))
 (.seq
 (.seq
 (.reg [⟨(some 74), .move (.t 5), none⟩])
 (.cond (.t 74)
 (.reg [⟨(some 75), .move (.t 6), none⟩,
 ⟨(some 76), .neg (.t 75), none⟩,
 ⟨(some 6), .move (.t 76), none⟩])
 .skip))
 (.seq
 (.reg [⟨(some 77), .move (.t 6), none⟩,
 ⟨(some 78), .conv .i64 (.t 77), none⟩,
 ⟨(some 2), .move (.t 78), none⟩,
 ⟨(some 3), .move (.c (.int .i64 0)), none⟩])
 .ret)))))))))))))
theorem in141 {args : List AV} {σ : Store} {K : AV → Store → Prop} (hargs : args.length ≤ 79 := by simp) (h : AWP Try.prog Try.f141.ntmps c141 (fun e t s => match e with | .exit _ => False | _ => Res [.slot 2, .slot 3] K t s) (env (argList 0 args)) σ) : ACalls Try.prog 141 args σ K :=
  enter (own := []) Try.func141 (by kernel_rfl) (by kernel_rfl) (by kernel_rfl) hargs h
/-- slices.Contains[[]string,string] -/
def c85 : ACode :=
(.seq
 (.reg [⟨(some 4), .move (.c (.bool false)), none⟩])
 (.seq
 (.reg [⟨(some 5), .move (.t 0), none⟩,
 ⟨(some 6), .move (.t 1), none⟩,
 ⟨(some 7), .call 142 [(.t 5), (.t 6)], none⟩,
 ⟨(some 8), .bin .int .geq (.t 7) (.c (.int .i64 0)), none⟩,
 ⟨(some 4), .move (.t 8), none⟩])
 .ret))
theorem in85 {args : List AV} {σ : Store} {K : AV → Store → Prop} (hargs : args.length ≤ 9 := by simp) (h : AWP Try.prog Try.f85.ntmps c85 (fun e t s => match e with | .exit _ => False | _ => Res [.slot 4] K t s) (env (argList 0 args)) σ) : ACalls Try.prog 85 args σ K :=
  enter (own := []) Try.func85 (by kernel_rfl) (by kernel_rfl) (by kernel_rfl) hargs h
/-- slices.Index[[]string,string] -/
def c142 : ACode :=
(.seq
 (.reg [⟨(some 4), .move (.c (.int .i64 0)), none⟩])
 (.seq
 (.seq
 (.reg [⟨(some 6), .move (.t 0), none⟩,
 ⟨(some 7), .len .slice (.t 6), none⟩,
 ⟨(some 8), .move (.c (.int .i64 0)), none⟩])
 (.block 0
 (.loop
 (.seq
 (.reg [⟨(some 9), .bin .int .lss (.t 8) (.t 7), none⟩])
 (.seq
 (.cond (.t 9)
 .skip
 (.exit 0))
 (.seq
 (.block 1
 (.seq
 (.reg [⟨(some 10), .move (.t 8), none⟩,
 ⟨(some 5), .move (.t 10), none⟩])
 (.seq
 (.reg [⟨(some 11), .move (.t 1), none⟩,
 ⟨(some 12), .move (.t 0), none⟩,
 ⟨(some 13), .move (.t 5), none⟩,
 ⟨(some 14), .iaddr 1 (.t 12) (.t 13), none⟩,
 ⟨(some 15), .load none (.t 14), none⟩,
 ⟨(some 16), .bin .str .eql (.t 11) (.t 15), none⟩])
 (.cond (.t 16)
 (.seq
 (.reg [⟨(some 17), .move (.t 5), none⟩,
 ⟨(some 4), .move (.t 17), none⟩])
 .ret)
 .skip))))
 (.reg [⟨(some 18), .bin .int .add (.t 8) (.c (.int .i64 1)), none⟩,
 ⟨(some 8), .move (.t 18), none⟩])))))))
 (.seq
 (.reg [⟨(some 4), .move (.c (.int .i64 (-1))), none⟩])
 .ret)))
theorem in142 {args : List AV} {σ : Store} {K : AV → Store → Prop} (hargs : args.length ≤ 19 := by simp) (h : AWP Try.prog Try.f142.ntmps c142 (fun e t s => match e with | .exit _ => False | _ => Res [.slot 4] K t s) (env (argList 0 args)) σ) : ACalls Try.prog 142 args σ K :=
  enter (own := []) Try.func142 (by kernel_rfl) (by kernel_rfl) (by kernel_rfl) hargs h
/-- (*changeling/lift.checker).right -/
def c86 : ACode :=
(.seq
 (.reg [⟨(some 4), .new 54 (.t 1), none⟩,
 ⟨(some 6), .move (.c (.bool false)), none⟩])
 (.seq
 (.reg [⟨(some 15), .faddr 0 (.t 4), none⟩,
 ⟨(some 16), .load none (.t 15), none⟩,
 ⟨(some 17), .bin .int .eql (.t 16) (.c (.int .i64 1)), none⟩,
 ⟨(some 18), .move (.t 17), none⟩,
 ⟨(some 19), .faddr 0 (.t 4), some (18, false)⟩,
 ⟨(some 20), .load none (.t 19), some (18, false)⟩,
 ⟨(some 21), .bin .int .eql (.t 20) (.c (.int .i64 2)), some (18, false)⟩,
 ⟨(some 22), .pick (.t 18) (.c (.bool true)) (.t 21), none⟩,
 ⟨(some 23), .move (.t 22), none⟩,
 ⟨(some 24), .faddr 0 (.t 4), some (23, false)⟩,
 ⟨(some 25), .load none (.t 24), some (23, false)⟩,
 ⟨(some 26), .bin .int .eql (.t 25) (.c (.int .i64 4)), some (23, false)⟩,
 ⟨(some 27), .pick (.t 23) (.c (.bool true)) (.t 26), none⟩,
 ⟨(some 7), .move (.t 27), none⟩])
 (.seq
 (.reg [⟨(some 28), .faddr 0 (.t 4), none⟩,
 ⟨(some 29), .load none (.t 28), none⟩,
 ⟨(some 30), .bin .int .eql (.t 29) (.c (.int .i64 3)), none⟩,
 ⟨(some 31), .move (.t 30), none⟩,
 ⟨(some 32), .faddr 0 (.t 4), some (31, false)⟩,
 ⟨(some 33), .load none (.t 32), some (31, false)⟩,
 ⟨(some 34), .bin .int .eql (.t 33) (.c (.int .i64 4)), some (31, false)⟩,
 ⟨(some 35), .pick (.t 31) (.c (.bool true)) (.t 34), none⟩,
 ⟨(some 36), .move (.t 35), none⟩,
 ⟨(some 37), .faddr 0 (.t 4), some (36, false)⟩,
 ⟨(some 38), .load none (.t 37), some (36, false)⟩,
 ⟨(some 39), .bin .int .eql (.t 38) (.c (.int .i64 9)), some (36, false)⟩,
 ⟨(some 40), .pick (.t 36) (.c (.bool true)) (.t 39), none⟩,
 ⟨(some 8), .move (.t 40), none⟩])
 (.seq
 (.seq
 (.reg [⟨(some 41), .move (.t 7), none⟩,
 ⟨(some 42), .not (.t 41), none⟩,
 ⟨(some 43), .move (.t 42), none⟩,
 ⟨(some 44), .faddr 1 (.t 4), some (43, true)⟩,
 ⟨(some 45), .load none (.t 44), some (43, true)⟩,
 ⟨(some 46), .bin .str .neq (.t 45) (.c (.str ⟨#[]⟩)), some (43, true)⟩,
 ⟨(some 47), .pick (.t 43) (.t 46) (.c (.bool false)), none⟩,
 ⟨(some 48), .move (.t 47), none⟩,
 ⟨(some 49), .move (.t 8), some (48, false)⟩,
 ⟨(some 50), .not (.t 49), some (48, false)⟩,
 ⟨(some 51), .move (.t 50), some (48, false)⟩,
 ⟨(some 52), .faddr 2 (.t 4), some (51, true)⟩,
 ⟨(some 53), .load none (.t 52), some (51, true)⟩,
 ⟨(some 54), .bin .int .neq (.t 53) (.c (.int .i64 0)), some (51, true)⟩,
 ⟨(some 55), .pick (.t 51) (.t 54) (.c (.bool false)), some (48, false)⟩,
 ⟨(some 56), .pick (.t 48) (.c (.bool true)) (.t 55), none⟩,
 ⟨(some 57), .move (.t 56), none⟩,
 ⟨(some 58), .faddr 0 (.t 4), some (57, false)⟩,
 ⟨(some 59), .load none (.t 58), some (57, false)⟩,
 ⟨(some 60), .bin .int .neq (.t 59) (.c (.int .i64 4)), some (57, false)⟩,
 ⟨(some 61), .move (.t 60), some (57, false)⟩,
 ⟨(some 62), .faddr 3 (.t 4), some (61, true)⟩,
 ⟨(some 63), .load none (.t 62), some (61, true)⟩,
 ⟨(some 64), .bin .int .neq (.t 63) (.c (.int .i64 0)), some (61, true)⟩,
 ⟨(some 65), .pick (.t 61) (.t 64) (.c (.bool false)), some (57, false)⟩,
 ⟨(some 66), .pick (.t 57) (.c (.bool true)) (.t 65), none⟩])
 (.cond (.t 66)
 (.seq
 (.reg [⟨(some 6), .move (.c (.bool false)), none⟩])
 .ret)
 .skip))
 (.seq
 (.reg [⟨(some 67), .faddr 4 (.t 4), none⟩,
 ⟨(some 68), .load none (.t 67), none⟩,
 ⟨(some 69), .len .slice (.t 68), none⟩,
 ⟨(some 70), .faddr 5 (.t 4), none⟩,
 ⟨(some 71), .load none (.t 70), none⟩,
 ⟨(some 72), .len .slice (.t 71), none⟩,
 ⟨(some 73), .faddr 6 (.t 4), none⟩,
 ⟨(some 74), .load none (.t 73), none⟩,
 ⟨(some 75), .len .slice (.t 74), none⟩,
 ⟨(some 76), .faddr 7 (.t 4), none⟩,
 ⟨(some 77), .load none (.t 76), none⟩,
 ⟨(some 78), .len .slice (.t 77), none⟩,
 ⟨(some 79), .faddr 8 (.t 4), none⟩,
 ⟨(some 80), .load none (.t 79), none⟩,
 ⟨(some 81), .len .slice (.t 80), none⟩,
 ⟨(some 82), .build [(.int .i64 0), (.int .i64 0), (.int .i64 0), (.int .i64 0), (.int .i64 0)] [(0, 1, (.t 69)), (1, 1, (.t 72)), (2, 1, (.t 75)), (3, 1, (.t 78)), (4, 1, (.t 81))], none⟩,
 ⟨(some 9), .new 246 (.c (.agg [(.int .i64 0), (.int .i64 0), (.int .i64 0), (.int .i64 0), (.int .i64 0)])), none⟩,
 ⟨none, .store 5 (.t 9) (.t 82), none⟩])
 (.seq
 (.reg [⟨(some 83), .move (.t 2), none⟩,
 ⟨(some 10), .move (.t 83), none⟩])
 (.seq
 (.seq
 (.reg [⟨(some 84), .faddr 0 (.t 4), none⟩,
 ⟨(some 85), .load none (.t 84), none⟩])
 (.block 0
 (.seq
 (.reg [⟨(some 87), .bin .int .eql (.t 85) (.c (.int .i64 1)), none⟩,
 ⟨(some 86), .move (.t 87), none⟩])
 (.cond (.t 86)
 (.seq
 (.reg [⟨(some 88), .load (some 5) (.t 9), none⟩,
 ⟨(some 89), .build [(.int .i64 0), (.int .i64 0), (.int .i64 0), (.int .i64 0), (.int .i64 0)] [], none⟩,
 ⟨(some 90), .bin (.row [.int, .int, .int, .int, .int]) .eql (.t 88) (.t 89), none⟩,
 ⟨(some 91), .move (.t 90), none⟩,
 ⟨(some 92), .move (.t 2), some (91, true)⟩,
 ⟨(some 93), .faddr 1 (.t 4), some (91, true)⟩,
 ⟨(some 94), .load none (.t 93), some (91, true)⟩,
 ⟨(some 95), .call 85 [(.t 92), (.t 94)], some (91, true)⟩,
 ⟨(some 96), .pick (.t 91) (.t 95) (.c (.bool false)), none⟩,
 ⟨(some 6), .move (.t 96), none⟩])
 .ret)
 (.seq
 (.reg [⟨(some 98), .bin .int .eql (.t 85) (.c (.int .i64 2)), none⟩,
 ⟨(some 97), .move (.t 98), none⟩])
 (.cond (.t 97)
 (.seq
 (.reg [⟨(some 99), .load (some 5) (.t 9), none⟩,
 ⟨(some 100), .build [(.int .i64 0), (.int .i64 0), (.int .i64 0), (.int .i64 0), (.int .i64 0)] [], none⟩,
 ⟨(some 101), .bin (.row [.int, .int, .int, .int, .int]) .eql (.t 99) (.t 100), none⟩,
 ⟨(some 102), .move (.t 101), none⟩,
 ⟨(some 103), .move (.t 0), some (102, true)⟩,
 ⟨(some 104), .nilck (.t 103), some (102, true)⟩,
 ⟨(some 105), .faddr 0 (.t 104), some (102, true)⟩,
 ⟨(some 106), .load none (.t 105), some (102, true)⟩,
 ⟨(some 107), .faddr 1 (.t 4), some (102, true)⟩,
 ⟨(some 108), .load none (.t 107), some (102, true)⟩,
 ⟨(some 109), .call 85 [(.t 106), (.t 108)], some (102, true)⟩,
 ⟨(some 110), .move (.t 109), some (102, true)⟩,
 ⟨(some 111), .faddr 1 (.t 4), some (110, false)⟩,
 ⟨(some 112), .load none (.t 111), some (110, false)⟩,
 ⟨(some 113), .call 83 [(.t 112)], some (110, false)⟩,
 ⟨(some 114), .bin .int .gtr (.t 113) (.c (.int .i64 0)), some (110, false)⟩,
 ⟨(some 115), .pick (.t 110) (.c (.bool true)) (.t 114), some (102, true)⟩,
 ⟨(some 116), .pick (.t 102) (.t 115) (.c (.bool false)), none⟩,
 ⟨(some 6), .move (.t 116), none⟩])
 .ret)
 (.seq
 (.seq
 (.reg [⟨(some 118), .bin .int .eql (.t 85) (.c (.int .i64 3)), none⟩,
 ⟨(some 117), .move (.t 118), none⟩])
 (.cond (.t 117)
 .skip
 (.reg [⟨(some 119), .bin .int .eql (.t 85) (.c (.int .i64 10)), none⟩,
 ⟨(some 117), .move (.t 119), none⟩])))
 (.cond (.t 117)
 (.seq
 (.reg [⟨(some 120), .load (some 5) (.t 9), none⟩,
 ⟨(some 121), .build [(.int .i64 0), (.int .i64 0), (.int .i64 0), (.int .i64 0), (.int .i64 0)] [], none⟩,
 ⟨(some 122), .bin (.row [.int, .int, .int, .int, .int]) .eql (.t 120) (.t 121), none⟩,
 ⟨(some 6), .move (.t 122), none⟩])
 .ret)
 (.seq
 (.reg [⟨(some 124), .bin .int .eql (.t 85) (.c (.int .i64 4)), none⟩,
 ⟨(some 123), .move (.t 124), none⟩])
 (.cond (.t 123)
 (.seq
 (.reg [⟨(some 125), .load (some 5) (.t 9), none⟩,
 ⟨(some 126), .build [(.int .i64 0), (.int .i64 0), (.int .i64 0), (.int .i64 0), (.int .i64 0)] [], none⟩,
 ⟨(some 127), .bin (.row [.int, .int, .int, .int, .int]) .eql (.t 125) (.t 126), none⟩,
 ⟨(some 128), .move (.t 127), none⟩,
 ⟨(some 129), .faddr 1 (.t 4), some (128, true)⟩,
 ⟨(some 130), .load none (.t 129), some (128, true)⟩,
 ⟨(some 131), .bin .str .neq (.t 130) (.c (.str ⟨#[]⟩)), some (128, true)⟩,
 ⟨(some 132), .pick (.t 128) (.t 131) (.c (.bool false)), none⟩,
 ⟨(some 133), .move (.t 132), none⟩,
 ⟨(some 134), .faddr 2 (.t 4), some (133, true)⟩,
 ⟨(some 135), .load none (.t 134), some (133, true)⟩,
 ⟨(some 136), .bin .int .geq (.t 135) (.c (.int .i64 0)), some (133, true)⟩,
 ⟨(some 137), .pick (.t 133) (.t 136) (.c (.bool false)), none⟩,
 ⟨(some 138), .move (.t 137), none⟩,
 ⟨(some 139), .faddr 3 (.t 4), some (138, true)⟩,
 ⟨(some 140), .load none (.t 139), some (138, true)⟩,
 ⟨(some 141), .bin .int .geq (.t 140) (.c (.int .i64 0)), some (138, true)⟩,
 ⟨(some 142), .pick (.t 138) (.t 141) (.c (.bool false)), none⟩,
 ⟨(some 6), .move (.t 142), none⟩])
 .ret)
 (.seq
 (.reg [⟨(some 144), .bin .int .eql (.t 85) (.c (.int .i64 5)), none⟩,
 ⟨(some 143), .move (.t 144), none⟩])
 (.cond (.t 143)
 (.seq
 (.reg [⟨(some 145), .load (some 5) (.t 9), none⟩,
 ⟨(some 146), .build [(.int .i64 0), (.int .i64 0), (.int .i64 0), (.int .i64 0), (.int .i64 0)] [(1, 1, (.c (.int .i64 2)))], none⟩,
 ⟨(some 147), .bin (.row [.int, .int, .int, .int, .int]) .neq (.t 145) (.t 146), none⟩])
 (.cond (.t 147)
 (.seq
 (.reg [⟨(some 6), .move (.c (.bool false)), none⟩])
 .ret)
 .skip))
 (.seq
 (.reg [⟨(some 149), .bin .int .eql (.t 85) (.c (.int .i64 9)), none⟩,
 ⟨(some 148), .move (.t 149), none⟩])
 (.cond (.t 148)
 (.seq
 (.reg [⟨(some 150), .load (some 5) (.t 9), none⟩,
 ⟨(some 151), .build [(.int .i64 0), (.int .i64 0), (.int .i64 0), (.int .i64 0), (.int .i64 0)] [(1, 1, (.c (.int .i64 2)))], none⟩,
 ⟨(some 152), .bin (.row [.int, .int, .int, .int, .int]) .neq (.t 150) (.t 151), none⟩,
 ⟨(some 153), .move (.t 152), none⟩,
 ⟨(some 154), .faddr 2 (.t 4), some (153, false)⟩,
 ⟨(some 155), .load none (.t 154), some (153, false)⟩,
 ⟨(some 156), .bin .int .lss (.t 155) (.c (.int .i64 1)), some (153, false)⟩,
 ⟨(some 157), .pick (.t 153) (.c (.bool true)) (.t 156), none⟩,
 ⟨(some 158), .move (.t 157), none⟩,
 ⟨(some 159), .faddr 2 (.t 4), some (158, false)⟩,
 ⟨(some 160), .load none (.t 159), some (158, false)⟩,
 ⟨(some 161), .bin .int .gtr (.t 160) (.c (.int .i64 11)), some (158, false)⟩,
 ⟨(some 162), .pick (.t 158) (.c (.bool true)) (.t 161), none⟩])
 (.cond (.t 162)
 (.seq
 (.reg [⟨(some 6), .move (.c (.bool false)), none⟩])
 .ret)
 .skip))
 (.seq
 (.reg [⟨(some 164), .bin .int .eql (.t 85) (.c (.int .i64 6)), none⟩,
 ⟨(some 163), .move (.t 164), none⟩])
 (.cond (.t 163)
 (.seq
 (.seq
 (.reg [⟨(some 165), .load (some 5) (.t 9), none⟩,
 ⟨(some 166), .faddr 0 (.t 9), none⟩,
 ⟨(some 167), .load none (.t 166), none⟩,
 ⟨(some 168), .build [(.int .i64 0), (.int .i64 0), (.int .i64 0), (.int .i64 0), (.int .i64 0)] [(0, 1, (.t 167)), (1, 1, (.c (.int .i64 1)))], none⟩,
 ⟨(some 169), .bin (.row [.int, .int, .int, .int, .int]) .neq (.t 165) (.t 168), none⟩,
 ⟨(some 170), .move (.t 169), none⟩,
 ⟨(some 171), .faddr 0 (.t 9), some (170, false)⟩,
 ⟨(some 172), .load none (.t 171), some (170, false)⟩,
 ⟨(some 173), .bin .int .eql (.t 172) (.c (.int .i64 0)), some (170, false)⟩,
 ⟨(some 174), .pick (.t 170) (.c (.bool true)) (.t 173), none⟩,
 ⟨(some 175), .move (.t 174), none⟩,
 ⟨(some 176), .faddr 4 (.t 4), some (175, false)⟩,
 ⟨(some 177), .load none (.t 176), some (175, false)⟩,
 ⟨(some 178), .call 111 [(.t 177)], some (175, false)⟩,
 ⟨(some 179), .not (.t 178), some (175, false)⟩,
 ⟨(some 180), .pick (.t 175) (.c (.bool true)) (.t 179), none⟩])
 (.cond (.t 180)
 (.seq
 (.reg [⟨(some 6), .move (.c (.bool false)), none⟩])
 .ret)
 .skip))
 (.reg [⟨(some 181), .move (.t 2), none⟩,
 ⟨(some 182), .faddr 4 (.t 4), none⟩,
 ⟨(some 183), .load none (.t 182), none⟩,
 ⟨(some 184), .call 143 [(.t 181), (.t 183)], none⟩,
 ⟨(some 10), .move (.t 184), none⟩]))
 (.seq
 (.reg [⟨(some 186), .bin .int .eql (.t 85) (.c (.int .i64 7)), none⟩,
 ⟨(some 185), .move (.t 186), none⟩])
 (.cond (.t 185)
 (.seq
 (.seq
 (.reg [⟨(some 187), .load (some 5) (.t 9), none⟩,
 ⟨(some 188), .faddr 3 (.t 9), none⟩,
 ⟨(some 189), .load none (.t 188), none⟩,
 ⟨(some 190), .build [(.int .i64 0), (.int .i64 0), (.int .i64 0), (.int .i64 0), (.int .i64 0)] [(1, 1, (.c (.int .i64 1))), (3, 1, (.t 189))], none⟩,
 ⟨(some 191), .bin (.row [.int, .int, .int, .int, .int]) .neq (.t 187) (.t 190), none⟩,
 ⟨(some 192), .move (.t 191), none⟩,
 ⟨(some 193), .faddr 3 (.t 9), some (192, false)⟩,
 ⟨(some 194), .load none (.t 193), some (192, false)⟩,
 ⟨(some 195), .bin .int .eql (.t 194) (.c (.int .i64 0)), some (192, false)⟩,
 ⟨(some 196), .pick (.t 192) (.c (.bool true)) (.t 195), none⟩,
 ⟨(some 197), .move (.t 196), none⟩,
 ⟨(some 198), .faddr 7 (.t 4), some (197, false)⟩,
 ⟨(some 199), .load none (.t 198), some (197, false)⟩,
 ⟨(some 200), .call 136 [(.t 199)], some (197, false)⟩,
 ⟨(some 201), .call 111 [(.t 200)], some (197, false)⟩,
 ⟨(some 202), .not (.t 201), some (197, false)⟩,
 ⟨(some 203), .pick (.t 197) (.c (.bool true)) (.t 202), none⟩])
 (.cond (.t 203)
 (.seq
 (.reg [⟨(some 6), .move (.c (.bool false)), none⟩])
 .ret)
 .skip))
 (.reg [⟨(some 204), .move (.t 2), none⟩,
 ⟨(some 205), .faddr 7 (.t 4), none⟩,
 ⟨(some 206), .load none (.t 205), none⟩,
 ⟨(some 207), .call 136 [(.t 206)], none⟩,
 ⟨(some 208), .call 143 [(.t 204), (.t 207)], none⟩,
 ⟨(some 10), .move (.t 208), none⟩]))
 (.seq
 (.reg [⟨(some 210), .bin .int .eql (.t 85) (.c (.int .i64 8)), none⟩,
 ⟨(some 209), .move (.t 210), none⟩])
 (.cond (.t 209)
 (.seq
 (.reg [⟨(some 211), .load (some 5) (.t 9), none⟩,
 ⟨(some 212), .faddr 2 (.t 9), none⟩,
 ⟨(some 213), .load none (.t 212), none⟩,
 ⟨(some 214), .build [(.int .i64 0), (.int .i64 0), (.int .i64 0), (.int .i64 0), (.int .i64 0)] [(1, 1, (.c (.int .i64 1))), (2, 1, (.t 213))], none⟩,
 ⟨(some 215), .bin (.row [.int, .int, .int, .int, .int]) .neq (.t 211) (.t 214), none⟩,
 ⟨(some 216), .move (.t 215), none⟩,
 ⟨(some 217), .move (.t 0), some (216, false)⟩,
 ⟨(some 218), .faddr 6 (.t 4), some (216, false)⟩,
 ⟨(some 219), .load none (.t 218), some (216, false)⟩,
 ⟨(some 220), .move (.t 2), some (216, false)⟩,
 ⟨(some 221), .call 144 [(.t 217), (.t 219), (.t 220)], some (216, false)⟩,
 ⟨(some 222), .not (.t 221), some (216, false)⟩,
 ⟨(some 223), .pick (.t 216) (.c (.bool true)) (.t 222), none⟩])
 (.cond (.t 223)
 (.seq
 (.reg [⟨(some 6), .move (.c (.bool false)), none⟩])
 .ret)
 .skip))
 (.seq
 (.reg [⟨(some 225), .bin .int .eql (.t 85) (.c (.int .i64 11)), none⟩,
 ⟨(some 224), .move (.t 225), none⟩])
 (.cond (.t 224)
 (.seq
 (.reg [⟨(some 226), .load (some 5) (.t 9), none⟩,
 ⟨(some 227), .faddr 4 (.t 9), none⟩,
 ⟨(some 228), .load none (.t 227), none⟩,
 ⟨(some 229), .build [(.int .i64 0), (.int .i64 0), (.int .i64 0), (.int .i64 0), (.int .i64 0)] [(1, 1, (.c (.int .i64 1))), (4, 1, (.t 228))], none⟩,
 ⟨(some 230), .bin (.row [.int, .int, .int, .int, .int]) .neq (.t 226) (.t 229), none⟩,
 ⟨(some 231), .move (.t 230), none⟩,
 ⟨(some 232), .move (.t 0), some (231, false)⟩,
 ⟨(some 233), .faddr 8 (.t 4), some (231, false)⟩,
 ⟨(some 234), .load none (.t 233), some (231, false)⟩,
 ⟨(some 235), .move (.t 2), some (231, false)⟩,
 ⟨(some 236), .call 145 [(.t 232), (.t 234), (.t 235)], some (231, false)⟩,
 ⟨(some 237), .not (.t 236), some (231, false)⟩,
 ⟨(some 238), .pick (.t 231) (.c (.bool true)) (.t 237), none⟩])
 (.cond (.t 238)
 (.seq
 (.reg [⟨(some 6), .move (.c (.bool false)), none⟩])
 .ret)
 .skip))
 (.seq
 (.reg [⟨(some 6), .move (.c (.bool false)), none⟩])
 .ret)))))))))))))))))))))))
 (.seq
 (.seq
 (.reg [⟨(some 239), .faddr 5 (.t 4), none⟩,
 ⟨(some 240), .load none (.t 239), none⟩,
 ⟨(some 241), .len .slice (.t 240), none⟩,
 ⟨(some 242), .move (.c (.int .i64 0)), none⟩])
 (.block 1
 (.loop
 (.seq
 (.reg [⟨(some 243), .bin .int .lss (.t 242) (.t 241), none⟩])
 (.seq
 (.cond (.t 243)
 .skip
 (.exit 1))
 (.seq
 (.block 2
 (.seq
 (.reg [⟨(some 244), .iaddr 9 (.t 240) (.t 242), none⟩,
 ⟨(some 245), .load (some 9) (.t 244), none⟩,
 ⟨(some 12), .new 54 (.c (.agg [(.int .i64 0), (.str ⟨#[]⟩), (.int .i64 0), (.int .i64 0), .nils, .nils, .nils, .nils, .nils])), none⟩,
 ⟨none, .store 9 (.t 12) (.t 245), none⟩])
 (.seq
 (.reg [⟨(some 246), .move (.t 0), none⟩,
 ⟨(some 247), .load (some 9) (.t 12), none⟩,
 ⟨(some 248), .move (.t 10), none⟩,
 ⟨(some 249), .call 86 [(.t 246), (.t 247), (.t 248)], none⟩,
 ⟨(some 250), .not (.t 249), none⟩])
 (.cond (.t 250)
 (.seq
 (.reg [⟨(some 6), .move (.c (.bool false)), none⟩])
 .ret)
 .skip))))
 (.reg [⟨(some 251), .bin .int .add (.t 242) (.c (.int .i64 1)), none⟩,
 ⟨(some 242), .move (.t 251), none⟩])))))))
 (.seq
 (.seq
 (.reg [⟨(some 252), .faddr 7 (.t 4), none⟩,
 ⟨(some 253), .load none (.t 252), none⟩,
 ⟨(some 254), .len .slice (.t 253), none⟩,
 ⟨(some 255), .move (.c (.int .i64 0)), none⟩])
 (.block 3
 (.loop
 (.seq
 (.reg [⟨(some 256), .bin .int .lss (.t 255) (.t 254), none⟩])
 (.seq
 (.cond (.t 256)
 .skip
 (.exit 3))
 (.seq
 (.block 4
 (.seq
 (.reg [⟨(some 257), .iaddr 10 (.t 253) (.t 255), none⟩,
 ⟨(some 258), .load (some 10) (.t 257), none⟩,
 ⟨(some 14), .new 114 (.c (.agg [(.str ⟨#[]⟩), (.int .i64 0), (.str ⟨#[]⟩), (.int .i64 0), (.int .i64 0), .nils, .nils, .nils, .nils, .nils])), none⟩,
 ⟨none, .store 10 (.t 14) (.t 258), none⟩])
 (.seq
 (.reg [⟨(some 259), .move (.t 0), none⟩,
 ⟨(some 260), .faddr 1 (.t 14), none⟩,
 ⟨(some 261), .load (some 9) (.t 260), none⟩,
 ⟨(some 262), .move (.t 10), none⟩,
 ⟨(some 263), .call 86 [(.t 259), (.t 261), (.t 262)], none⟩,
 ⟨(some 264), .not (.t 263), none⟩])
 (.cond (.t 264)
 (.seq
 (.reg [⟨(some 6), .move (.c (.bool false)), none⟩])
 .ret)
 .skip))))
 (.reg [⟨(some 265), .bin .int .add (.t 255) (.c (.int .i64 1)), none⟩,
 ⟨(some 255), .move (.t 265), none⟩])))))))
 (.seq
 (.reg [⟨(some 6), .move (.c (.bool true)), none⟩])
 .ret))))))))))
theorem in86 {args : List AV} {σ : Store} {K : AV → Store → Prop} (hargs : args.length ≤ 266 := by simp) (h : AWP Try.prog Try.f86.ntmps c86 (fun e t s => match e with | .exit _ => False | _ => Res [.slot 6] K t s) (env (argList 0 args)) σ) : ACalls Try.prog 86 args σ K :=
  enter (own := []) Try.func86 (by kernel_rfl) (by kernel_rfl) (by kernel_rfl) hargs h
/-- changeling/lift.locals -/
def c111 : ACode :=
(.seq
 (.reg [⟨(some 2), .move (.c (.bool false)), none⟩])
 (.seq
 (.seq
 (.reg [⟨(some 5), .move (.t 0), none⟩,
 ⟨(some 6), .len .slice (.t 5), none⟩,
 ⟨(some 7), .move (.c (.int .i64 0)), none⟩])
 (.block 0
 (.loop
 (.seq
 (.reg [⟨(some 8), .bin .int .lss (.t 7) (.t 6), none⟩])
 (.seq
 (.cond (.t 8)
 .skip
 (.exit 0))
 (.seq
 (.block 1
 (.seq
 (.reg [⟨(some 9), .move (.t 7), none⟩,
 ⟨(some 10), .iaddr 1 (.t 5) (.t 7), none⟩,
 ⟨(some 11), .load none (.t 10), none⟩,
 ⟨(some 3), .move (.t 9), none⟩,
 ⟨(some 4), .move (.t 11), none⟩])
 (.seq
 (.reg [⟨(some 12), .move (.t 4), none⟩,
 ⟨(some 13), .call 154 [(.t 12)], none⟩,
 ⟨(some 14), .not (.t 13), none⟩,
 ⟨(some 15), .move (.t 14), none⟩,
 ⟨(some 16), .move (.t 0), some (15, false)⟩,
 ⟨(some 17), .move (.t 3), some (15, false)⟩,
 ⟨(some 18), .cut .slice 1 (.t 16) none (some (.t 17)), some (15, false)⟩,
 ⟨(some 19), .move (.t 4), some (15, false)⟩,
 ⟨(some 20), .call 85 [(.t 18), (.t 19)], some (15, false)⟩,
 ⟨(some 21), .pick (.t 15) (.c (.bool true)) (.t 20), none⟩])
 (.cond (.t 21)
 (.seq
 (.reg [⟨(some 2), .move (.c (.bool false)), none⟩])
 .ret)
 .skip))))
 (.reg [⟨(some 22), .bin .int .add (.t 7) (.c (.int .i64 1)), none⟩,
 ⟨(some 7), .move (.t 22), none⟩])))))))
 (.seq
 (.reg [⟨(some 2), .move (.c (.bool true)), none⟩])
 .ret)))
theorem in111 {args : List AV} {σ : Store} {K : AV → Store → Prop} (hargs : args.length ≤ 23 := by simp) (h : AWP Try.prog Try.f111.ntmps c111 (fun e t s => match e with | .exit _ => False | _ => Res [.slot 2] K t s) (env (argList 0 args)) σ) : ACalls Try.prog 111 args σ K :=
  enter (own := []) Try.func111 (by kernel_rfl) (by kernel_rfl) (by kernel_rfl) hargs h
/-- changeling/lift.local -/
def c154 : ACode :=
(.seq
 (.reg [⟨(some 2), .move (.c (.bool false)), none⟩])
 (.seq
 (.seq
 (.reg [⟨(some 5), .move (.t 0), none⟩,
 ⟨(some 6), .call 169 [(.t 5), (.c (.str ⟨#[35]⟩))], none⟩,
 ⟨(some 7), .not (.t 6), none⟩,
 ⟨(some 8), .move (.t 7), none⟩,
 ⟨(some 9), .move (.t 0), some (8, false)⟩,
 ⟨(some 10), .call 169 [(.t 9), (.c (.str ⟨#[35, 45]⟩))], some (8, false)⟩,
 ⟨(some 11), .pick (.t 8) (.c (.bool true)) (.t 10), none⟩])
 (.cond (.t 11)
 (.seq
 (.reg [⟨(some 2), .move (.c (.bool false)), none⟩])
 .ret)
 .skip))
 (.seq
 (.reg [⟨(some 13), .move (.t 0), none⟩,
 ⟨(some 14), .cut .str 1 (.t 13) (some (.c (.int .i64 1))) none, none⟩,
 ⟨(some 15), .call 141 [(.t 14)], none⟩,
 ⟨(some 12), .move (.t 15), none⟩,
 ⟨(some 16), .extract (.t 12) 0, none⟩,
 ⟨(some 17), .extract (.t 12) 1, none⟩,
 ⟨(some 3), .move (.t 16), none⟩,
 ⟨(some 4), .move (.t 17), none⟩])
 (.seq
 (.reg [⟨(some 18), .move (.t 4), none⟩,
 ⟨(some 19), .bin .int .eql (.t 18) (.c (.int .i64 0)), none⟩,
 ⟨(some 2), .move (.t 19), none⟩])
 .ret))))
theorem in154 {args : List AV} {σ : Store} {K : AV → Store → Prop} (hargs : args.length ≤ 20 := by simp) (h : AWP Try.prog Try.f154.ntmps c154 (fun e t s => match e with | .exit _ => False | _ => Res [.slot 2] K t s) (env (argList 0 args)) σ) : ACalls Try.prog 154 args σ K :=
  enter (own := []) Try.func154 (by kernel_rfl) (by kernel_rfl) (by kernel_rfl) hargs h
/-- strings.HasPrefix -/
def c169 : ACode :=
(.seq
 (.reg [⟨(some 4), .move (.c (.bool false)), none⟩])
 (.seq
 (.reg [⟨(some 5), .move (.t 0), none⟩,
 ⟨(some 6), .move (.t 1), none⟩,
 ⟨(some 7), .call 173 [(.t 5), (.t 6)], none⟩,
 ⟨(some 4), .move (.t 7), none⟩])
 .ret))
theorem in169 {args : List AV} {σ : Store} {K : AV → Store → Prop} (hargs : args.length ≤ 8 := by simp) (h : AWP Try.prog Try.f169.ntmps c169 (fun e t s => match e with | .exit _ => False | _ => Res [.slot 4] K t s) (env (argList 0 args)) σ) : ACalls Try.prog 169 args σ K :=
  enter (own := []) Try.func169 (by kernel_rfl) (by kernel_rfl) (by kernel_rfl) hargs h
/-- internal/stringslite.HasPrefix -/
def c173 : ACode :=
(.seq
 (.reg [⟨(some 4), .move (.c (.bool false)), none⟩])
 (.seq
 (.reg [⟨(some 5), .move (.t 0), none⟩,
 ⟨(some 6), .len .str (.t 5), none⟩,
 ⟨(some 7), .move (.t 1), none⟩,
 ⟨(some 8), .len .str (.t 7), none⟩,
 ⟨(some 9), .bin .int .geq (.t 6) (.t 8), none⟩,
 ⟨(some 10), .move (.t 9), none⟩,
 ⟨(some 11), .move (.t 0), some (10, true)⟩,
 ⟨(some 12), .move (.t 1), some (10, true)⟩,
 ⟨(some 13), .len .str (.t 12), some (10, true)⟩,
 ⟨(some 14), .cut .str 1 (.t 11) none (some (.t 13)), some (10, true)⟩,
 ⟨(some 15), .move (.t 1), some (10, true)⟩,
 ⟨(some 16), .bin .str .eql (.t 14) (.t 15), some (10, true)⟩,
 ⟨(some 17), .pick (.t 10) (.t 16) (.c (.bool false)), none⟩,
 ⟨(some 4), .move (.t 17), none⟩])
 .ret))
theorem in173 {args : List AV} {σ : Store} {K : AV → Store → Prop} (hargs : args.length ≤ 18 := by simp) (h : AWP Try.prog Try.f173.ntmps c173 (fun e t s => match e with | .exit _ => False | _ => Res [.slot 4] K t s) (env (argList 0 args)) σ) : ACalls Try.prog 173 args σ K :=
  enter (own := []) Try.func173 (by kernel_rfl) (by kernel_rfl) (by kernel_rfl) hargs h
/-- changeling/lift.joined -/
def c143 : ACode :=
(.seq
 (.reg [⟨(some 4), .move (.c .nils), none⟩])
 (.seq
 (.reg [⟨(some 5), .move (.c .nils), none⟩])
 (.seq
 (.reg [⟨(some 6), .move (.t 5), none⟩,
 ⟨(some 7), .move (.t 0), none⟩,
 ⟨(some 8), .append 9 1 16 (.t 6) (.t 7), none⟩,
 ⟨(some 5), .move (.t 8), none⟩])
 (.seq
 (.reg [⟨(some 9), .move (.t 5), none⟩,
 ⟨(some 10), .move (.t 1), none⟩,
 ⟨(some 11), .append 9 1 16 (.t 9) (.t 10), none⟩,
 ⟨(some 4), .move (.t 11), none⟩])
 .ret))))
theorem in143 {args : List AV} {σ : Store} {K : AV → Store → Prop} (hargs : args.length ≤ 12 := by simp) (h : AWP Try.prog Try.f143.ntmps c143 (fun e t s => match e with | .exit _ => False | _ => Res [.slot 4] K t s) (env (argList 0 args)) σ) : ACalls Try.prog 143 args σ K :=
  enter (own := []) Try.func143 (by kernel_rfl) (by kernel_rfl) (by kernel_rfl) hargs h
/-- changeling/lift.names -/
def c136 : ACode :=
(.seq
 (.reg [⟨(some 2), .move (.c .nils), none⟩])
 (.seq
 (.reg [⟨(some 3), .move (.c .nils), none⟩])
 (.seq
 (.seq
 (.reg [⟨(some 6), .move (.t 0), none⟩,
 ⟨(some 7), .len .slice (.t 6), none⟩,
 ⟨(some 8), .move (.c (.int .i64 0)), none⟩])
 (.block 0
 (.loop
 (.seq
 (.reg [⟨(some 9), .bin .int .lss (.t 8) (.t 7), none⟩])
 (.seq
 (.cond (.t 9)
 .skip
 (.exit 0))
 (.seq
 (.block 1
 (.seq
 (.reg [⟨(some 10), .iaddr 10 (.t 6) (.t 8), none⟩,
 ⟨(some 11), .load (some 10) (.t 10), none⟩,
 ⟨(some 5), .new 114 (.c (.agg [(.str ⟨#[]⟩), (.int .i64 0), (.str ⟨#[]⟩), (.int .i64 0), (.int .i64 0), .nils, .nils, .nils, .nils, .nils])), none⟩,
 ⟨none, .store 10 (.t 5) (.t 11), none⟩])
 (.reg [⟨(some 12), .move (.t 3), none⟩,
 ⟨(some 13), .faddr 0 (.t 5), none⟩,
 ⟨(some 14), .load none (.t 13), none⟩,
 ⟨(some 15), .lit false 9 1 [(.t 14)], none⟩,
 ⟨(some 16), .append 9 1 16 (.t 12) (.t 15), none⟩,
 ⟨(some 3), .move (.t 16), none⟩])))
 (.reg [⟨(some 17), .bin .int .add (.t 8) (.c (.int .i64 1)), none⟩,
 ⟨(some 8), .move (.t 17), none⟩])))))))
 (.seq
 (.reg [⟨(some 18), .move (.t 3), none⟩,
 ⟨(some 2), .move (.t 18), none⟩])
 .ret))))
theorem in136 {args : List AV} {σ : Store} {K : AV → Store → Prop} (hargs : args.length ≤ 19 := by simp) (h : AWP Try.prog Try.f136.ntmps c136 (fun e t s => match e with | .exit _ => False | _ => Res [.slot 2] K t s) (env (argList 0 args)) σ) : ACalls Try.prog 136 args σ K :=
  enter (own := []) Try.func136 (by kernel_rfl) (by kernel_rfl) (by kernel_rfl) hargs h
/-- (*changeling/lift.checker).alts -/
def c144 : ACode :=
(.seq
 (.reg [⟨(some 6), .move (.c (.bool false)), none⟩])
 (.seq
 (.seq
 (.reg [⟨(some 11), .move (.t 1), none⟩,
 ⟨(some 12), .len .slice (.t 11), none⟩,
 ⟨(some 13), .move (.c (.int .i64 0)), none⟩])
 (.block 0
 (.loop
 (.seq
 (.reg [⟨(some 14), .bin .int .lss (.t 13) (.t 12), none⟩])
 (.seq
 (.cond (.t 14)
 .skip
 (.exit 0))
 (.seq
 (.block 1
 (.seq
 (.reg [⟨(some 15), .move (.t 13), none⟩,
 ⟨(some 16), .iaddr 13 (.t 11) (.t 13), none⟩,
 ⟨(some 17), .load (some 13) (.t 16), none⟩,
 ⟨(some 8), .new 113 (.c (.agg [(.int .i64 0), (.str ⟨#[]⟩), (.int .i64 0), .nils, (.int .i64 0), (.str ⟨#[]⟩), (.int .i64 0), (.int .i64 0), .nils, .nils, .nils, .nils, .nils])), none⟩,
 ⟨(some 7), .move (.t 15), none⟩,
 ⟨none, .store 13 (.t 8) (.t 17), none⟩])
 (.seq
 (.seq
 (.reg [⟨(some 18), .faddr 0 (.t 8), none⟩,
 ⟨(some 19), .load none (.t 18), none⟩])
 (.block 2
 (.seq
 (.reg [⟨(some 21), .bin .int .eql (.t 19) (.c (.int .i64 1)), none⟩,
 ⟨(some 20), .move (.t 21), none⟩])
 (.cond (.t 20)
 (.seq
 (.reg [⟨(some 22), .faddr 1 (.t 8), none⟩,
 ⟨(some 23), .load none (.t 22), none⟩,
 ⟨(some 24), .bin .str .eql (.t 23) (.c (.str ⟨#[]⟩)), none⟩,
 ⟨(some 25), .move (.t 24), none⟩,
 ⟨(some 26), .faddr 2 (.t 8), some (25, false)⟩,
 ⟨(some 27), .load none (.t 26), some (25, false)⟩,
 ⟨(some 28), .bin .int .lss (.t 27) (.c (.int .i64 0)), some (25, false)⟩,
 ⟨(some 29), .pick (.t 25) (.c (.bool true)) (.t 28), none⟩,
 ⟨(some 30), .move (.t 29), none⟩,
 ⟨(some 31), .faddr 3 (.t 8), some (30, false)⟩,
 ⟨(some 32), .load none (.t 31), some (30, false)⟩,
 ⟨(some 33), .call 111 [(.t 32)], some (30, false)⟩,
 ⟨(some 34), .not (.t 33), some (30, false)⟩,
 ⟨(some 35), .pick (.t 30) (.c (.bool true)) (.t 34), none⟩])
 (.cond (.t 35)
 (.seq
 (.reg [⟨(some 6), .move (.c (.bool false)), none⟩])
 .ret)
 .skip))
 (.seq
 (.reg [⟨(some 37), .bin .int .eql (.t 19) (.c (.int .i64 2)), none⟩,
 ⟨(some 36), .move (.t 37), none⟩])
 (.cond (.t 36)
 (.seq
 (.reg [⟨(some 38), .faddr 1 (.t 8), none⟩,
 ⟨(some 39), .load none (.t 38), none⟩,
 ⟨(some 40), .bin .str .neq (.t 39) (.c (.str ⟨#[]⟩)), none⟩,
 ⟨(some 41), .move (.t 40), none⟩,
 ⟨(some 42), .faddr 3 (.t 8), some (41, false)⟩,
 ⟨(some 43), .load none (.t 42), some (41, false)⟩,
 ⟨(some 44), .len .slice (.t 43), some (41, false)⟩,
 ⟨(some 45), .bin .int .gtr (.t 44) (.c (.int .i64 0)), some (41, false)⟩,
 ⟨(some 46), .pick (.t 41) (.c (.bool true)) (.t 45), none⟩])
 (.cond (.t 46)
 (.seq
 (.reg [⟨(some 6), .move (.c (.bool false)), none⟩])
 .ret)
 .skip))
 (.seq
 (.reg [⟨(some 48), .bin .int .eql (.t 19) (.c (.int .i64 3)), none⟩,
 ⟨(some 47), .move (.t 48), none⟩])
 (.cond (.t 47)
 (.seq
 (.reg [⟨(some 49), .faddr 1 (.t 8), none⟩,
 ⟨(some 50), .load none (.t 49), none⟩,
 ⟨(some 51), .bin .str .neq (.t 50) (.c (.str ⟨#[]⟩)), none⟩,
 ⟨(some 52), .move (.t 51), none⟩,
 ⟨(some 53), .faddr 2 (.t 8), some (52, false)⟩,
 ⟨(some 54), .load none (.t 53), some (52, false)⟩,
 ⟨(some 55), .bin .int .neq (.t 54) (.c (.int .i64 0)), some (52, false)⟩,
 ⟨(some 56), .pick (.t 52) (.c (.bool true)) (.t 55), none⟩,
 ⟨(some 57), .move (.t 56), none⟩,
 ⟨(some 58), .faddr 3 (.t 8), some (57, false)⟩,
 ⟨(some 59), .load none (.t 58), some (57, false)⟩,
 ⟨(some 60), .len .slice (.t 59), some (57, false)⟩,
 ⟨(some 61), .bin .int .gtr (.t 60) (.c (.int .i64 0)), some (57, false)⟩,
 ⟨(some 62), .pick (.t 57) (.c (.bool true)) (.t 61), none⟩,
 ⟨(some 63), .move (.t 62), none⟩,
 ⟨(some 64), .move (.t 7), some (63, false)⟩,
 ⟨(some 65), .move (.t 1), some (63, false)⟩,
 ⟨(some 66), .len .slice (.t 65), some (63, false)⟩,
 ⟨(some 67), .bin .int .sub (.t 66) (.c (.int .i64 1)), some (63, false)⟩,
 ⟨(some 68), .bin .int .lss (.t 64) (.t 67), some (63, false)⟩,
 ⟨(some 69), .pick (.t 63) (.c (.bool true)) (.t 68), none⟩])
 (.cond (.t 69)
 (.seq
 (.reg [⟨(some 6), .move (.c (.bool false)), none⟩])
 .ret)
 .skip))
 (.seq
 (.reg [⟨(some 6), .move (.c (.bool false)), none⟩])
 .ret)))))))))
 (.seq
 (.seq
 (.reg [⟨(some 70), .move (.t 1), none⟩,
 ⟨(some 71), .move (.t 7), none⟩,
 ⟨(some 72), .cut .slice 13 (.t 70) none (some (.t 71)), none⟩,
 ⟨(some 73), .len .slice (.t 72), none⟩,
 ⟨(some 74), .move (.c (.int .i64 0)), none⟩])
 (.block 3
 (.loop
 (.seq
 (.reg [⟨(some 75), .bin .int .lss (.t 74) (.t 73), none⟩])
 (.seq
 (.cond (.t 75)
 .skip
 (.exit 3))
 (.seq
 (.block 4
 (.seq
 (.reg [⟨(some 76), .iaddr 13 (.t 72) (.t 74), none⟩,
 ⟨(some 77), .load (some 13) (.t 76), none⟩,
 ⟨(some 10), .new 113 (.c (.agg [(.int .i64 0), (.str ⟨#[]⟩), (.int .i64 0), .nils, (.int .i64 0), (.str ⟨#[]⟩), (.int .i64 0), (.int .i64 0), .nils, .nils, .nils, .nils, .nils])), none⟩,
 ⟨none, .store 13 (.t 10) (.t 77), none⟩])
 (.seq
 (.reg [⟨(some 78), .faddr 0 (.t 10), none⟩,
 ⟨(some 79), .load none (.t 78), none⟩,
 ⟨(some 80), .faddr 0 (.t 8), none⟩,
 ⟨(some 81), .load none (.t 80), none⟩,
 ⟨(some 82), .bin .int .neq (.t 79) (.t 81), none⟩,
 ⟨(some 83), .move (.t 82), none⟩,
 ⟨(some 84), .faddr 0 (.t 8), some (83, true)⟩,
 ⟨(some 85), .load none (.t 84), some (83, true)⟩,
 ⟨(some 86), .bin .int .neq (.t 85) (.c (.int .i64 3)), some (83, true)⟩,
 ⟨(some 87), .pick (.t 83) (.t 86) (.c (.bool false)), none⟩,
 ⟨(some 88), .move (.t 87), none⟩,
 ⟨(some 89), .faddr 0 (.t 10), some (88, false)⟩,
 ⟨(some 90), .load none (.t 89), some (88, false)⟩,
 ⟨(some 91), .faddr 0 (.t 8), some (88, false)⟩,
 ⟨(some 92), .load none (.t 91), some (88, false)⟩,
 ⟨(some 93), .bin .int .eql (.t 90) (.t 92), some (88, false)⟩,
 ⟨(some 94), .move (.t 93), some (88, false)⟩,
 ⟨(some 95), .faddr 1 (.t 10), some (94, true)⟩,
 ⟨(some 96), .load none (.t 95), some (94, true)⟩,
 ⟨(some 97), .faddr 1 (.t 8), some (94, true)⟩,
 ⟨(some 98), .load none (.t 97), some (94, true)⟩,
 ⟨(some 99), .bin .str .eql (.t 96) (.t 98), some (94, true)⟩,
 ⟨(some 100), .pick (.t 94) (.t 99) (.c (.bool false)), some (88, false)⟩,
 ⟨(some 101), .move (.t 100), some (88, false)⟩,
 ⟨(some 102), .faddr 0 (.t 8), some (101, true)⟩,
 ⟨(some 103), .load none (.t 102), some (101, true)⟩,
 ⟨(some 104), .bin .int .eql (.t 103) (.c (.int .i64 1)), some (101, true)⟩,
 ⟨(some 105), .move (.t 104), some (101, true)⟩,
 ⟨(some 106), .faddr 2 (.t 10), some (105, false)⟩,
 ⟨(some 107), .load none (.t 106), some (105, false)⟩,
 ⟨(some 108), .faddr 2 (.t 8), some (105, false)⟩,
 ⟨(some 109), .load none (.t 108), some (105, false)⟩,
 ⟨(some 110), .bin .int .eql (.t 107) (.t 109), some (105, false)⟩,
 ⟨(some 111), .pick (.t 105) (.c (.bool true)) (.t 110), some (101, true)⟩,
 ⟨(some 112), .pick (.t 101) (.t 111) (.c (.bool false)), some (88, false)⟩,
 ⟨(some 113), .pick (.t 88) (.c (.bool true)) (.t 112), none⟩])
 (.cond (.t 113)
 (.seq
 (.reg [⟨(some 6), .move (.c (.bool false)), none⟩])
 .ret)
 .skip))))
 (.reg [⟨(some 114), .bin .int .add (.t 74) (.c (.int .i64 1)), none⟩,
 ⟨(some 74), .move (.t 114), none⟩])))))))
 (.seq
 (.draw [] [([⟨(some 115), .move (.t 0), none⟩], []),
 ([⟨(some 116), .faddr 4 (.t 8), none⟩], []),
 ([⟨(some 117), .load (some 9) (.t 116), none⟩], []),
 ([⟨(some 118), .move (.t 2), none⟩], []),
 ([⟨(some 119), .faddr 3 (.t 8), none⟩], []),
 ([⟨(some 120), .load none (.t 119), none⟩], []),
 ([⟨(some 121), .call 143 [(.t 118), (.t 120)], none⟩], [⟨(some 116), .faddr 4 (.t 8), none⟩, ⟨(some 117), .load (some 9) (.t 116), none⟩]),
 ([⟨(some 122), .call 86 [(.t 115), (.t 117), (.t 121)], none⟩], []),
 ([⟨(some 123), .not (.t 122), none⟩], [])])
 (.cond (.t 123)
 (.seq
 (.reg [⟨(some 6), .move (.c (.bool false)), none⟩])
 .ret)
 .skip))))))
 (.reg [⟨(some 124), .bin .int .add (.t 13) (.c (.int .i64 1)), none⟩,
 ⟨(some 13), .move (.t 124), none⟩])))))))
 (.seq
 (.reg [⟨(some 125), .move (.t 1), none⟩,
 ⟨(some 126), .len .slice (.t 125), none⟩,
 ⟨(some 127), .bin .int .gtr (.t 126) (.c (.int .i64 0)), none⟩,
 ⟨(some 6), .move (.t 127), none⟩])
 .ret)))
theorem in144 {args : List AV} {σ : Store} {K : AV → Store → Prop} (hargs : args.length ≤ 128 := by simp) (h : AWP Try.prog Try.f144.ntmps c144 (fun e t s => match e with | .exit _ => False | _ => Res [.slot 6] K t s) (env (argList 0 args)) σ) : ACalls Try.prog 144 args σ K :=
  enter (own := []) Try.func144 (by kernel_rfl) (by kernel_rfl) (by kernel_rfl) hargs h
/-- (*changeling/lift.checker).picks -/
def c145 : ACode :=
(.seq
 (.reg [⟨(some 6), .move (.c (.bool false)), none⟩])
 (.seq
 (.reg [⟨(some 7), .move (.c .nils), none⟩])
 (.seq
 (.seq
 (.reg [⟨(some 10), .move (.t 1), none⟩,
 ⟨(some 11), .len .slice (.t 10), none⟩,
 ⟨(some 12), .move (.c (.int .i64 0)), none⟩])
 (.block 0
 (.loop
 (.seq
 (.reg [⟨(some 13), .bin .int .lss (.t 12) (.t 11), none⟩])
 (.seq
 (.cond (.t 13)
 .skip
 (.exit 0))
 (.seq
 (.block 1
 (.seq
 (.reg [⟨(some 14), .iaddr 10 (.t 10) (.t 12), none⟩,
 ⟨(some 15), .load (some 10) (.t 14), none⟩,
 ⟨(some 9), .new 116 (.c (.agg [(.int .i64 0), (.int .i64 0), (.str ⟨#[]⟩), (.int .i64 0), (.int .i64 0), .nils, .nils, .nils, .nils, .nils])), none⟩,
 ⟨none, .store 10 (.t 9) (.t 15), none⟩])
 (.seq
 (.seq
 (.reg [⟨(some 16), .move (.t 7), none⟩,
 ⟨(some 17), .faddr 0 (.t 9), none⟩,
 ⟨(some 18), .load none (.t 17), none⟩,
 ⟨(some 19), .call 160 [(.t 16), (.t 18)], none⟩,
 ⟨(some 20), .move (.t 19), none⟩,
 ⟨(some 21), .move (.t 0), some (20, false)⟩,
 ⟨(some 22), .faddr 1 (.t 9), some (20, false)⟩,
 ⟨(some 23), .load (some 9) (.t 22), some (20, false)⟩,
 ⟨(some 24), .move (.t 2), some (20, false)⟩,
 ⟨(some 25), .call 86 [(.t 21), (.t 23), (.t 24)], some (20, false)⟩,
 ⟨(some 26), .not (.t 25), some (20, false)⟩,
 ⟨(some 27), .pick (.t 20) (.c (.bool true)) (.t 26), none⟩])
 (.cond (.t 27)
 (.seq
 (.reg [⟨(some 6), .move (.c (.bool false)), none⟩])
 .ret)
 .skip))
 (.reg [⟨(some 28), .move (.t 7), none⟩,
 ⟨(some 29), .faddr 0 (.t 9), none⟩,
 ⟨(some 30), .load none (.t 29), none⟩,
 ⟨(some 31), .lit false 3 1 [(.t 30)], none⟩,
 ⟨(some 32), .append 3 1 8 (.t 28) (.t 31), none⟩,
 ⟨(some 7), .move (.t 32), none⟩]))))
 (.reg [⟨(some 33), .bin .int .add (.t 12) (.c (.int .i64 1)), none⟩,
 ⟨(some 12), .move (.t 33), none⟩])))))))
 (.seq
 (.reg [⟨(some 6), .move (.c (.bool true)), none⟩])
 .ret))))
theorem in145 {args : List AV} {σ : Store} {K : AV → Store → Prop} (hargs : args.length ≤ 34 := by simp) (h : AWP Try.prog Try.f145.ntmps c145 (fun e t s => match e with | .exit _ => False | _ => Res [.slot 6] K t s) (env (argList 0 args)) σ) : ACalls Try.prog 145 args σ K :=
  enter (own := []) Try.func145 (by kernel_rfl) (by kernel_rfl) (by kernel_rfl) hargs h
/-- slices.Contains[[]int,int] -/
def c160 : ACode :=
(.seq
 (.reg [⟨(some 4), .move (.c (.bool false)), none⟩])
 (.seq
 (.reg [⟨(some 5), .move (.t 0), none⟩,
 ⟨(some 6), .move (.t 1), none⟩,
 ⟨(some 7), .call 172 [(.t 5), (.t 6)], none⟩,
 ⟨(some 8), .bin .int .geq (.t 7) (.c (.int .i64 0)), none⟩,
 ⟨(some 4), .move (.t 8), none⟩])
 .ret))
theorem in160 {args : List AV} {σ : Store} {K : AV → Store → Prop} (hargs : args.length ≤ 9 := by simp) (h : AWP Try.prog Try.f160.ntmps c160 (fun e t s => match e with | .exit _ => False | _ => Res [.slot 4] K t s) (env (argList 0 args)) σ) : ACalls Try.prog 160 args σ K :=
  enter (own := []) Try.func160 (by kernel_rfl) (by kernel_rfl) (by kernel_rfl) hargs h
/-- slices.Index[[]int,int] -/
def c172 : ACode :=
(.seq
 (.reg [⟨(some 4), .move (.c (.int .i64 0)), none⟩])
 (.seq
 (.seq
 (.reg [⟨(some 6), .move (.t 0), none⟩,
 ⟨(some 7), .len .slice (.t 6), none⟩,
 ⟨(some 8), .move (.c (.int .i64 0)), none⟩])
 (.block 0
 (.loop
 (.seq
 (.reg [⟨(some 9), .bin .int .lss (.t 8) (.t 7), none⟩])
 (.seq
 (.cond (.t 9)
 .skip
 (.exit 0))
 (.seq
 (.block 1
 (.seq
 (.reg [⟨(some 10), .move (.t 8), none⟩,
 ⟨(some 5), .move (.t 10), none⟩])
 (.seq
 (.reg [⟨(some 11), .move (.t 1), none⟩,
 ⟨(some 12), .move (.t 0), none⟩,
 ⟨(some 13), .move (.t 5), none⟩,
 ⟨(some 14), .iaddr 1 (.t 12) (.t 13), none⟩,
 ⟨(some 15), .load none (.t 14), none⟩,
 ⟨(some 16), .bin .int .eql (.t 11) (.t 15), none⟩])
 (.cond (.t 16)
 (.seq
 (.reg [⟨(some 17), .move (.t 5), none⟩,
 ⟨(some 4), .move (.t 17), none⟩])
 .ret)
 .skip))))
 (.reg [⟨(some 18), .bin .int .add (.t 8) (.c (.int .i64 1)), none⟩,
 ⟨(some 8), .move (.t 18), none⟩])))))))
 (.seq
 (.reg [⟨(some 4), .move (.c (.int .i64 (-1))), none⟩])
 .ret)))
theorem in172 {args : List AV} {σ : Store} {K : AV → Store → Prop} (hargs : args.length ≤ 19 := by simp) (h : AWP Try.prog Try.f172.ntmps c172 (fun e t s => match e with | .exit _ => False | _ => Res [.slot 4] K t s) (env (argList 0 args)) σ) : ACalls Try.prog 172 args σ K :=
  enter (own := []) Try.func172 (by kernel_rfl) (by kernel_rfl) (by kernel_rfl) hargs h
/-- changeling/changelingref01.SameTexts -/
def c29 : ACode :=
(.seq
 (.reg [⟨(some 4), .move (.c (.bool false)), none⟩])
 (.seq
 (.seq
 (.reg [⟨(some 6), .move (.t 0), none⟩,
 ⟨(some 7), .len .slice (.t 6), none⟩,
 ⟨(some 8), .move (.t 1), none⟩,
 ⟨(some 9), .len .slice (.t 8), none⟩,
 ⟨(some 10), .bin .int .neq (.t 7) (.t 9), none⟩])
 (.cond (.t 10)
 (.seq
 (.reg [⟨(some 4), .move (.c (.bool false)), none⟩])
 .ret)
 .skip))
 (.seq
 (.seq
 (.reg [⟨(some 5), .move (.c (.int .i64 0)), none⟩])
 (.block 0
 (.loop
 (.seq
 (.seq
 (.reg [⟨(some 11), .move (.t 5), none⟩,
 ⟨(some 12), .move (.t 0), none⟩,
 ⟨(some 13), .len .slice (.t 12), none⟩,
 ⟨(some 14), .bin .int .lss (.t 11) (.t 13), none⟩])
 (.cond (.t 14)
 .skip
 (.exit 0)))
 (.seq
 (.block 1
 (.seq
 (.reg [⟨(some 17), .move (.t 0), none⟩,
 ⟨(some 18), .move (.t 5), none⟩,
 ⟨(some 19), .iaddr 1 (.t 17) (.t 18), none⟩,
 ⟨(some 20), .load none (.t 19), none⟩,
 ⟨(some 21), .move (.t 1), none⟩,
 ⟨(some 22), .move (.t 5), none⟩,
 ⟨(some 23), .iaddr 1 (.t 21) (.t 22), none⟩,
 ⟨(some 24), .load none (.t 23), none⟩,
 ⟨(some 25), .bin .str .neq (.t 20) (.t 24), none⟩])
 (.cond (.t 25)
 (.seq
 (.reg [⟨(some 4), .move (.c (.bool false)), none⟩])
 .ret)
 .skip)))
 (.reg [⟨(some 15), .move (.t 5), none⟩,
 ⟨(some 16), .bin .int .add (.t 15) (.c (.int .i64 1)), none⟩,
 ⟨(some 5), .move (.t 16), none⟩]))))))
 (.seq
 (.reg [⟨(some 4), .move (.c (.bool true)), none⟩])
 .ret))))
theorem in29 {args : List AV} {σ : Store} {K : AV → Store → Prop} (hargs : args.length ≤ 26 := by simp) (h : AWP Try.prog Try.f29.ntmps c29 (fun e t s => match e with | .exit _ => False | _ => Res [.slot 4] K t s) (env (argList 0 args)) σ) : ACalls Try.prog 29 args σ K :=
  enter (own := []) Try.func29 (by kernel_rfl) (by kernel_rfl) (by kernel_rfl) hargs h
/-- changeling/changelingref14.Same -/
def c30 : ACode :=
(.seq
 (.reg [⟨(some 2), .new 54 (.t 0), none⟩,
 ⟨(some 3), .new 54 (.t 1), none⟩,
 ⟨(some 4), .move (.c (.bool false)), none⟩])
 (.seq
 (.seq
 (.reg [⟨(some 11), .faddr 0 (.t 2), none⟩,
 ⟨(some 12), .load none (.t 11), none⟩,
 ⟨(some 13), .faddr 0 (.t 3), none⟩,
 ⟨(some 14), .load none (.t 13), none⟩,
 ⟨(some 15), .bin .int .neq (.t 12) (.t 14), none⟩,
 ⟨(some 16), .move (.t 15), none⟩,
 ⟨(some 17), .faddr 1 (.t 2), some (16, false)⟩,
 ⟨(some 18), .load none (.t 17), some (16, false)⟩,
 ⟨(some 19), .faddr 1 (.t 3), some (16, false)⟩,
 ⟨(some 20), .load none (.t 19), some (16, false)⟩,
 ⟨(some 21), .bin .str .neq (.t 18) (.t 20), some (16, false)⟩,
 ⟨(some 22), .pick (.t 16) (.c (.bool true)) (.t 21), none⟩,
 ⟨(some 23), .move (.t 22), none⟩,
 ⟨(some 24), .faddr 2 (.t 2), some (23, false)⟩,
 ⟨(some 25), .load none (.t 24), some (23, false)⟩,
 ⟨(some 26), .faddr 2 (.t 3), some (23, false)⟩,
 ⟨(some 27), .load none (.t 26), some (23, false)⟩,
 ⟨(some 28), .bin .int .neq (.t 25) (.t 27), some (23, false)⟩,
 ⟨(some 29), .pick (.t 23) (.c (.bool true)) (.t 28), none⟩,
 ⟨(some 30), .move (.t 29), none⟩,
 ⟨(some 31), .faddr 3 (.t 2), some (30, false)⟩,
 ⟨(some 32), .load none (.t 31), some (30, false)⟩,
 ⟨(some 33), .faddr 3 (.t 3), some (30, false)⟩,
 ⟨(some 34), .load none (.t 33), some (30, false)⟩,
 ⟨(some 35), .bin .int .neq (.t 32) (.t 34), some (30, false)⟩,
 ⟨(some 36), .pick (.t 30) (.c (.bool true)) (.t 35), none⟩,
 ⟨(some 37), .move (.t 36), none⟩,
 ⟨(some 38), .faddr 4 (.t 2), some (37, false)⟩,
 ⟨(some 39), .load none (.t 38), some (37, false)⟩,
 ⟨(some 40), .faddr 4 (.t 3), some (37, false)⟩,
 ⟨(some 41), .load none (.t 40), some (37, false)⟩,
 ⟨(some 42), .call 29 [(.t 39), (.t 41)], some (37, false)⟩,
 ⟨(some 43), .not (.t 42), some (37, false)⟩,
 ⟨(some 44), .pick (.t 37) (.c (.bool true)) (.t 43), none⟩])
 (.cond (.t 44)
 (.seq
 (.reg [⟨(some 4), .move (.c (.bool false)), none⟩])
 .ret)
 .skip))
 (.seq
 (.seq
 (.reg [⟨(some 45), .faddr 5 (.t 2), none⟩,
 ⟨(some 46), .load none (.t 45), none⟩,
 ⟨(some 47), .len .slice (.t 46), none⟩,
 ⟨(some 48), .faddr 5 (.t 3), none⟩,
 ⟨(some 49), .load none (.t 48), none⟩,
 ⟨(some 50), .len .slice (.t 49), none⟩,
 ⟨(some 51), .bin .int .neq (.t 47) (.t 50), none⟩,
 ⟨(some 52), .move (.t 51), none⟩,
 ⟨(some 53), .faddr 6 (.t 2), some (52, false)⟩,
 ⟨(some 54), .load none (.t 53), some (52, false)⟩,
 ⟨(some 55), .len .slice (.t 54), some (52, false)⟩,
 ⟨(some 56), .faddr 6 (.t 3), some (52, false)⟩,
 ⟨(some 57), .load none (.t 56), some (52, false)⟩,
 ⟨(some 58), .len .slice (.t 57), some (52, false)⟩,
 ⟨(some 59), .bin .int .neq (.t 55) (.t 58), some (52, false)⟩,
 ⟨(some 60), .pick (.t 52) (.c (.bool true)) (.t 59), none⟩,
 ⟨(some 61), .move (.t 60), none⟩,
 ⟨(some 62), .faddr 7 (.t 2), some (61, false)⟩,
 ⟨(some 63), .load none (.t 62), some (61, false)⟩,
 ⟨(some 64), .len .slice (.t 63), some (61, false)⟩,
 ⟨(some 65), .faddr 7 (.t 3), some (61, false)⟩,
 ⟨(some 66), .load none (.t 65), some (61, false)⟩,
 ⟨(some 67), .len .slice (.t 66), some (61, false)⟩,
 ⟨(some 68), .bin .int .neq (.t 64) (.t 67), some (61, false)⟩,
 ⟨(some 69), .pick (.t 61) (.c (.bool true)) (.t 68), none⟩,
 ⟨(some 70), .move (.t 69), none⟩,
 ⟨(some 71), .faddr 8 (.t 2), some (70, false)⟩,
 ⟨(some 72), .load none (.t 71), some (70, false)⟩,
 ⟨(some 73), .len .slice (.t 72), some (70, false)⟩,
 ⟨(some 74), .faddr 8 (.t 3), some (70, false)⟩,
 ⟨(some 75), .load none (.t 74), some (70, false)⟩,
 ⟨(some 76), .len .slice (.t 75), some (70, false)⟩,
 ⟨(some 77), .bin .int .neq (.t 73) (.t 76), some (70, false)⟩,
 ⟨(some 78), .pick (.t 70) (.c (.bool true)) (.t 77), none⟩])
 (.cond (.t 78)
 (.seq
 (.reg [⟨(some 4), .move (.c (.bool false)), none⟩])
 .ret)
 .skip))
 (.seq
 (.seq
 (.reg [⟨(some 5), .move (.c (.int .i64 0)), none⟩])
 (.block 0
 (.loop
 (.seq
 (.seq
 (.reg [⟨(some 79), .move (.t 5), none⟩,
 ⟨(some 80), .faddr 5 (.t 2), none⟩,
 ⟨(some 81), .load none (.t 80), none⟩,
 ⟨(some 82), .len .slice (.t 81), none⟩,
 ⟨(some 83), .bin .int .lss (.t 79) (.t 82), none⟩])
 (.cond (.t 83)
 .skip
 (.exit 0)))
 (.seq
 (.block 1
 (.seq
 (.reg [⟨(some 86), .faddr 5 (.t 2), none⟩,
 ⟨(some 87), .load none (.t 86), none⟩,
 ⟨(some 88), .move (.t 5), none⟩,
 ⟨(some 89), .iaddr 9 (.t 87) (.t 88), none⟩,
 ⟨(some 90), .load (some 9) (.t 89), none⟩,
 ⟨(some 91), .faddr 5 (.t 3), none⟩,
 ⟨(some 92), .load none (.t 91), none⟩,
 ⟨(some 93), .move (.t 5), none⟩,
 ⟨(some 94), .iaddr 9 (.t 92) (.t 93), none⟩,
 ⟨(some 95), .load (some 9) (.t 94), none⟩,
 ⟨(some 96), .call 30 [(.t 90), (.t 95)], none⟩,
 ⟨(some 97), .not (.t 96), none⟩])
 (.cond (.t 97)
 (.seq
 (.reg [⟨(some 4), .move (.c (.bool false)), none⟩])
 .ret)
 .skip)))
 (.reg [⟨(some 84), .move (.t 5), none⟩,
 ⟨(some 85), .bin .int .add (.t 84) (.c (.int .i64 1)), none⟩,
 ⟨(some 5), .move (.t 85), none⟩]))))))
 (.seq
 (.seq
 (.reg [⟨(some 6), .move (.c (.int .i64 0)), none⟩])
 (.block 2
 (.loop
 (.seq
 (.seq
 (.reg [⟨(some 98), .move (.t 6), none⟩,
 ⟨(some 99), .faddr 6 (.t 2), none⟩,
 ⟨(some 100), .load none (.t 99), none⟩,
 ⟨(some 101), .len .slice (.t 100), none⟩,
 ⟨(some 102), .bin .int .lss (.t 98) (.t 101), none⟩])
 (.cond (.t 102)
 .skip
 (.exit 2)))
 (.seq
 (.block 3
 (.seq
 (.draw [7, 8] [([⟨(some 105), .faddr 6 (.t 2), none⟩], []),
 ([⟨(some 106), .load none (.t 105), none⟩], []),
 ([⟨(some 107), .move (.t 6), none⟩], []),
 ([⟨(some 108), .iaddr 13 (.t 106) (.t 107), none⟩], []),
 ([⟨(some 109), .load (some 13) (.t 108), none⟩], []),
 ([⟨(some 110), .faddr 6 (.t 3), none⟩], []),
 ([⟨(some 111), .load none (.t 110), none⟩], []),
 ([⟨(some 112), .move (.t 6), none⟩], []),
 ([⟨(some 113), .iaddr 13 (.t 111) (.t 112), none⟩], []),
 ([⟨(some 114), .load (some 13) (.t 113), none⟩], []),
 ([⟨(some 7), .new 113 (.c (.agg [(.int .i64 0), (.str ⟨#[]⟩), (.int .i64 0), .nils, (.int .i64 0), (.str ⟨#[]⟩), (.int .i64 0), (.int .i64 0), .nils, .nils, .nils, .nils, .nils])), none⟩, ⟨none, .store 13 (.t 7) (.t 109), none⟩], []),
 ([⟨(some 8), .new 113 (.c (.agg [(.int .i64 0), (.str ⟨#[]⟩), (.int .i64 0), .nils, (.int .i64 0), (.str ⟨#[]⟩), (.int .i64 0), (.int .i64 0), .nils, .nils, .nils, .nils, .nils])), none⟩, ⟨none, .store 13 (.t 8) (.t 114), none⟩], [])])
 (.seq
 (.reg [⟨(some 115), .faddr 0 (.t 7), none⟩,
 ⟨(some 116), .load none (.t 115), none⟩,
 ⟨(some 117), .faddr 0 (.t 8), none⟩,
 ⟨(some 118), .load none (.t 117), none⟩,
 ⟨(some 119), .bin .int .neq (.t 116) (.t 118), none⟩,
 ⟨(some 120), .move (.t 119), none⟩,
 ⟨(some 121), .faddr 1 (.t 7), some (120, false)⟩,
 ⟨(some 122), .load none (.t 121), some (120, false)⟩,
 ⟨(some 123), .faddr 1 (.t 8), some (120, false)⟩,
 ⟨(some 124), .load none (.t 123), some (120, false)⟩,
 ⟨(some 125), .bin .str .neq (.t 122) (.t 124), some (120, false)⟩,
 ⟨(some 126), .pick (.t 120) (.c (.bool true)) (.t 125), none⟩,
 ⟨(some 127), .move (.t 126), none⟩,
 ⟨(some 128), .faddr 2 (.t 7), some (127, false)⟩,
 ⟨(some 129), .load none (.t 128), some (127, false)⟩,
 ⟨(some 130), .faddr 2 (.t 8), some (127, false)⟩,
 ⟨(some 131), .load none (.t 130), some (127, false)⟩,
 ⟨(some 132), .bin .int .neq (.t 129) (.t 131), some (127, false)⟩,
 ⟨(some 133), .pick (.t 127) (.c (.bool true)) (.t 132), none⟩,
 ⟨(some 134), .move (.t 133), none⟩,
 ⟨(some 135), .faddr 3 (.t 7), some (134, false)⟩,
 ⟨(some 136), .load none (.t 135), some (134, false)⟩,
 ⟨(some 137), .faddr 3 (.t 8), some (134, false)⟩,
 ⟨(some 138), .load none (.t 137), some (134, false)⟩,
 ⟨(some 139), .call 29 [(.t 136), (.t 138)], some (134, false)⟩,
 ⟨(some 140), .not (.t 139), some (134, false)⟩,
 ⟨(some 141), .pick (.t 134) (.c (.bool true)) (.t 140), none⟩,
 ⟨(some 142), .move (.t 141), none⟩,
 ⟨(some 143), .faddr 4 (.t 7), some (142, false)⟩,
 ⟨(some 144), .load (some 9) (.t 143), some (142, false)⟩,
 ⟨(some 145), .faddr 4 (.t 8), some (142, false)⟩,
 ⟨(some 146), .load (some 9) (.t 145), some (142, false)⟩,
 ⟨(some 147), .call 30 [(.t 144), (.t 146)], some (142, false)⟩,
 ⟨(some 148), .not (.t 147), some (142, false)⟩,
 ⟨(some 149), .pick (.t 142) (.c (.bool true)) (.t 148), none⟩])
 (.cond (.t 149)
 (.seq
 (.reg [⟨(some 4), .move (.c (.bool false)), none⟩])
 .ret)
 .skip))))
 (.reg [⟨(some 103), .move (.t 6), none⟩,
 ⟨(some 104), .bin .int .add (.t 103) (.c (.int .i64 1)), none⟩,
 ⟨(some 6), .move (.t 104), none⟩]))))))
 (.seq
 (.seq
 (.reg [⟨(some 9), .move (.c (.int .i64 0)), none⟩])
 (.block 4
 (.loop
 (.seq
 (.seq
 (.reg [⟨(some 150), .move (.t 9), none⟩,
 ⟨(some 151), .faddr 7 (.t 2), none⟩,
 ⟨(some 152), .load none (.t 151), none⟩,
 ⟨(some 153), .len .slice (.t 152), none⟩,
 ⟨(some 154), .bin .int .lss (.t 150) (.t 153), none⟩])
 (.cond (.t 154)
 .skip
 (.exit 4)))
 (.seq
 (.block 5
 (.seq
 (.reg [⟨(some 157), .faddr 7 (.t 2), none⟩,
 ⟨(some 158), .load none (.t 157), none⟩,
 ⟨(some 159), .move (.t 9), none⟩,
 ⟨(some 160), .iaddr 10 (.t 158) (.t 159), none⟩,
 ⟨(some 161), .faddr 0 (.t 160), none⟩,
 ⟨(some 162), .load none (.t 161), none⟩,
 ⟨(some 163), .faddr 7 (.t 3), none⟩,
 ⟨(some 164), .load none (.t 163), none⟩,
 ⟨(some 165), .move (.t 9), none⟩,
 ⟨(some 166), .iaddr 10 (.t 164) (.t 165), none⟩,
 ⟨(some 167), .faddr 0 (.t 166), none⟩,
 ⟨(some 168), .load none (.t 167), none⟩,
 ⟨(some 169), .bin .str .neq (.t 162) (.t 168), none⟩,
 ⟨(some 170), .move (.t 169), none⟩,
 ⟨(some 171), .faddr 7 (.t 2), some (170, false)⟩,
 ⟨(some 172), .load none (.t 171), some (170, false)⟩,
 ⟨(some 173), .move (.t 9), some (170, false)⟩,
 ⟨(some 174), .iaddr 10 (.t 172) (.t 173), some (170, false)⟩,
 ⟨(some 175), .faddr 1 (.t 174), some (170, false)⟩,
 ⟨(some 176), .load (some 9) (.t 175), some (170, false)⟩,
 ⟨(some 177), .faddr 7 (.t 3), some (170, false)⟩,
 ⟨(some 178), .load none (.t 177), some (170, false)⟩,
 ⟨(some 179), .move (.t 9), some (170, false)⟩,
 ⟨(some 180), .iaddr 10 (.t 178) (.t 179), some (170, false)⟩,
 ⟨(some 181), .faddr 1 (.t 180), some (170, false)⟩,
 ⟨(some 182), .load (some 9) (.t 181), some (170, false)⟩,
 ⟨(some 183), .call 30 [(.t 176), (.t 182)], some (170, false)⟩,
 ⟨(some 184), .not (.t 183), some (170, false)⟩,
 ⟨(some 185), .pick (.t 170) (.c (.bool true)) (.t 184), none⟩])
 (.cond (.t 185)
 (.seq
 (.reg [⟨(some 4), .move (.c (.bool false)), none⟩])
 .ret)
 .skip)))
 (.reg [⟨(some 155), .move (.t 9), none⟩,
 ⟨(some 156), .bin .int .add (.t 155) (.c (.int .i64 1)), none⟩,
 ⟨(some 9), .move (.t 156), none⟩]))))))
 (.seq
 (.seq
 (.reg [⟨(some 10), .move (.c (.int .i64 0)), none⟩])
 (.block 6
 (.loop
 (.seq
 (.seq
 (.reg [⟨(some 186), .move (.t 10), none⟩,
 ⟨(some 187), .faddr 8 (.t 2), none⟩,
 ⟨(some 188), .load none (.t 187), none⟩,
 ⟨(some 189), .len .slice (.t 188), none⟩,
 ⟨(some 190), .bin .int .lss (.t 186) (.t 189), none⟩])
 (.cond (.t 190)
 .skip
 (.exit 6)))
 (.seq
 (.block 7
 (.seq
 (.reg [⟨(some 193), .faddr 8 (.t 2), none⟩,
 ⟨(some 194), .load none (.t 193), none⟩,
 ⟨(some 195), .move (.t 10), none⟩,
 ⟨(some 196), .iaddr 10 (.t 194) (.t 195), none⟩,
 ⟨(some 197), .faddr 0 (.t 196), none⟩,
 ⟨(some 198), .load none (.t 197), none⟩,
 ⟨(some 199), .faddr 8 (.t 3), none⟩,
 ⟨(some 200), .load none (.t 199), none⟩,
 ⟨(some 201), .move (.t 10), none⟩,
 ⟨(some 202), .iaddr 10 (.t 200) (.t 201), none⟩,
 ⟨(some 203), .faddr 0 (.t 202), none⟩,
 ⟨(some 204), .load none (.t 203), none⟩,
 ⟨(some 205), .bin .int .neq (.t 198) (.t 204), none⟩,
 ⟨(some 206), .move (.t 205), none⟩,
 ⟨(some 207), .faddr 8 (.t 2), some (206, false)⟩,
 ⟨(some 208), .load none (.t 207), some (206, false)⟩,
 ⟨(some 209), .move (.t 10), some (206, false)⟩,
 ⟨(some 210), .iaddr 10 (.t 208) (.t 209), some (206, false)⟩,
 ⟨(some 211), .faddr 1 (.t 210), some (206, false)⟩,
 ⟨(some 212), .load (some 9) (.t 211), some (206, false)⟩,
 ⟨(some 213), .faddr 8 (.t 3), some (206, false)⟩,
 ⟨(some 214), .load none (.t 213), some (206, false)⟩,
 ⟨(some 215), .move (.t 10), some (206, false)⟩,
 ⟨(some 216), .iaddr 10 (.t 214) (.t 215), some (206, false)⟩,
 ⟨(some 217), .faddr 1 (.t 216), some (206, false)⟩,
 ⟨(some 218), .load (some 9) (.t 217), some (206, false)⟩,
 ⟨(some 219), .call 30 [(.t 212), (.t 218)], some (206, false)⟩,
 ⟨(some 220), .not (.t 219), some (206, false)⟩,
 ⟨(some 221), .pick (.t 206) (.c (.bool true)) (.t 220), none⟩])
 (.cond (.t 221)
 (.seq
 (.reg [⟨(some 4), .move (.c (.bool false)), none⟩])
 .ret)
 .skip)))
 (.reg [⟨(some 191), .move (.t 10), none⟩,
 ⟨(some 192), .bin .int .add (.t 191) (.c (.int .i64 1)), none⟩,
 ⟨(some 10), .move (.t 192), none⟩]))))))
 (.seq
 (.reg [⟨(some 4), .move (.c (.bool true)), none⟩])
 .ret))))))))
theorem in30 {args : List AV} {σ : Store} {K : AV → Store → Prop} (hargs : args.length ≤ 222 := by simp) (h : AWP Try.prog Try.f30.ntmps c30 (fun e t s => match e with | .exit _ => False | _ => Res [.slot 4] K t s) (env (argList 0 args)) σ) : ACalls Try.prog 30 args σ K :=
  enter (own := []) Try.func30 (by kernel_rfl) (by kernel_rfl) (by kernel_rfl) hargs h
end Go.Proofs.Ytjjbjibbjbbeaaa
/- Core expressions as plain data. -/
set_option linter.unusedVariables false
set_option linter.unusedSimpArgs false
namespace Go.AL
/-- A flat alternative, its body aside. -/
structure AltH where
  k : Int
  nm : ByteArray
  n : Int
  ps : List ByteArray
/-- A core expression. -/
inductive Cr where
  | mk (k : Int) (nm : ByteArray) (n ar : Int) (ps : List ByteArray) (gs : List Cr) (al : List (AltH × Cr)) (bs : List (ByteArray × Cr)) (pk : List (Int × Cr))
abbrev strs (l : List ByteArray) : AV := .list (l.map fun s => [.str s])
def AltH.cells (h : AltH) : List AV := [.int .i64 h.k, .str h.nm, .int .i64 h.n, strs h.ps]
mutual
def Cr.cells : Cr → List AV
  | .mk k nm n ar ps gs al bs pk => [.int .i64 k, .str nm, .int .i64 n, .int .i64 ar, strs ps, .list (Cr.cellsL gs), .list (Cr.cellsA al), .list (Cr.cellsB bs), .list (Cr.cellsP pk)]
def Cr.cellsL : List Cr → List (List AV)
  | [] => []
  | x :: r => Cr.cells x :: Cr.cellsL r
def Cr.cellsA : List (AltH × Cr) → List (List AV)
  | [] => []
  | (h, x) :: r => (h.cells ++ Cr.cells x) :: Cr.cellsA r
def Cr.cellsB : List (ByteArray × Cr) → List (List AV)
  | [] => []
  | (s, x) :: r => (.str s :: Cr.cells x) :: Cr.cellsB r
def Cr.cellsP : List (Int × Cr) → List (List AV)
  | [] => []
  | (s, x) :: r => (.int .i64 s :: Cr.cells x) :: Cr.cellsP r
end
def altC (p : AltH × Cr) : List AV := p.1.cells ++ p.2.cells
def bindC (p : ByteArray × Cr) : List AV := .str p.1 :: p.2.cells
def pickC (p : Int × Cr) : List AV := .int .i64 p.1 :: p.2.cells
theorem Cr.cellsL_map : ∀ l : List Cr, Cr.cellsL l = l.map Cr.cells
  | [] => by rw [Cr.cellsL]; rfl
  | x :: r => by rw [Cr.cellsL, Cr.cellsL_map r]; rfl
theorem Cr.cellsA_map : ∀ l : List (AltH × Cr), Cr.cellsA l = l.map altC
  | [] => by rw [Cr.cellsA]; rfl
  | (h, x) :: r => by rw [Cr.cellsA, Cr.cellsA_map r]; rfl
theorem Cr.cellsB_map : ∀ l : List (ByteArray × Cr), Cr.cellsB l = l.map bindC
  | [] => by rw [Cr.cellsB]; rfl
  | (h, x) :: r => by rw [Cr.cellsB, Cr.cellsB_map r]; rfl
theorem Cr.cellsP_map : ∀ l : List (Int × Cr), Cr.cellsP l = l.map pickC
  | [] => by rw [Cr.cellsP]; rfl
  | (h, x) :: r => by rw [Cr.cellsP, Cr.cellsP_map r]; rfl
theorem Cr.cells_eq (k : Int) (nm : ByteArray) (n ar : Int) (ps : List ByteArray) (gs : List Cr) (al : List (AltH × Cr)) (bs : List (ByteArray × Cr)) (pk : List (Int × Cr)) :
    (Cr.mk k nm n ar ps gs al bs pk).cells = [.int .i64 k, .str nm, .int .i64 n, .int .i64 ar, strs ps, .list (gs.map Cr.cells), .list (al.map altC), .list (bs.map bindC), .list (pk.map pickC)] := by
  rw [Cr.cells, Cr.cellsL_map, Cr.cellsA_map, Cr.cellsB_map, Cr.cellsP_map]
theorem Cr.len (x : Cr) : x.cells.length = 9 := by cases x; rw [Cr.cells_eq]; rfl
theorem altC_len (x : AltH × Cr) : (altC x).length = 13 := by simp [altC, AltH.cells, Cr.len]
theorem Cr.ind {p : Cr → Prop} (h : ∀ k nm n ar ps gs al bs pk, (∀ x, x ∈ gs → p x) → (∀ x, x ∈ al → p x.2) → (∀ x, x ∈ bs → p x.2) → (∀ x, x ∈ pk → p x.2) → p (.mk k nm n ar ps gs al bs pk)) : ∀ x, p x
  | .mk k nm n ar ps gs al bs pk => h k nm n ar ps gs al bs pk (fun x hx => Cr.ind h x) (fun x hx => Cr.ind h x.2) (fun x hx => Cr.ind h x.2) (fun x hx => Cr.ind h x.2)
termination_by x => SizeOf.sizeOf x
decreasing_by
  · have := List.sizeOf_lt_of_mem hx; simp; omega
  · have := List.sizeOf_lt_of_mem hx; obtain ⟨a, b⟩ := x; simp at this ⊢; omega
  · have := List.sizeOf_lt_of_mem hx; obtain ⟨a, b⟩ := x; simp at this ⊢; omega
  · have := List.sizeOf_lt_of_mem hx; obtain ⟨a, b⟩ := x; simp at this ⊢; omega
theorem cln_strs {n : Nat} (l : List ByteArray) : Cln n (strs l) := .list' fun e he c hc => by
  simp at he
  obtain ⟨y, hy, rfl⟩ := he
  simp at hc
  subst hc
  exact .str _
theorem Cr.cln {n : Nat} (x : Cr) : ∀ c, c ∈ x.cells → Cln n c := by
  induction x using Cr.ind with
  | _ k nm m ar ps gs al bs pk h1 h2 h3 h4 =>
    intro c hc
    rw [Cr.cells_eq] at hc
    simp at hc
    rcases hc with rfl | rfl | rfl | rfl | rfl | rfl | rfl | rfl | rfl
    · exact .int _ _
    · exact .str _
    · exact .int _ _
    · exact .int _ _
    · exact cln_strs ps
    · refine .list' fun e he c hc => ?_
      simp at he
      obtain ⟨y, hy, rfl⟩ := he
      exact h1 y hy c hc
    · refine .list' fun e he c hc => ?_
      simp at he
      obtain ⟨a, b, hy, rfl⟩ := he
      simp [altC, AltH.cells] at hc
      rcases hc with rfl | rfl | rfl | rfl | hc
      · exact .int _ _
      · exact .str _
      · exact .int _ _
      · exact cln_strs _
      · exact h2 _ hy c hc
    · refine .list' fun e he c hc => ?_
      simp at he
      obtain ⟨a, b, hy, rfl⟩ := he
      simp [bindC] at hc
      rcases hc with rfl | hc
      · exact .str _
      · exact h3 _ hy c hc
    · refine .list' fun e he c hc => ?_
      simp at he
      obtain ⟨a, b, hy, rfl⟩ := he
      simp [pickC] at hc
      rcases hc with rfl | hc
      · exact .int _ _
      · exact h4 _ hy c hc
end Go.AL
/- Rows of texts: SameTexts, Index, Contains. -/
set_option linter.unusedVariables false
set_option linter.unusedSimpArgs false
namespace Go.Proofs.Ytjjbjibbjbbeaaa
open Go.AL
theorem sameTexts_ok (a b : List ByteArray) (σ : Store) : ACalls Try.prog 29 [strs a, strs b] σ fun r σ' => r = .bool (@decide (a = b) (Classical.propDecidable _)) ∧ σ' = σ := by
  refine ACalls_len (j := 0) rfl fun hlen => ?_
  simp only [List.length_map, maxLen] at hlen
  refine in29 (by simp) ?_
  unfold c29
  by_cases hl : a.length = b.length
  · have hl' : (a.length : Int) = (b.length : Int) := by omega
    refine raw ?_
    repeat (first | (with_reducible refine unr ?_; try simp only [ZZ, ↓reduceIte, Nat.reduceEqDiff, Nat.reduceAdd, Nat.reduceLeDiff, reduceCtorEq, Int.reduceEq, Int.reduceLT, Int.reduceLE, Int.reduceNeg, Int.reduceAdd, Int.reduceSub, Int.reduceToNat, hl']) | (with_reducible first | refine W1 ?_ | refine W2 ?_ | refine W3 ?_ | refine W4 ?_ | refine W5 ?_ | refine W6 ?_ | refine W7 ?_ | refine W8 ?_ | refine W9 ?_))
    refine AWP_while [0, 1, 5] (fun i : Nat => a.length - i) (fun i => [strs a, strs b, .int .i64 i])
      (fun i s => s = σ ∧ i ≤ a.length ∧ a.take i = b.take i) 0 ⟨rfl, by omega, by simp⟩ ?_ ?_
    · refine raw ?_
      repeat (first | (with_reducible refine unr ?_; try simp only [ZZ, ↓reduceIte, Nat.reduceEqDiff, Nat.reduceAdd, Nat.reduceLeDiff, reduceCtorEq, Int.reduceEq, Int.reduceLT, Int.reduceLE, Int.reduceNeg, Int.reduceAdd, Int.reduceSub, Int.reduceToNat]) | (with_reducible first | refine W1 ?_ | refine W2 ?_ | refine W3 ?_ | refine W4 ?_ | refine W5 ?_ | refine W6 ?_ | refine W7 ?_ | refine W8 ?_ | refine W9 ?_))
      rfl
    · rintro i s ⟨rfl, hi, hall⟩
      by_cases hil : i < a.length
      · have hil' : (i : Int) < (b.length : Int) := by omega
        obtain ⟨x, hx⟩ : ∃ x, a[i]? = some x := ⟨_, List.getElem?_eq_getElem hil⟩
        obtain ⟨y, hy⟩ : ∃ y, b[i]? = some y := ⟨_, List.getElem?_eq_getElem (by omega)⟩
        have hga : (a.map fun s => [AV.str s])[i]? = some [.str x] := by simp [hx]
        have hgb : (b.map fun s => [AV.str s])[i]? = some [.str y] := by simp [hy]
        by_cases h1 : x = y
        · refine raw ?_
          repeat (first | (with_reducible refine unr ?_; try simp only [ZZ, ↓reduceIte, Nat.reduceEqDiff, Nat.reduceAdd, Nat.reduceLeDiff, reduceCtorEq, Int.reduceEq, Int.reduceLT, Int.reduceLE, Int.reduceNeg, Int.reduceAdd, Int.reduceSub, Int.reduceToNat, hl', hil', hga, hgb, h1, wrap_succ (i := i) (by omega)]) | (with_reducible first | refine W1 ?_ | refine W2 ?_ | refine W3 ?_ | refine W4 ?_ | refine W5 ?_ | refine W6 ?_ | refine W7 ?_ | refine W8 ?_ | refine W9 ?_))
          refine ⟨i + 1, rfl, ⟨by omega, ?_⟩, by omega⟩
          rw [List.take_add_one, List.take_add_one, hx, hy, hall, h1]
        · refine raw ?_
          repeat (first | (with_reducible refine unr ?_; try simp only [ZZ, ↓reduceIte, Nat.reduceEqDiff, Nat.reduceAdd, Nat.reduceLeDiff, reduceCtorEq, Int.reduceEq, Int.reduceLT, Int.reduceLE, Int.reduceNeg, Int.reduceAdd, Int.reduceSub, Int.reduceToNat, hl', hil', hga, hgb, h1]) | (with_reducible first | refine W1 ?_ | refine W2 ?_ | refine W3 ?_ | refine W4 ?_ | refine W5 ?_ | refine W6 ?_ | refine W7 ?_ | refine W8 ?_ | refine W9 ?_))
          simp only [AV.bool.injEq]
          symm
          simp only [decide_eq_false_iff_not]
          rintro rfl
          rw [hx] at hy
          exact h1 (Option.some.inj hy)
      · have hil' : ¬ (i : Int) < (b.length : Int) := by omega
        refine raw ?_
        repeat (first | (with_reducible refine unr ?_; try simp only [ZZ, ↓reduceIte, Nat.reduceEqDiff, Nat.reduceAdd, Nat.reduceLeDiff, reduceCtorEq, Int.reduceEq, Int.reduceLT, Int.reduceLE, Int.reduceNeg, Int.reduceAdd, Int.reduceSub, Int.reduceToNat, hl', hil']) | (with_reducible first | refine W1 ?_ | refine W2 ?_ | refine W3 ?_ | refine W4 ?_ | refine W5 ?_ | refine W6 ?_ | refine W7 ?_ | refine W8 ?_ | refine W9 ?_))
        rw [List.take_of_length_le (by omega), List.take_of_length_le (by omega)] at hall
        simp [hall]
  · have hl' : ¬ (a.length : Int) = (b.length : Int) := by omega
    refine raw ?_
    repeat (first | (with_reducible refine unr ?_; try simp only [ZZ, ↓reduceIte, Nat.reduceEqDiff, Nat.reduceAdd, Nat.reduceLeDiff, reduceCtorEq, Int.reduceEq, Int.reduceLT, Int.reduceLE, Int.reduceNeg, Int.reduceAdd, Int.reduceSub, Int.reduceToNat, hl']) | (with_reducible first | refine W1 ?_ | refine W2 ?_ | refine W3 ?_ | refine W4 ?_ | refine W5 ?_ | refine W6 ?_ | refine W7 ?_ | refine W8 ?_ | refine W9 ?_))
    simp only [AV.bool.injEq]
    symm
    simp only [decide_eq_false_iff_not]
    rintro rfl
    exact hl rfl
/-- Any row of texts that is read. -/
theorem index_ok {σ : Store} {v : AV} {l : List ByteArray} (h : Rds σ v 1 (l.map fun s => [.str s])) (hl : l.length ≤ 9223372036854775806) (k : ByteArray) :
    ACalls Try.prog 142 [v, .str k] σ fun r σ' => (∃ n : Int, r = .int .i64 n ∧ (0 ≤ n ↔ k ∈ l)) ∧ σ' = σ := by
  refine in142 (by simp) ?_
  unfold c142
  have hlen := h.len
  simp only [List.length_map] at hlen
  refine raw ?_
  repeat (first | (with_reducible refine unr ?_; try simp only [ZZ, ↓reduceIte, Nat.reduceEqDiff, Nat.reduceAdd, Nat.reduceLeDiff, reduceCtorEq, Int.reduceEq, Int.reduceLT, Int.reduceLE, Int.reduceNeg, Int.reduceAdd, Int.reduceSub, Int.reduceToNat, hlen]) | (with_reducible first | refine W1 ?_ | refine W2 ?_ | refine W3 ?_ | refine W4 ?_ | refine W5 ?_ | refine W6 ?_ | refine W7 ?_ | refine W8 ?_ | refine W9 ?_))
  refine AWP_while [0, 1, 7, 8] (fun i : Nat => l.length - i) (fun i => [v, .str k, .int .i64 l.length, .int .i64 i])
    (fun i s => s = σ ∧ i ≤ l.length ∧ ¬ k ∈ l.take i) 0 ⟨rfl, by omega, by simp⟩ ?_ ?_
  · refine raw ?_
    repeat (first | (with_reducible refine unr ?_; try simp only [ZZ, ↓reduceIte, Nat.reduceEqDiff, Nat.reduceAdd, Nat.reduceLeDiff, reduceCtorEq, Int.reduceEq, Int.reduceLT, Int.reduceLE, Int.reduceNeg, Int.reduceAdd, Int.reduceSub, Int.reduceToNat]) | (with_reducible first | refine W1 ?_ | refine W2 ?_ | refine W3 ?_ | refine W4 ?_ | refine W5 ?_ | refine W6 ?_ | refine W7 ?_ | refine W8 ?_ | refine W9 ?_))
    rfl
  · rintro i s ⟨rfl, hi, hno⟩
    by_cases hil : i < l.length
    · have hil' : (i : Int) < (l.length : Int) := by omega
      obtain ⟨x, hx⟩ : ∃ x, l[i]? = some x := ⟨_, List.getElem?_eq_getElem hil⟩
      obtain ⟨p, hp, hep⟩ := h.iad i [.str x] (by simp [hx])
      have hld := hep.load none
      by_cases h1 : k = x
      · refine raw ?_
        repeat (first | (with_reducible refine unr ?_; try simp only [ZZ, ↓reduceIte, Nat.reduceEqDiff, Nat.reduceAdd, Nat.reduceLeDiff, reduceCtorEq, Int.reduceEq, Int.reduceLT, Int.reduceLE, Int.reduceNeg, Int.reduceAdd, Int.reduceSub, Int.reduceToNat, hil', hp, hld, h1]) | (with_reducible first | refine W1 ?_ | refine W2 ?_ | refine W3 ?_ | refine W4 ?_ | refine W5 ?_ | refine W6 ?_ | refine W7 ?_ | refine W8 ?_ | refine W9 ?_))
        exact ⟨i, rfl, by simp; exact List.mem_of_getElem? hx⟩
      · refine raw ?_
        repeat (first | (with_reducible refine unr ?_; try simp only [ZZ, ↓reduceIte, Nat.reduceEqDiff, Nat.reduceAdd, Nat.reduceLeDiff, reduceCtorEq, Int.reduceEq, Int.reduceLT, Int.reduceLE, Int.reduceNeg, Int.reduceAdd, Int.reduceSub, Int.reduceToNat, hil', hp, hld, h1, wrap_succ (i := i) (by omega)]) | (with_reducible first | refine W1 ?_ | refine W2 ?_ | refine W3 ?_ | refine W4 ?_ | refine W5 ?_ | refine W6 ?_ | refine W7 ?_ | refine W8 ?_ | refine W9 ?_))
        refine ⟨i + 1, rfl, ⟨by omega, ?_⟩, by omega⟩
        rw [List.take_add_one, hx]
        simp [hno, h1]
    · have hil' : ¬ (i : Int) < (l.length : Int) := by omega
      rw [List.take_of_length_le (by omega)] at hno
      refine raw ?_
      repeat (first | (with_reducible refine unr ?_; try simp only [ZZ, ↓reduceIte, Nat.reduceEqDiff, Nat.reduceAdd, Nat.reduceLeDiff, reduceCtorEq, Int.reduceEq, Int.reduceLT, Int.reduceLE, Int.reduceNeg, Int.reduceAdd, Int.reduceSub, Int.reduceToNat, hil']) | (with_reducible first | refine W1 ?_ | refine W2 ?_ | refine W3 ?_ | refine W4 ?_ | refine W5 ?_ | refine W6 ?_ | refine W7 ?_ | refine W8 ?_ | refine W9 ?_))
      exact ⟨-1, rfl, by simp [hno]⟩
theorem contains_ok {σ : Store} {v : AV} {l : List ByteArray} (h : Rds σ v 1 (l.map fun s => [.str s])) (hl : l.length ≤ 9223372036854775806) (k : ByteArray) :
    ACalls Try.prog 85 [v, .str k] σ fun r σ' => r = .bool (@decide (k ∈ l) (Classical.propDecidable _)) ∧ σ' = σ := by
  refine in85 (by simp) ?_
  unfold c85
  refine raw ?_
  repeat (first | (with_reducible refine unr ?_; try simp only [ZZ, ↓reduceIte, Nat.reduceEqDiff, Nat.reduceAdd, Nat.reduceLeDiff, reduceCtorEq, Int.reduceEq, Int.reduceLT, Int.reduceLE, Int.reduceNeg, Int.reduceAdd, Int.reduceSub, Int.reduceToNat]) | (with_reducible first | refine W1 ?_ | refine W2 ?_ | refine W3 ?_ | refine W4 ?_ | refine W5 ?_ | refine W6 ?_ | refine W7 ?_ | refine W8 ?_ | refine W9 ?_))
  refine (index_ok h hl k).mono ?_
  rintro r s ⟨⟨n, rfl, hn⟩, rfl⟩
  refine raw ?_
  repeat (first | (with_reducible refine unr ?_; try simp only [ZZ, ↓reduceIte, Nat.reduceEqDiff, Nat.reduceAdd, Nat.reduceLeDiff, reduceCtorEq, Int.reduceEq, Int.reduceLT, Int.reduceLE, Int.reduceNeg, Int.reduceAdd, Int.reduceSub, Int.reduceToNat]) | (with_reducible first | refine W1 ?_ | refine W2 ?_ | refine W3 ?_ | refine W4 ?_ | refine W5 ?_ | refine W6 ?_ | refine W7 ?_ | refine W8 ?_ | refine W9 ?_))
  by_cases hk : k ∈ l
  · have := hn.2 hk
    simp [hk, this]
  · have : ¬ 0 ≤ n := fun h => hk (hn.1 h)
    simp [hk, this]
end Go.Proofs.Ytjjbjibbjbbeaaa
/- Sizes. -/
set_option linter.unusedVariables false
set_option linter.unusedSimpArgs false
namespace Go.AL
/-- Its lists are short. -/
inductive Cr.Sm : Cr → Prop
  | mk {k : Int} {nm : ByteArray} {n ar : Int} {ps : List ByteArray} {gs : List Cr} {al : List (AltH × Cr)} {bs : List (ByteArray × Cr)} {pk : List (Int × Cr)} (hps : ps.length ≤ 1048576) (hgs : gs.length ≤ 1048576) (hal : al.length ≤ 1048576) (hbs : bs.length ≤ 1048576) (hpk : pk.length ≤ 1048576)
    (h1 : ∀ x, x ∈ gs → Cr.Sm x) (h2 : ∀ x, x ∈ al → Cr.Sm x.2) (h5 : ∀ x, x ∈ al → x.1.ps.length ≤ 1048576) (h3 : ∀ x, x ∈ bs → Cr.Sm x.2) (h4 : ∀ x, x ∈ pk → Cr.Sm x.2) : Cr.Sm (.mk k nm n ar ps gs al bs pk)
end Go.AL
namespace Go.Proofs.Ytjjbjibbjbbeaaa
open Go.AL
theorem size_ok : ∀ x : Cr, x.Sm → ∀ σ : Store, ACalls Try.prog 17 [.agg x.cells] σ fun r s => (∃ n : Int, r = .int .i64 n) ∧ s = σ := by
  intro x
  induction x using Cr.ind with
  | _ k nm n ar ps gs al bs pk ih1 ih2 ih3 ih4 =>
    intro hs σ
    cases hs with
    | mk hps hgs hal hbs hpk h1 h2 h5 h3 h4 =>
    refine ACalls_fp (p := fun r => ∃ n : Int, r = .int .i64 n) ?_
    refine in17 (by simp) ?_
    unfold c17
    rw [Cr.cells_eq]
    refine raw ?_
    repeat (first | (with_reducible refine unr ?_; try simp only [ZZ, ↓reduceIte, Nat.reduceEqDiff, Nat.reduceAdd, Nat.reduceLeDiff, reduceCtorEq, Int.reduceEq, Int.reduceLT, Int.reduceLE, Int.reduceNeg, Int.reduceAdd, Int.reduceSub, Int.reduceToNat]) | (with_reducible first | refine W1 ?_ | refine W2 ?_ | refine W3 ?_ | refine W4 ?_ | refine W5 ?_ | refine W6 ?_ | refine W7 ?_ | refine W8 ?_ | refine W9 ?_))
    generalize hs1 : Store.push _ _ = s1
    have k1 : Kp σ s1 := by rw [← hs1]; exact .pushed _ _
    have he : s1.get σ.next = some (.cells 54 0 9 [[.int .i64 k, .str nm, .int .i64 n, .int .i64 ar, strs ps, .list (gs.map Cr.cells), .list (al.map altC), .list (bs.map bindC), .list (pk.map pickC)]]) := by rw [← hs1]; simp [Store.push_get]
    clear hs1
    refine AWP_while [1, 3, 4] (fun y : Int × Nat => gs.length - y.2) (fun y => [.ptr σ.next 0 0 0, .int .i64 y.1, .int .i64 y.2]) (fun y t => s1 = t ∧ y.2 ≤ gs.length) (1, 0) ⟨rfl, by simp⟩ ?_ ?_
    · refine raw ?_
      repeat (first | (with_reducible refine unr ?_; try simp only [ZZ, ↓reduceIte, Nat.reduceEqDiff, Nat.reduceAdd, Nat.reduceLeDiff, reduceCtorEq, Int.reduceEq, Int.reduceLT, Int.reduceLE, Int.reduceNeg, Int.reduceAdd, Int.reduceSub, Int.reduceToNat]) | (with_reducible first | refine W1 ?_ | refine W2 ?_ | refine W3 ?_ | refine W4 ?_ | refine W5 ?_ | refine W6 ?_ | refine W7 ?_ | refine W8 ?_ | refine W9 ?_))
      rfl
    rintro ⟨a4, i⟩ t ⟨rfl, hi⟩
    simp only at hi
    by_cases hil : i < gs.length
    · have hil' : (i : Int) < (gs.length : Int) := by omega
      obtain ⟨x, hx⟩ : ∃ x, gs[i]? = some x := ⟨_, List.getElem?_eq_getElem hil⟩
      have hg : (gs.map Cr.cells)[i]? = some (Cr.cells x) := by simp [hx]
      have hxm := List.mem_of_getElem? hx
      have hxl := x.len
      have htake : List.take 9 x.cells = x.cells := List.take_of_length_le (by omega)
      have h99 : (9 ≤ x.cells.length) = True := by simp [hxl]
      refine raw ?_
      repeat (first | (with_reducible refine unr ?_; try simp only [ZZ, ↓reduceIte, Nat.reduceEqDiff, Nat.reduceAdd, Nat.reduceLeDiff, reduceCtorEq, Int.reduceEq, Int.reduceLT, Int.reduceLE, Int.reduceNeg, Int.reduceAdd, Int.reduceSub, Int.reduceToNat, he, hil', hg, hxl, htake, h99]) | (with_reducible first | refine W1 ?_ | refine W2 ?_ | refine W3 ?_ | refine W4 ?_ | refine W5 ?_ | refine W6 ?_ | refine W7 ?_ | refine W8 ?_ | refine W9 ?_))
      refine (ih1 x hxm (h1 x hxm) _).mono ?_
      rintro r s ⟨⟨m, rfl⟩, rfl⟩
      refine raw ?_
      repeat (first | (with_reducible refine unr ?_; try simp only [ZZ, ↓reduceIte, Nat.reduceEqDiff, Nat.reduceAdd, Nat.reduceLeDiff, reduceCtorEq, Int.reduceEq, Int.reduceLT, Int.reduceLE, Int.reduceNeg, Int.reduceAdd, Int.reduceSub, Int.reduceToNat, wrap_succ (i := i) (by omega)]) | (with_reducible first | refine W1 ?_ | refine W2 ?_ | refine W3 ?_ | refine W4 ?_ | refine W5 ?_ | refine W6 ?_ | refine W7 ?_ | refine W8 ?_ | refine W9 ?_))
      exact ⟨(_, i + 1), rfl, by simp only; omega, by simp only; omega⟩
    have hil' : ¬ (i : Int) < (gs.length : Int) := by omega
    refine raw ?_
    repeat (first | (with_reducible refine unr ?_; try simp only [ZZ, ↓reduceIte, Nat.reduceEqDiff, Nat.reduceAdd, Nat.reduceLeDiff, reduceCtorEq, Int.reduceEq, Int.reduceLT, Int.reduceLE, Int.reduceNeg, Int.reduceAdd, Int.reduceSub, Int.reduceToNat, he, hil']) | (with_reducible first | refine W1 ?_ | refine W2 ?_ | refine W3 ?_ | refine W4 ?_ | refine W5 ?_ | refine W6 ?_ | refine W7 ?_ | refine W8 ?_ | refine W9 ?_))
    clear hil hil' hi
    refine AWP_while [1, 3, 5] (fun y : Int × Nat => al.length - y.2) (fun y => [.ptr σ.next 0 0 0, .int .i64 y.1, .int .i64 y.2]) (fun y t => s1 = t ∧ y.2 ≤ al.length) (a4, 0) ⟨rfl, by simp⟩ ?_ ?_
    · refine raw ?_
      repeat (first | (with_reducible refine unr ?_; try simp only [ZZ, ↓reduceIte, Nat.reduceEqDiff, Nat.reduceAdd, Nat.reduceLeDiff, reduceCtorEq, Int.reduceEq, Int.reduceLT, Int.reduceLE, Int.reduceNeg, Int.reduceAdd, Int.reduceSub, Int.reduceToNat]) | (with_reducible first | refine W1 ?_ | refine W2 ?_ | refine W3 ?_ | refine W4 ?_ | refine W5 ?_ | refine W6 ?_ | refine W7 ?_ | refine W8 ?_ | refine W9 ?_))
      rfl
    rintro ⟨a5, i⟩ t ⟨rfl, hi⟩
    simp only at hi
    by_cases hil : i < al.length
    · have hil' : (i : Int) < (al.length : Int) := by omega
      obtain ⟨x, hx⟩ : ∃ x, al[i]? = some x := ⟨_, List.getElem?_eq_getElem hil⟩
      have hg : (al.map altC)[i]? = some (altC x) := by simp [hx]
      have hxm := List.mem_of_getElem? hx
      have hxl := x.2.len
      have htake : List.take 9 x.2.cells = x.2.cells := List.take_of_length_le (by omega)
      have h99 : (13 ≤ x.2.cells.length + 4) = True := by simp [hxl]
      refine raw ?_
      repeat (first | (with_reducible refine unr ?_; try simp only [ZZ, ↓reduceIte, Nat.reduceEqDiff, Nat.reduceAdd, Nat.reduceLeDiff, reduceCtorEq, Int.reduceEq, Int.reduceLT, Int.reduceLE, Int.reduceNeg, Int.reduceAdd, Int.reduceSub, Int.reduceToNat, he, hil', hg, hxl, htake, h99, altC, AltH.cells]) | (with_reducible first | refine W1 ?_ | refine W2 ?_ | refine W3 ?_ | refine W4 ?_ | refine W5 ?_ | refine W6 ?_ | refine W7 ?_ | refine W8 ?_ | refine W9 ?_))
      refine (ih2 x hxm (h2 x hxm) _).mono ?_
      rintro r s ⟨⟨m, rfl⟩, rfl⟩
      refine raw ?_
      repeat (first | (with_reducible refine unr ?_; try simp only [ZZ, ↓reduceIte, Nat.reduceEqDiff, Nat.reduceAdd, Nat.reduceLeDiff, reduceCtorEq, Int.reduceEq, Int.reduceLT, Int.reduceLE, Int.reduceNeg, Int.reduceAdd, Int.reduceSub, Int.reduceToNat, wrap_succ (i := i) (by omega)]) | (with_reducible first | refine W1 ?_ | refine W2 ?_ | refine W3 ?_ | refine W4 ?_ | refine W5 ?_ | refine W6 ?_ | refine W7 ?_ | refine W8 ?_ | refine W9 ?_))
      exact ⟨(_, i + 1), rfl, by simp only; omega, by simp only; omega⟩
    have hil' : ¬ (i : Int) < (al.length : Int) := by omega
    refine raw ?_
    repeat (first | (with_reducible refine unr ?_; try simp only [ZZ, ↓reduceIte, Nat.reduceEqDiff, Nat.reduceAdd, Nat.reduceLeDiff, reduceCtorEq, Int.reduceEq, Int.reduceLT, Int.reduceLE, Int.reduceNeg, Int.reduceAdd, Int.reduceSub, Int.reduceToNat, he, hil']) | (with_reducible first | refine W1 ?_ | refine W2 ?_ | refine W3 ?_ | refine W4 ?_ | refine W5 ?_ | refine W6 ?_ | refine W7 ?_ | refine W8 ?_ | refine W9 ?_))
    clear hil hil' hi
    refine AWP_while [1, 3, 6] (fun y : Int × Nat => bs.length - y.2) (fun y => [.ptr σ.next 0 0 0, .int .i64 y.1, .int .i64 y.2]) (fun y t => s1 = t ∧ y.2 ≤ bs.length) (a5, 0) ⟨rfl, by simp⟩ ?_ ?_
    · refine raw ?_
      repeat (first | (with_reducible refine unr ?_; try simp only [ZZ, ↓reduceIte, Nat.reduceEqDiff, Nat.reduceAdd, Nat.reduceLeDiff, reduceCtorEq, Int.reduceEq, Int.reduceLT, Int.reduceLE, Int.reduceNeg, Int.reduceAdd, Int.reduceSub, Int.reduceToNat]) | (with_reducible first | refine W1 ?_ | refine W2 ?_ | refine W3 ?_ | refine W4 ?_ | refine W5 ?_ | refine W6 ?_ | refine W7 ?_ | refine W8 ?_ | refine W9 ?_))
      rfl
    rintro ⟨a6, i⟩ t ⟨rfl, hi⟩
    simp only at hi
    by_cases hil : i < bs.length
    · have hil' : (i : Int) < (bs.length : Int) := by omega
      obtain ⟨x, hx⟩ : ∃ x, bs[i]? = some x := ⟨_, List.getElem?_eq_getElem hil⟩
      have hg : (bs.map bindC)[i]? = some (bindC x) := by simp [hx]
      have hxm := List.mem_of_getElem? hx
      have hxl := x.2.len
      have htake : List.take 9 x.2.cells = x.2.cells := List.take_of_length_le (by omega)
      have h99 : (10 ≤ x.2.cells.length + 1) = True := by simp [hxl]
      refine raw ?_
      repeat (first | (with_reducible refine unr ?_; try simp only [ZZ, ↓reduceIte, Nat.reduceEqDiff, Nat.reduceAdd, Nat.reduceLeDiff, reduceCtorEq, Int.reduceEq, Int.reduceLT, Int.reduceLE, Int.reduceNeg, Int.reduceAdd, Int.reduceSub, Int.reduceToNat, he, hil', hg, hxl, htake, h99, bindC]) | (with_reducible first | refine W1 ?_ | refine W2 ?_ | refine W3 ?_ | refine W4 ?_ | refine W5 ?_ | refine W6 ?_ | refine W7 ?_ | refine W8 ?_ | refine W9 ?_))
      refine (ih3 x hxm (h3 x hxm) _).mono ?_
      rintro r s ⟨⟨m, rfl⟩, rfl⟩
      refine raw ?_
      repeat (first | (with_reducible refine unr ?_; try simp only [ZZ, ↓reduceIte, Nat.reduceEqDiff, Nat.reduceAdd, Nat.reduceLeDiff, reduceCtorEq, Int.reduceEq, Int.reduceLT, Int.reduceLE, Int.reduceNeg, Int.reduceAdd, Int.reduceSub, Int.reduceToNat, wrap_succ (i := i) (by omega)]) | (with_reducible first | refine W1 ?_ | refine W2 ?_ | refine W3 ?_ | refine W4 ?_ | refine W5 ?_ | refine W6 ?_ | refine W7 ?_ | refine W8 ?_ | refine W9 ?_))
      exact ⟨(_, i + 1), rfl, by simp only; omega, by simp only; omega⟩
    have hil' : ¬ (i : Int) < (bs.length : Int) := by omega
    refine raw ?_
    repeat (first | (with_reducible refine unr ?_; try simp only [ZZ, ↓reduceIte, Nat.reduceEqDiff, Nat.reduceAdd, Nat.reduceLeDiff, reduceCtorEq, Int.reduceEq, Int.reduceLT, Int.reduceLE, Int.reduceNeg, Int.reduceAdd, Int.reduceSub, Int.reduceToNat, he, hil']) | (with_reducible first | refine W1 ?_ | refine W2 ?_ | refine W3 ?_ | refine W4 ?_ | refine W5 ?_ | refine W6 ?_ | refine W7 ?_ | refine W8 ?_ | refine W9 ?_))
    clear hil hil' hi
    refine AWP_while [1, 3, 7] (fun y : Int × Nat => pk.length - y.2) (fun y => [.ptr σ.next 0 0 0, .int .i64 y.1, .int .i64 y.2]) (fun y t => s1 = t ∧ y.2 ≤ pk.length) (a6, 0) ⟨rfl, by simp⟩ ?_ ?_
    · refine raw ?_
      repeat (first | (with_reducible refine unr ?_; try simp only [ZZ, ↓reduceIte, Nat.reduceEqDiff, Nat.reduceAdd, Nat.reduceLeDiff, reduceCtorEq, Int.reduceEq, Int.reduceLT, Int.reduceLE, Int.reduceNeg, Int.reduceAdd, Int.reduceSub, Int.reduceToNat]) | (with_reducible first | refine W1 ?_ | refine W2 ?_ | refine W3 ?_ | refine W4 ?_ | refine W5 ?_ | refine W6 ?_ | refine W7 ?_ | refine W8 ?_ | refine W9 ?_))
      rfl
    rintro ⟨a7, i⟩ t ⟨rfl, hi⟩
    simp only at hi
    by_cases hil : i < pk.length
    · have hil' : (i : Int) < (pk.length : Int) := by omega
      obtain ⟨x, hx⟩ : ∃ x, pk[i]? = some x := ⟨_, List.getElem?_eq_getElem hil⟩
      have hg : (pk.map pickC)[i]? = some (pickC x) := by simp [hx]
      have hxm := List.mem_of_getElem? hx
      have hxl := x.2.len
      have htake : List.take 9 x.2.cells = x.2.cells := List.take_of_length_le (by omega)
      have h99 : (10 ≤ x.2.cells.length + 1) = True := by simp [hxl]
      refine raw ?_
      repeat (first | (with_reducible refine unr ?_; try simp only [ZZ, ↓reduceIte, Nat.reduceEqDiff, Nat.reduceAdd, Nat.reduceLeDiff, reduceCtorEq, Int.reduceEq, Int.reduceLT, Int.reduceLE, Int.reduceNeg, Int.reduceAdd, Int.reduceSub, Int.reduceToNat, he, hil', hg, hxl, htake, h99, pickC]) | (with_reducible first | refine W1 ?_ | refine W2 ?_ | refine W3 ?_ | refine W4 ?_ | refine W5 ?_ | refine W6 ?_ | refine W7 ?_ | refine W8 ?_ | refine W9 ?_))
      refine (ih4 x hxm (h4 x hxm) _).mono ?_
      rintro r s ⟨⟨m, rfl⟩, rfl⟩
      refine raw ?_
      repeat (first | (with_reducible refine unr ?_; try simp only [ZZ, ↓reduceIte, Nat.reduceEqDiff, Nat.reduceAdd, Nat.reduceLeDiff, reduceCtorEq, Int.reduceEq, Int.reduceLT, Int.reduceLE, Int.reduceNeg, Int.reduceAdd, Int.reduceSub, Int.reduceToNat, wrap_succ (i := i) (by omega)]) | (with_reducible first | refine W1 ?_ | refine W2 ?_ | refine W3 ?_ | refine W4 ?_ | refine W5 ?_ | refine W6 ?_ | refine W7 ?_ | refine W8 ?_ | refine W9 ?_))
      exact ⟨(_, i + 1), rfl, by simp only; omega, by simp only; omega⟩
    have hil' : ¬ (i : Int) < (pk.length : Int) := by omega
    refine raw ?_
    repeat (first | (with_reducible refine unr ?_; try simp only [ZZ, ↓reduceIte, Nat.reduceEqDiff, Nat.reduceAdd, Nat.reduceLeDiff, reduceCtorEq, Int.reduceEq, Int.reduceLT, Int.reduceLE, Int.reduceNeg, Int.reduceAdd, Int.reduceSub, Int.reduceToNat, he, hil']) | (with_reducible first | refine W1 ?_ | refine W2 ?_ | refine W3 ?_ | refine W4 ?_ | refine W5 ?_ | refine W6 ?_ | refine W7 ?_ | refine W8 ?_ | refine W9 ?_))
    clear hil hil' hi
    exact FP.same k1 ⟨_, rfl⟩ (.int _ _)
end Go.Proofs.Ytjjbjibbjbbeaaa
/- Small ones: what begins with, numbers read, local names. -/
set_option linter.unusedVariables false
set_option linter.unusedSimpArgs false
namespace Go.Proofs.Ytjjbjibbjbbeaaa
open Go.AL
theorem prefix_ok (s p : ByteArray) (σ : Store) : ACalls Try.prog 173 [.str s, .str p] σ fun r σ' => (∃ b : Bool, r = .bool b ∧ (b = true → p.size ≤ s.size)) ∧ σ' = σ := by
  refine in173 (by simp) ?_
  unfold c173
  by_cases h : p.size ≤ s.size
  · have h' : (p.size : Int) ≤ (s.size : Int) := by omega
    have h0 : (0 : Int) ≤ (p.size : Int) := by omega
    refine raw ?_
    repeat (first | (with_reducible refine unr ?_; try simp only [ZZ, ↓reduceIte, Nat.reduceEqDiff, Nat.reduceAdd, Nat.reduceLeDiff, reduceCtorEq, Int.reduceEq, Int.reduceLT, Int.reduceLE, Int.reduceNeg, Int.reduceAdd, Int.reduceSub, Int.reduceToNat, h', h0]) | (with_reducible first | refine W1 ?_ | refine W2 ?_ | refine W3 ?_ | refine W4 ?_ | refine W5 ?_ | refine W6 ?_ | refine W7 ?_ | refine W8 ?_ | refine W9 ?_))
    exact ⟨_, rfl, fun _ => h⟩
  · have h' : ¬ (p.size : Int) ≤ (s.size : Int) := by omega
    refine raw ?_
    repeat (first | (with_reducible refine unr ?_; try simp only [ZZ, ↓reduceIte, Nat.reduceEqDiff, Nat.reduceAdd, Nat.reduceLeDiff, reduceCtorEq, Int.reduceEq, Int.reduceLT, Int.reduceLE, Int.reduceNeg, Int.reduceAdd, Int.reduceSub, Int.reduceToNat, h']) | (with_reducible first | refine W1 ?_ | refine W2 ?_ | refine W3 ?_ | refine W4 ?_ | refine W5 ?_ | refine W6 ?_ | refine W7 ?_ | refine W8 ?_ | refine W9 ?_))
    exact ⟨_, rfl, by simp⟩
theorem hasPrefix_ok (s p : ByteArray) (σ : Store) : ACalls Try.prog 169 [.str s, .str p] σ fun r σ' => (∃ b : Bool, r = .bool b ∧ (b = true → p.size ≤ s.size)) ∧ σ' = σ := by
  refine in169 (by simp) ?_
  unfold c169
  refine raw ?_
  repeat (first | (with_reducible refine unr ?_; try simp only [ZZ, ↓reduceIte, Nat.reduceEqDiff, Nat.reduceAdd, Nat.reduceLeDiff, reduceCtorEq, Int.reduceEq, Int.reduceLT, Int.reduceLE, Int.reduceNeg, Int.reduceAdd, Int.reduceSub, Int.reduceToNat]) | (with_reducible first | refine W1 ?_ | refine W2 ?_ | refine W3 ?_ | refine W4 ?_ | refine W5 ?_ | refine W6 ?_ | refine W7 ?_ | refine W8 ?_ | refine W9 ?_))
  refine (prefix_ok s p σ).mono ?_
  rintro r t ⟨⟨b, rfl, hb⟩, rfl⟩
  refine raw ?_
  repeat (first | (with_reducible refine unr ?_; try simp only [ZZ, ↓reduceIte, Nat.reduceEqDiff, Nat.reduceAdd, Nat.reduceLeDiff, reduceCtorEq, Int.reduceEq, Int.reduceLT, Int.reduceLE, Int.reduceNeg, Int.reduceAdd, Int.reduceSub, Int.reduceToNat]) | (with_reducible first | refine W1 ?_ | refine W2 ?_ | refine W3 ?_ | refine W4 ?_ | refine W5 ?_ | refine W6 ?_ | refine W7 ?_ | refine W8 ?_ | refine W9 ?_))
  exact ⟨b, rfl, hb⟩
end Go.Proofs.Ytjjbjibbjbbeaaa
/- What is free in an expression, and what is made of it, as plain functions. -/
set_option linter.unusedVariables false
set_option linter.unusedSimpArgs false
namespace Go.AL
/-! ### Bulk -/
mutual
def Cr.bulk : Cr → Nat
  | .mk k nm n ar ps gs al bs pk => 1 + nm.size + ps.length + Cr.bulkL gs + Cr.bulkA al + Cr.bulkB bs + Cr.bulkP pk
def Cr.bulkL : List Cr → Nat
  | [] => 0
  | x :: r => Cr.bulk x + Cr.bulkL r
def Cr.bulkA : List (AltH × Cr) → Nat
  | [] => 0
  | (h, x) :: r => h.ps.length + Cr.bulk x + Cr.bulkA r
def Cr.bulkB : List (ByteArray × Cr) → Nat
  | [] => 0
  | (s, x) :: r => 1 + Cr.bulk x + Cr.bulkB r
def Cr.bulkP : List (Int × Cr) → Nat
  | [] => 0
  | (s, x) :: r => Cr.bulk x + Cr.bulkP r
end
theorem Cr.bulk_pos (x : Cr) : 1 ≤ x.bulk := by cases x; rw [Cr.bulk]; omega
theorem Cr.bulkL_le {x : Cr} : ∀ {l : List Cr}, x ∈ l → x.bulk ≤ Cr.bulkL l
  | y :: r, h => by
    rw [Cr.bulkL]
    rcases List.mem_cons.1 h with rfl | h
    · omega
    · have := Cr.bulkL_le h; omega
theorem Cr.bulkA_le {x : AltH × Cr} : ∀ {l : List (AltH × Cr)}, x ∈ l → x.1.ps.length + x.2.bulk ≤ Cr.bulkA l
  | (g, y) :: r, h => by
    rw [Cr.bulkA]
    rcases List.mem_cons.1 h with rfl | h
    · simp only; omega
    · have := Cr.bulkA_le h; omega
theorem Cr.bulkB_le {x : ByteArray × Cr} : ∀ {l : List (ByteArray × Cr)}, x ∈ l → 1 + x.2.bulk ≤ Cr.bulkB l
  | (g, y) :: r, h => by
    rw [Cr.bulkB]
    rcases List.mem_cons.1 h with rfl | h
    · simp only; omega
    · have := Cr.bulkB_le h; omega
theorem Cr.bulkP_le {x : Int × Cr} : ∀ {l : List (Int × Cr)}, x ∈ l → x.2.bulk ≤ Cr.bulkP l
  | (g, y) :: r, h => by
    rw [Cr.bulkP]
    rcases List.mem_cons.1 h with rfl | h
    · simp only; omega
    · have := Cr.bulkP_le h; omega
theorem Cr.lenL : ∀ l : List Cr, l.length ≤ Cr.bulkL l
  | [] => by simp
  | x :: r => by rw [Cr.bulkL, List.length_cons]; have := Cr.lenL r; have := x.bulk_pos; omega
theorem Cr.lenA : ∀ l : List (AltH × Cr), l.length ≤ Cr.bulkA l
  | [] => by simp
  | (h, x) :: r => by rw [Cr.bulkA, List.length_cons]; have := Cr.lenA r; have := x.bulk_pos; omega
theorem Cr.lenB : ∀ l : List (ByteArray × Cr), l.length ≤ Cr.bulkB l
  | [] => by simp
  | (h, x) :: r => by rw [Cr.bulkB, List.length_cons]; have := Cr.lenB r; have := x.bulk_pos; omega
theorem Cr.lenP : ∀ l : List (Int × Cr), l.length ≤ Cr.bulkP l
  | [] => by simp
  | (h, x) :: r => by rw [Cr.bulkP, List.length_cons]; have := Cr.lenP r; have := x.bulk_pos; omega
theorem Cr.sm_of_bulk (x : Cr) (h : x.bulk ≤ 1048576) : x.Sm := by
  induction x using Cr.ind with
  | _ k nm n ar ps gs al bs pk h1 h2 h3 h4 =>
    rw [Cr.bulk] at h
    have := Cr.lenL gs; have := Cr.lenA al; have := Cr.lenB bs; have := Cr.lenP pk
    refine .mk (by omega) (by omega) (by omega) (by omega) (by omega) (fun x hx => h1 x hx ?_) (fun x hx => h2 x hx ?_) (fun x hx => ?_) (fun x hx => h3 x hx ?_) (fun x hx => h4 x hx ?_)
    · have := Cr.bulkL_le hx; omega
    · have := Cr.bulkA_le hx; omega
    · have := Cr.bulkA_le hx; omega
    · have := Cr.bulkB_le hx; omega
    · have := Cr.bulkP_le hx; omega

/-! ### Shapes: each function has one part -/
inductive Cr.Sh : Cr → Prop
  | mk {k : Int} {nm : ByteArray} {n ar : Int} {ps : List ByteArray} {gs : List Cr} {al : List (AltH × Cr)} {bs : List (ByteArray × Cr)} {pk : List (Int × Cr)} (h : k = 6 → gs.length = 1)
    (h1 : ∀ x, x ∈ gs → Cr.Sh x) (h2 : ∀ x, x ∈ al → Cr.Sh x.2) (h3 : ∀ x, x ∈ bs → Cr.Sh x.2) (h4 : ∀ x, x ∈ pk → Cr.Sh x.2) : Cr.Sh (.mk k nm n ar ps gs al bs pk)
/-! ### What is free -/

/-! ### What is made -/
/-- A supercombinator. -/
structure Sup where
  nm : ByteArray
  ps : List ByteArray
  bd : Cr
def Cr.zero : Cr := .mk 0 ⟨#[]⟩ 0 0 [] [] [] [] []
def Cr.app (f a : Cr) : Cr := .mk 5 ⟨#[]⟩ 0 0 [] [f, a] [] [] []
end Go.AL
/- Numbers read: some number, some fault. -/
set_option linter.unusedVariables false
set_option linter.unusedSimpArgs false
namespace Go.AL
/-- Some number and some fault. -/
def TwoInts (r : AV) : Prop := ∃ n e : Int, r = .tuple [.int .i64 n, .int .i64 e]
@[congr] theorem TwoInts_congr {w : Prop} (hw : Visit = w) {r r' : AV} (h : r = r') : TwoInts r = TwoInts r' := by rw [h]
theorem TwoInts.mk (n e : Int) : TwoInts (.tuple [.int .i64 n, .int .i64 e]) := ⟨n, e, rfl⟩
end Go.AL
namespace Go.Proofs.Ytjjbjibbjbbeaaa
open Go.AL
theorem parse_ok (s : ByteArray) (σ : Store) : ACalls Try.prog 141 [.str s] σ fun r σ' => TwoInts r ∧ σ' = σ := by
  refine in141 (by simp) ?_
  unfold c141
  try simp only [ZZ, ↓reduceIte, Nat.reduceEqDiff, Nat.reduceAdd, Nat.reduceLeDiff, reduceCtorEq, Int.reduceEq, Int.reduceLT, Int.reduceLE, Int.reduceNeg, Int.reduceAdd, Int.reduceSub, Int.reduceToNat]
  iterate 5 ((with_reducible first | refine W1 ?_ | refine W2 ?_ | refine W3 ?_ | refine W4 ?_ | refine W5 ?_ | refine W6 ?_ | refine W7 ?_ | refine W8 ?_ | refine W9 ?_); refine unr ?_; try simp only [ZZ, ↓reduceIte, Nat.reduceEqDiff, Nat.reduceAdd, Nat.reduceLeDiff, reduceCtorEq, Int.reduceEq, Int.reduceLT, Int.reduceLE, Int.reduceNeg, Int.reduceAdd, Int.reduceSub, Int.reduceToNat])
  refine AWP_cut [0, 2, 3, 4, 5] (fun b : Bool => [.str s, .int .i64 0, .int .i64 0, .str s, .bool b]) (fun b t => t = σ ∧ (b = true → 0 < s.size)) ?_ ?_
  · refine raw ?_
    repeat' (first | (with_reducible refine unr ?_; try simp only [ZZ, ↓reduceIte, Nat.reduceEqDiff, Nat.reduceAdd, Nat.reduceLeDiff, reduceCtorEq, Int.reduceEq, Int.reduceLT, Int.reduceLE, Int.reduceNeg, Int.reduceAdd, Int.reduceSub, Int.reduceToNat, str_nil, *]) | (with_reducible first | refine W1 ?_ | refine W2 ?_ | refine W3 ?_ | refine W4 ?_ | refine W5 ?_ | refine W6 ?_ | refine W7 ?_ | refine W8 ?_ | refine W9 ?_ | refine ok_idx (by first | assumption | omega) (fun b hb => raw ?_) | refine ok_iad (by first | assumption | omega) (fun x hx hxm => raw ?_) | refine And.intro (by omega) (raw ?_) | (refine guardW_b (fun h => raw ?_) (fun h => raw ?_) <;> try simp only [Ty] at h) | (refine ePick_b (fun h => raw ?_) (fun h => raw ?_) <;> try simp only [Ty] at h) | (refine condW_b (fun h => raw ?_) (fun h => raw ?_) <;> try simp only [Ty] at h)))
    · exact ⟨_, rfl, by simp; omega⟩
    · exact ⟨_, rfl, by simp⟩
  rintro b t ⟨rfl, hb⟩
  refine AWP_cut [0, 2, 3, 4, 5] (fun x : ByteArray => [.str s, .int .i64 0, .int .i64 0, .str x, .bool b]) (fun x s => s = t) ?_ ?_
  · refine raw ?_
    repeat' (first | (with_reducible refine unr ?_; try simp only [ZZ, ↓reduceIte, Nat.reduceEqDiff, Nat.reduceAdd, Nat.reduceLeDiff, reduceCtorEq, Int.reduceEq, Int.reduceLT, Int.reduceLE, Int.reduceNeg, Int.reduceAdd, Int.reduceSub, Int.reduceToNat, str_nil, *]) | (with_reducible first | refine W1 ?_ | refine W2 ?_ | refine W3 ?_ | refine W4 ?_ | refine W5 ?_ | refine W6 ?_ | refine W7 ?_ | refine W8 ?_ | refine W9 ?_ | refine ok_idx (by first | assumption | omega) (fun b hb => raw ?_) | refine ok_iad (by first | assumption | omega) (fun x hx hxm => raw ?_) | refine And.intro (by omega) (raw ?_) | (refine guardW_b (fun h => raw ?_) (fun h => raw ?_) <;> try simp only [Ty] at h) | (refine ePick_b (fun h => raw ?_) (fun h => raw ?_) <;> try simp only [Ty] at h) | (refine condW_b (fun h => raw ?_) (fun h => raw ?_) <;> try simp only [Ty] at h)))
    · have := hb h
      simp only [h] at *
      refine raw ?_
      repeat' (first | (with_reducible refine unr ?_; try simp only [ZZ, ↓reduceIte, Nat.reduceEqDiff, Nat.reduceAdd, Nat.reduceLeDiff, reduceCtorEq, Int.reduceEq, Int.reduceLT, Int.reduceLE, Int.reduceNeg, Int.reduceAdd, Int.reduceSub, Int.reduceToNat, str_nil, *]) | (with_reducible first | refine W1 ?_ | refine W2 ?_ | refine W3 ?_ | refine W4 ?_ | refine W5 ?_ | refine W6 ?_ | refine W7 ?_ | refine W8 ?_ | refine W9 ?_ | refine ok_idx (by first | assumption | omega) (fun b hb => raw ?_) | refine ok_iad (by first | assumption | omega) (fun x hx hxm => raw ?_) | refine And.intro (by omega) (raw ?_) | (refine guardW_b (fun h => raw ?_) (fun h => raw ?_) <;> try simp only [Ty] at h) | (refine ePick_b (fun h => raw ?_) (fun h => raw ?_) <;> try simp only [Ty] at h) | (refine condW_b (fun h => raw ?_) (fun h => raw ?_) <;> try simp only [Ty] at h)))
      exact ⟨_, rfl⟩
    · exact ⟨_, rfl⟩
  rintro x t rfl
  refine AWP_cut [0, 2, 3, 4, 5] (fun z : Unit => [.str s, .int .i64 0, .int .i64 0, .str x, .bool b]) (fun z s => s = t ∧ x.size ≤ 19) ?_ ?_
  · refine raw ?_
    repeat' (first | (with_reducible refine unr ?_; try simp only [ZZ, ↓reduceIte, Nat.reduceEqDiff, Nat.reduceAdd, Nat.reduceLeDiff, reduceCtorEq, Int.reduceEq, Int.reduceLT, Int.reduceLE, Int.reduceNeg, Int.reduceAdd, Int.reduceSub, Int.reduceToNat, str_nil, *]) | (with_reducible first | refine W1 ?_ | refine W2 ?_ | refine W3 ?_ | refine W4 ?_ | refine W5 ?_ | refine W6 ?_ | refine W7 ?_ | refine W8 ?_ | refine W9 ?_ | refine ok_idx (by first | assumption | omega) (fun b hb => raw ?_) | refine ok_iad (by first | assumption | omega) (fun x hx hxm => raw ?_) | refine And.intro (by omega) (raw ?_) | (refine guardW_b (fun h => raw ?_) (fun h => raw ?_) <;> try simp only [Ty] at h) | (refine ePick_b (fun h => raw ?_) (fun h => raw ?_) <;> try simp only [Ty] at h) | (refine condW_b (fun h => raw ?_) (fun h => raw ?_) <;> try simp only [Ty] at h)))
    all_goals first
      | exact .mk _ _
      | exact ⟨(), by omega⟩
  rintro _ t ⟨rfl, hx⟩
  refine raw ?_
  repeat (first | (with_reducible refine unr ?_; try simp only [ZZ, ↓reduceIte, Nat.reduceEqDiff, Nat.reduceAdd, Nat.reduceLeDiff, reduceCtorEq, Int.reduceEq, Int.reduceLT, Int.reduceLE, Int.reduceNeg, Int.reduceAdd, Int.reduceSub, Int.reduceToNat]) | (with_reducible first | refine W1 ?_ | refine W2 ?_ | refine W3 ?_ | refine W4 ?_ | refine W5 ?_ | refine W6 ?_ | refine W7 ?_ | refine W8 ?_ | refine W9 ?_))
  refine AWP_while [0, 4, 5, 6, 7, 8] (fun y : Int × Nat => x.size - y.2) (fun y => [.str s, .str x, .bool b, .int .u64 y.1, .bool true, .int .i64 y.2]) (fun y s => s = t ∧ y.2 ≤ x.size) (0, 0) ⟨rfl, by simp⟩ ?_ ?_
  · refine raw ?_
    repeat (first | (with_reducible refine unr ?_; try simp only [ZZ, ↓reduceIte, Nat.reduceEqDiff, Nat.reduceAdd, Nat.reduceLeDiff, reduceCtorEq, Int.reduceEq, Int.reduceLT, Int.reduceLE, Int.reduceNeg, Int.reduceAdd, Int.reduceSub, Int.reduceToNat]) | (with_reducible first | refine W1 ?_ | refine W2 ?_ | refine W3 ?_ | refine W4 ?_ | refine W5 ?_ | refine W6 ?_ | refine W7 ?_ | refine W8 ?_ | refine W9 ?_))
    rfl
  rintro ⟨a, i⟩ t ⟨rfl, hi⟩
  simp only at hi
  have hw := wrap_succ (i := i) (by omega)
  refine raw ?_
  repeat' (first | (with_reducible refine unr ?_; try simp only [ZZ, ↓reduceIte, Nat.reduceEqDiff, Nat.reduceAdd, Nat.reduceLeDiff, reduceCtorEq, Int.reduceEq, Int.reduceLT, Int.reduceLE, Int.reduceNeg, Int.reduceAdd, Int.reduceSub, Int.reduceToNat, str_nil, *]) | (with_reducible first | refine W1 ?_ | refine W2 ?_ | refine W3 ?_ | refine W4 ?_ | refine W5 ?_ | refine W6 ?_ | refine W7 ?_ | refine W8 ?_ | refine W9 ?_ | refine ok_idx (by first | assumption | omega) (fun b hb => raw ?_) | refine ok_iad (by first | assumption | omega) (fun x hx hxm => raw ?_) | refine And.intro (by omega) (raw ?_) | (refine guardW_b (fun h => raw ?_) (fun h => raw ?_) <;> try simp only [Ty] at h) | (refine ePick_b (fun h => raw ?_) (fun h => raw ?_) <;> try simp only [Ty] at h) | (refine condW_b (fun h => raw ?_) (fun h => raw ?_) <;> try simp only [Ty] at h)))
  all_goals first
    | exact .mk _ _
    | exact ⟨(_, i + 1), rfl, by simp only; omega, by simp only; omega⟩
end Go.Proofs.Ytjjbjibbjbbeaaa
/- Local names, names joined. -/
set_option linter.unusedVariables false
set_option linter.unusedSimpArgs false
namespace Go.AL
/-- Some truth. -/
def SomeB (r : AV) : Prop := ∃ b : Bool, r = .bool b
@[congr] theorem SomeB_congr {w : Prop} (hw : Visit = w) {r r' : AV} (h : r = r') : SomeB r = SomeB r' := by rw [h]
theorem SomeB.mk (b : Bool) : SomeB (.bool b) := ⟨b, rfl⟩
theorem SomeB.out {r : AV} (h : SomeB r) : ∃ b : Bool, r = .bool b ∧ True := by obtain ⟨b, h⟩ := h; exact ⟨b, h, trivial⟩
theorem map_take' {α β : Type} (f : α → β) (l : List α) (i : Nat) : List.take i (l.map f) = (l.take i).map f := List.map_take.symm
theorem map_drop' {α β : Type} (f : α → β) (l : List α) (i : Nat) : List.drop i (l.map f) = (l.drop i).map f := List.map_drop.symm
theorem Cr.take9 (x : Cr) : List.take 9 x.cells = x.cells := List.take_of_length_le (by rw [x.len]; omega)
theorem mem_strs {l : List ByteArray} {q : List AV} (h : q ∈ l.map fun s => [AV.str s]) : q.length = 1 := by
  obtain ⟨x, _, rfl⟩ := List.mem_map.1 h; rfl
theorem all_strs (l : List ByteArray) : (∀ q, q ∈ (l.map fun s => [AV.str s]) → q.length = 1) = True := by
  simp
end Go.AL
namespace Go.Proofs.Ytjjbjibbjbbeaaa
open Go.AL
theorem parse' (s : ByteArray) (σ : Store) : ACalls Try.prog 141 [.str s] σ fun r σ' => (∃ p : Int × Int, r = .tuple [.int .i64 p.1, .int .i64 p.2] ∧ True) ∧ σ' = σ :=
  (parse_ok s σ).mono fun r t ⟨⟨a, b, h⟩, h2⟩ => ⟨⟨(a, b), h, trivial⟩, h2⟩
theorem contains_strs (l : List ByteArray) (hl : l.length ≤ 9223372036854775806) (k : ByteArray) (σ : Store) : ACalls Try.prog 85 [strs l, .str k] σ fun r σ' => r = .bool (@decide (k ∈ l) (Classical.propDecidable _)) ∧ σ' = σ :=
  contains_ok (l := l) (v := strs l) (.list σ (fun q hq => mem_strs hq)) hl k
theorem local_ok (s : ByteArray) (σ : Store) : ACalls Try.prog 154 [.str s] σ fun r σ' => SomeB r ∧ σ' = σ := by
  refine in154 (by simp) ?_
  unfold c154
  refine raw ?_
  repeat' (first | (with_reducible refine unr ?_; try simp only [ZZ, ↓reduceIte, Nat.reduceEqDiff, Nat.reduceAdd, Nat.reduceLeDiff, reduceCtorEq, Int.reduceEq, Int.reduceLT, Int.reduceLE, Int.reduceNeg, Int.reduceAdd, Int.reduceSub, Int.reduceToNat, str_nil, *]) | (with_reducible first | refine W1 ?_ | refine W2 ?_ | refine W3 ?_ | refine W4 ?_ | refine W5 ?_ | refine W6 ?_ | refine W7 ?_ | refine W8 ?_ | refine W9 ?_ | refine ok_idx (by first | assumption | omega) (fun b hb => raw ?_) | refine ok_iad (by first | assumption | omega) (fun x hx hxm => raw ?_) | refine And.intro (by omega) (raw ?_) | (refine guardW_b (fun h => raw ?_) (fun h => raw ?_) <;> try simp only [Ty] at h) | (refine ePick_b (fun h => raw ?_) (fun h => raw ?_) <;> try simp only [Ty] at h) | (refine condW_b (fun h => raw ?_) (fun h => raw ?_) <;> try simp only [Ty] at h) | (refine (hasPrefix_ok _ _ _).mono ?_; rintro _ _ ⟨⟨b, rfl, hb⟩, rfl⟩; refine raw ?_) | (refine (parse' _ _).mono ?_; rintro _ _ ⟨⟨b, rfl, hb⟩, rfl⟩; refine raw ?_)))
  all_goals first
    | exact .mk _
    | skip
  rename_i b1 hb1 h1 σ1
  have h35 : (⟨#[35]⟩ : ByteArray).size = 1 := rfl
  have hs : (1 : Int) ≤ (s.size : Int) := by have := hb1 h1; omega
  refine raw ?_
  repeat' (first | (with_reducible refine unr ?_; try simp only [ZZ, ↓reduceIte, Nat.reduceEqDiff, Nat.reduceAdd, Nat.reduceLeDiff, reduceCtorEq, Int.reduceEq, Int.reduceLT, Int.reduceLE, Int.reduceNeg, Int.reduceAdd, Int.reduceSub, Int.reduceToNat, str_nil, *]) | (with_reducible first | refine W1 ?_ | refine W2 ?_ | refine W3 ?_ | refine W4 ?_ | refine W5 ?_ | refine W6 ?_ | refine W7 ?_ | refine W8 ?_ | refine W9 ?_ | refine ok_idx (by first | assumption | omega) (fun b hb => raw ?_) | refine ok_iad (by first | assumption | omega) (fun x hx hxm => raw ?_) | refine And.intro (by omega) (raw ?_) | (refine guardW_b (fun h => raw ?_) (fun h => raw ?_) <;> try simp only [Ty] at h) | (refine ePick_b (fun h => raw ?_) (fun h => raw ?_) <;> try simp only [Ty] at h) | (refine condW_b (fun h => raw ?_) (fun h => raw ?_) <;> try simp only [Ty] at h) | (refine (parse' _ _).mono ?_; rintro _ _ ⟨⟨b, rfl, hb⟩, rfl⟩; refine raw ?_)))
  exact .mk _
theorem local' (s : ByteArray) (σ : Store) : ACalls Try.prog 154 [.str s] σ fun r σ' => (∃ b : Bool, r = .bool b ∧ True) ∧ σ' = σ := (local_ok s σ).mono fun _ _ h => ⟨h.1.out, h.2⟩
theorem joined_ok (a b : List ByteArray) (ha : a.length + b.length ≤ 100000000) (σ : Store) : ACalls Try.prog 143 [strs a, strs b] σ fun r σ' => r = strs (a ++ b) ∧ σ' = σ := by
  refine ACalls_fp (p := fun r => r = strs (a ++ b)) ?_
  refine in143 (by simp) ?_
  unfold c143
  refine raw ?_
  repeat (first | (with_reducible refine unr ?_; try simp only [ZZ, ↓reduceIte, Nat.reduceEqDiff, Nat.reduceAdd, Nat.reduceLeDiff, reduceCtorEq, Int.reduceEq, Int.reduceLT, Int.reduceLE, Int.reduceNeg, Int.reduceAdd, Int.reduceSub, Int.reduceToNat]) | (with_reducible first | refine W1 ?_ | refine W2 ?_ | refine W3 ?_ | refine W4 ?_ | refine W5 ?_ | refine W6 ?_ | refine W7 ?_ | refine W8 ?_ | refine W9 ?_))
  refine ok_grow (.start σ 9 1) (by intro q hq; exact mem_strs hq) (by simp; omega) (by simp [maxLen]; omega) ?_
  intro v s1 hG _ _
  refine raw ?_
  repeat (first | (with_reducible refine unr ?_; try simp only [ZZ, ↓reduceIte, Nat.reduceEqDiff, Nat.reduceAdd, Nat.reduceLeDiff, reduceCtorEq, Int.reduceEq, Int.reduceLT, Int.reduceLE, Int.reduceNeg, Int.reduceAdd, Int.reduceSub, Int.reduceToNat]) | (with_reducible first | refine W1 ?_ | refine W2 ?_ | refine W3 ?_ | refine W4 ?_ | refine W5 ?_ | refine W6 ?_ | refine W7 ?_ | refine W8 ?_ | refine W9 ?_))
  refine ok_grow hG (by intro q hq; exact mem_strs hq) (by simp; omega) (by simp [maxLen]; omega) ?_
  intro v2 s2 hG2 _ _
  refine raw ?_
  repeat (first | (with_reducible refine unr ?_; try simp only [ZZ, ↓reduceIte, Nat.reduceEqDiff, Nat.reduceAdd, Nat.reduceLeDiff, reduceCtorEq, Int.reduceEq, Int.reduceLT, Int.reduceLE, Int.reduceNeg, Int.reduceAdd, Int.reduceSub, Int.reduceToNat]) | (with_reducible first | refine W1 ?_ | refine W2 ?_ | refine W3 ?_ | refine W4 ?_ | refine W5 ?_ | refine W6 ?_ | refine W7 ?_ | refine W8 ?_ | refine W9 ?_))
  exact FP.mk (strs (a ++ b)) (by simpa using hG2.sl) .here rfl (cln_strs _) hG2.kp hG2.fresh
theorem locals_ok (l : List ByteArray) (hl : l.length ≤ 100000000) (σ : Store) : ACalls Try.prog 111 [strs l] σ fun r σ' => SomeB r ∧ σ' = σ := by
  refine in111 (by simp) ?_
  unfold c111
  refine raw ?_
  repeat (first | (with_reducible refine unr ?_; try simp only [ZZ, ↓reduceIte, Nat.reduceEqDiff, Nat.reduceAdd, Nat.reduceLeDiff, reduceCtorEq, Int.reduceEq, Int.reduceLT, Int.reduceLE, Int.reduceNeg, Int.reduceAdd, Int.reduceSub, Int.reduceToNat]) | (with_reducible first | refine W1 ?_ | refine W2 ?_ | refine W3 ?_ | refine W4 ?_ | refine W5 ?_ | refine W6 ?_ | refine W7 ?_ | refine W8 ?_ | refine W9 ?_))
  refine AWP_while [0, 5, 6, 7] (fun i : Nat => l.length - i) (fun i => [strs l, strs l, .int .i64 l.length, .int .i64 i]) (fun i t => t = σ ∧ i ≤ l.length) 0 ⟨rfl, by simp⟩ ?_ ?_
  · refine raw ?_
    repeat (first | (with_reducible refine unr ?_; try simp only [ZZ, ↓reduceIte, Nat.reduceEqDiff, Nat.reduceAdd, Nat.reduceLeDiff, reduceCtorEq, Int.reduceEq, Int.reduceLT, Int.reduceLE, Int.reduceNeg, Int.reduceAdd, Int.reduceSub, Int.reduceToNat]) | (with_reducible first | refine W1 ?_ | refine W2 ?_ | refine W3 ?_ | refine W4 ?_ | refine W5 ?_ | refine W6 ?_ | refine W7 ?_ | refine W8 ?_ | refine W9 ?_))
    rfl
  rintro i t ⟨rfl, hi⟩
  have hw := wrap_succ (i := i) (by omega)
  refine raw ?_
  repeat' (first | (with_reducible refine unr ?_; try simp only [ZZ, ↓reduceIte, Nat.reduceEqDiff, Nat.reduceAdd, Nat.reduceLeDiff, reduceCtorEq, Int.reduceEq, Int.reduceLT, Int.reduceLE, Int.reduceNeg, Int.reduceAdd, Int.reduceSub, Int.reduceToNat, all_strs, map_take', map_drop', str_nil, *]) | (with_reducible first | refine W1 ?_ | refine W2 ?_ | refine W3 ?_ | refine W4 ?_ | refine W5 ?_ | refine W6 ?_ | refine W7 ?_ | refine W8 ?_ | refine W9 ?_ | refine ok_idx (by first | assumption | omega) (fun b hb => raw ?_) | refine ok_iad (by first | assumption | omega) (fun x hx hxm => raw ?_) | refine And.intro (by omega) (raw ?_) | (refine guardW_b (fun h => raw ?_) (fun h => raw ?_) <;> try simp only [Ty] at h) | (refine ePick_b (fun h => raw ?_) (fun h => raw ?_) <;> try simp only [Ty] at h) | (refine condW_b (fun h => raw ?_) (fun h => raw ?_) <;> try simp only [Ty] at h) | (refine (local' _ _).mono ?_; rintro _ _ ⟨⟨b, rfl, hb⟩, rfl⟩; refine raw ?_) | (refine (contains_strs _ (by simp; omega) _ _).mono ?_; rintro _ _ ⟨rfl, rfl⟩; refine raw ?_)))
  all_goals first
    | exact .mk _
    | exact ⟨i + 1, rfl, by omega, by omega⟩
theorem names_ok (l : List (ByteArray × Cr)) (hl : l.length ≤ 100000000) (σ : Store) : ACalls Try.prog 136 [.list (l.map bindC)] σ fun r σ' => r = strs (l.map (·.1)) ∧ σ' = σ := by
  refine ACalls_fp (p := fun r => r = strs (l.map (·.1))) ?_
  refine in136 (by simp) ?_
  unfold c136
  refine raw ?_
  repeat (first | (with_reducible refine unr ?_; try simp only [ZZ, ↓reduceIte, Nat.reduceEqDiff, Nat.reduceAdd, Nat.reduceLeDiff, reduceCtorEq, Int.reduceEq, Int.reduceLT, Int.reduceLE, Int.reduceNeg, Int.reduceAdd, Int.reduceSub, Int.reduceToNat]) | (with_reducible first | refine W1 ?_ | refine W2 ?_ | refine W3 ?_ | refine W4 ?_ | refine W5 ?_ | refine W6 ?_ | refine W7 ?_ | refine W8 ?_ | refine W9 ?_))
  refine AWP_while [0, 3, 6, 7, 8] (fun y : AV × Nat => l.length - y.2) (fun y => [.list (l.map bindC), y.1, .list (l.map bindC), .int .i64 l.length, .int .i64 y.2])
    (fun y t => y.2 ≤ l.length ∧ Grow σ t y.1 9 1 ((l.take y.2).map fun x => [.str x.1])) (.nils, 0) ⟨by simp, .start _ _ _⟩ ?_ ?_
  · refine raw ?_
    repeat (first | (with_reducible refine unr ?_; try simp only [ZZ, ↓reduceIte, Nat.reduceEqDiff, Nat.reduceAdd, Nat.reduceLeDiff, reduceCtorEq, Int.reduceEq, Int.reduceLT, Int.reduceLE, Int.reduceNeg, Int.reduceAdd, Int.reduceSub, Int.reduceToNat]) | (with_reducible first | refine W1 ?_ | refine W2 ?_ | refine W3 ?_ | refine W4 ?_ | refine W5 ?_ | refine W6 ?_ | refine W7 ?_ | refine W8 ?_ | refine W9 ?_))
    rfl
  rintro ⟨v, i⟩ t ⟨hi, hG⟩
  simp only at hi hG
  have hw := wrap_succ (i := i) (by omega)
  refine raw ?_
  repeat' (first | (with_reducible refine unr ?_; try simp only [ZZ, ↓reduceIte, Nat.reduceEqDiff, Nat.reduceAdd, Nat.reduceLeDiff, reduceCtorEq, Int.reduceEq, Int.reduceLT, Int.reduceLE, Int.reduceNeg, Int.reduceAdd, Int.reduceSub, Int.reduceToNat, bindC, Cr.len, Cr.take9, str_nil, *]) | (with_reducible first | refine W1 ?_ | refine W2 ?_ | refine W3 ?_ | refine W4 ?_ | refine W5 ?_ | refine W6 ?_ | refine W7 ?_ | refine W8 ?_ | refine W9 ?_ | refine ok_idx (by first | assumption | omega) (fun b hb => raw ?_) | refine ok_iad (by first | assumption | omega) (fun x hx hxm => raw ?_) | refine And.intro (by omega) (raw ?_) | (refine guardW_b (fun h => raw ?_) (fun h => raw ?_) <;> try simp only [Ty] at h) | (refine ePick_b (fun h => raw ?_) (fun h => raw ?_) <;> try simp only [Ty] at h) | (refine condW_b (fun h => raw ?_) (fun h => raw ?_) <;> try simp only [Ty] at h)))
  · refine ok_grow (hG.push _) (es2 := [[.str x.1]]) (by simp) (by simp; omega) (by simp [maxLen]; omega) ?_
    intro v' t3 hG3 _ _
    refine raw ?_
    repeat (first | (with_reducible refine unr ?_; try simp only [ZZ, ↓reduceIte, Nat.reduceEqDiff, Nat.reduceAdd, Nat.reduceLeDiff, reduceCtorEq, Int.reduceEq, Int.reduceLT, Int.reduceLE, Int.reduceNeg, Int.reduceAdd, Int.reduceSub, Int.reduceToNat, hw]) | (with_reducible first | refine W1 ?_ | refine W2 ?_ | refine W3 ?_ | refine W4 ?_ | refine W5 ?_ | refine W6 ?_ | refine W7 ?_ | refine W8 ?_ | refine W9 ?_))
    refine ⟨(v', i + 1), rfl, ⟨by simp only; omega, ?_⟩, by simp only; omega⟩
    have : (l.take (i + 1)).map (fun x => [AV.str x.1]) = (l.take i).map (fun x => [AV.str x.1]) ++ [[AV.str x.1]] := by rw [List.take_add_one, hx]; simp
    simp only [this]; exact hG3
  · rw [List.take_of_length_le (by omega)] at hG
    exact FP.mk (strs (l.map (·.1))) (by simpa [Function.comp_def] using hG.sl) .here rfl (cln_strs _) hG.kp hG.fresh
end Go.Proofs.Ytjjbjibbjbbeaaa
/- The last # of a text; names of operators. -/
set_option linter.unusedVariables false
set_option linter.unusedSimpArgs false
namespace Go.AL
/-- Some text. -/
def SomeS (r : AV) : Prop := ∃ b : ByteArray, r = .str b
@[congr] theorem SomeS_congr {w : Prop} (hw : Visit = w) {r r' : AV} (h : r = r') : SomeS r = SomeS r' := by rw [h]
theorem SomeS.mk (b : ByteArray) : SomeS (.str b) := ⟨b, rfl⟩
theorem SomeS.out {r : AV} (h : SomeS r) : ∃ b : ByteArray, r = .str b ∧ True := by obtain ⟨b, h⟩ := h; exact ⟨b, h, trivial⟩
/-- Some number, no less than -1 and below a bound. -/
def Below (n : Nat) (r : AV) : Prop := ∃ b : Int, r = .int .i64 b ∧ -1 ≤ b ∧ b < n
@[congr] theorem Below_congr {w : Prop} (hw : Visit = w) {n : Nat} {r r' : AV} (h : r = r') : Below n r = Below n r' := by rw [h]
/-- Some number. -/
def SomeI (r : AV) : Prop := ∃ b : Int, r = .int .i64 b
@[congr] theorem SomeI_congr {w : Prop} (hw : Visit = w) {r r' : AV} (h : r = r') : SomeI r = SomeI r' := by rw [h]
theorem SomeI.mk (b : Int) : SomeI (.int .i64 b) := ⟨b, rfl⟩
theorem SomeI.out {r : AV} (h : SomeI r) : ∃ b : Int, r = .int .i64 b ∧ True := by obtain ⟨b, h⟩ := h; exact ⟨b, h, trivial⟩
end Go.AL
namespace Go.Proofs.Ytjjbjibbjbbeaaa
open Go.AL
theorem opName_ok (n : Int) (σ : Store) : ACalls Try.prog 110 [.int .i64 n] σ fun r σ' => SomeS r ∧ σ' = σ := by
  refine in110 (by simp) ?_
  unfold c110
  refine raw ?_
  repeat' (first | (with_reducible refine unr ?_; try simp only [ZZ, ↓reduceIte, Nat.reduceEqDiff, Nat.reduceAdd, Nat.reduceLeDiff, reduceCtorEq, Int.reduceEq, Int.reduceLT, Int.reduceLE, Int.reduceNeg, Int.reduceAdd, Int.reduceSub, Int.reduceToNat, str_nil, *]) | (with_reducible first | refine W1 ?_ | refine W2 ?_ | refine W3 ?_ | refine W4 ?_ | refine W5 ?_ | refine W6 ?_ | refine W7 ?_ | refine W8 ?_ | refine W9 ?_ | refine ok_idx (by first | assumption | omega) (fun b hb => raw ?_) | refine ok_iad (by first | assumption | omega) (fun x hx hxm => raw ?_) | refine And.intro (by omega) (raw ?_) | (refine guardW_b (fun h => raw ?_) (fun h => raw ?_) <;> try simp only [Ty] at h) | (refine ePick_b (fun h => raw ?_) (fun h => raw ?_) <;> try simp only [Ty] at h) | (refine condW_b (fun h => raw ?_) (fun h => raw ?_) <;> try simp only [Ty] at h)))
  all_goals exact .mk _
theorem opName' (n : Int) (σ : Store) : ACalls Try.prog 110 [.int .i64 n] σ fun r σ' => (∃ b : ByteArray, r = .str b ∧ True) ∧ σ' = σ := (opName_ok n σ).mono fun _ _ h => ⟨h.1.out, h.2⟩
theorem op_ok (s : ByteArray) (σ : Store) : ACalls Try.prog 83 [.str s] σ fun r σ' => SomeI r ∧ σ' = σ := by
  refine in83 (by simp) ?_
  unfold c83
  refine raw ?_
  repeat' (first | (with_reducible refine unr ?_; try simp only [ZZ, ↓reduceIte, Nat.reduceEqDiff, Nat.reduceAdd, Nat.reduceLeDiff, reduceCtorEq, Int.reduceEq, Int.reduceLT, Int.reduceLE, Int.reduceNeg, Int.reduceAdd, Int.reduceSub, Int.reduceToNat, str_nil, *]) | (with_reducible first | refine W1 ?_ | refine W2 ?_ | refine W3 ?_ | refine W4 ?_ | refine W5 ?_ | refine W6 ?_ | refine W7 ?_ | refine W8 ?_ | refine W9 ?_ | refine ok_idx (by first | assumption | omega) (fun b hb => raw ?_) | refine ok_iad (by first | assumption | omega) (fun x hx hxm => raw ?_) | refine And.intro (by omega) (raw ?_) | (refine guardW_b (fun h => raw ?_) (fun h => raw ?_) <;> try simp only [Ty] at h) | (refine ePick_b (fun h => raw ?_) (fun h => raw ?_) <;> try simp only [Ty] at h) | (refine condW_b (fun h => raw ?_) (fun h => raw ?_) <;> try simp only [Ty] at h)))
  · exact .mk _
  refine AWP_while [0, 3] (fun i : Nat => 12 - i) (fun i => [.str s, .int .i64 i]) (fun i t => t = σ ∧ i ≤ 12) 1 ⟨rfl, by simp⟩ ?_ ?_
  · refine raw ?_
    repeat (first | (with_reducible refine unr ?_; try simp only [ZZ, ↓reduceIte, Nat.reduceEqDiff, Nat.reduceAdd, Nat.reduceLeDiff, reduceCtorEq, Int.reduceEq, Int.reduceLT, Int.reduceLE, Int.reduceNeg, Int.reduceAdd, Int.reduceSub, Int.reduceToNat]) | (with_reducible first | refine W1 ?_ | refine W2 ?_ | refine W3 ?_ | refine W4 ?_ | refine W5 ?_ | refine W6 ?_ | refine W7 ?_ | refine W8 ?_ | refine W9 ?_))
    rfl
  rintro i t ⟨rfl, hi⟩
  have hw := wrap_succ (i := i) (by omega)
  refine raw ?_
  repeat' (first | (with_reducible refine unr ?_; try simp only [ZZ, ↓reduceIte, Nat.reduceEqDiff, Nat.reduceAdd, Nat.reduceLeDiff, reduceCtorEq, Int.reduceEq, Int.reduceLT, Int.reduceLE, Int.reduceNeg, Int.reduceAdd, Int.reduceSub, Int.reduceToNat, str_nil, *]) | (with_reducible first | refine W1 ?_ | refine W2 ?_ | refine W3 ?_ | refine W4 ?_ | refine W5 ?_ | refine W6 ?_ | refine W7 ?_ | refine W8 ?_ | refine W9 ?_ | refine ok_idx (by first | assumption | omega) (fun b hb => raw ?_) | refine ok_iad (by first | assumption | omega) (fun x hx hxm => raw ?_) | refine And.intro (by omega) (raw ?_) | (refine guardW_b (fun h => raw ?_) (fun h => raw ?_) <;> try simp only [Ty] at h) | (refine ePick_b (fun h => raw ?_) (fun h => raw ?_) <;> try simp only [Ty] at h) | (refine condW_b (fun h => raw ?_) (fun h => raw ?_) <;> try simp only [Ty] at h) | (refine (opName' _ _).mono ?_; rintro _ _ ⟨⟨b, rfl, hb⟩, rfl⟩; refine raw ?_)))
  all_goals first
    | exact .mk _
    | exact ⟨i + 1, rfl, by omega, by omega⟩
theorem op' (s : ByteArray) (σ : Store) : ACalls Try.prog 83 [.str s] σ fun r σ' => (∃ b : Int, r = .int .i64 b ∧ True) ∧ σ' = σ := (op_ok s σ).mono fun _ _ h => ⟨h.1.out, h.2⟩
end Go.Proofs.Ytjjbjibbjbbeaaa
/- Which expressions may be: each function among them has one part. -/
set_option linter.unusedVariables false
set_option linter.unusedSimpArgs false
namespace Go.AL
theorem row5_eq (a b c d e a' b' c' d' e' : Int) : aBin (.row [.int, .int, .int, .int, .int]) .eql (.agg [.int .i64 a, .int .i64 b, .int .i64 c, .int .i64 d, .int .i64 e]) (.agg [.int .i64 a', .int .i64 b', .int .i64 c', .int .i64 d', .int .i64 e']) =
    some (.bool (decide (a = a' ∧ b = b' ∧ c = c' ∧ d = d' ∧ e = e'))) := by simp [aBin, eqFs, eq1]
theorem row5_ne (a b c d e a' b' c' d' e' : Int) : aBin (.row [.int, .int, .int, .int, .int]) .neq (.agg [.int .i64 a, .int .i64 b, .int .i64 c, .int .i64 d, .int .i64 e]) (.agg [.int .i64 a', .int .i64 b', .int .i64 c', .int .i64 d', .int .i64 e']) =
    some (.bool (!decide (a = a' ∧ b = b' ∧ c = c' ∧ d = d' ∧ e = e'))) := by simp [aBin, eqFs, eq1]
/-- Some truth; if so, each function among the parts has one part. -/
def RB (p : Prop) (r : AV) : Prop := ∃ b : Bool, r = .bool b ∧ (b = true → p)
@[congr] theorem RB_congr {w : Prop} (hw : Visit = w) {p : Prop} {r r' : AV} (h : r = r') : RB p r = RB p r' := by rw [h]
theorem RB.f {p : Prop} : RB p (.bool false) := ⟨false, rfl, by simp⟩
theorem RB.t {p : Prop} {b : Bool} (h : p) : RB p (.bool b) := ⟨b, rfl, fun _ => h⟩
/-- The checker and its names. -/
structure Chk (σ : Store) (cid : Nat) (v : AV) (l : List ByteArray) : Prop where
  hd : σ.get cid = some (.cells 196 0 1 [[v]])
  sl : SliceAt σ v 9 1 (l.map fun s => [.str s])
  len : l.length ≤ 100000000
theorem Chk.keep {σ s : Store} {cid : Nat} {v : AV} {l : List ByteArray} (h : Chk σ cid v l) (k : Kp σ s) : Chk s cid v l :=
  ⟨k.get h.hd, h.sl.keep fun i hi => k.keep i (h.sl.lt hi), h.len⟩
theorem Cr.Sh.nil {k : Int} {nm : ByteArray} {n ar : Int} {ps : List ByteArray} {gs : List Cr} {al : List (AltH × Cr)} {bs : List (ByteArray × Cr)} {pk : List (Int × Cr)} (h6 : k ≠ 6)
    (h : (ps.length : Int) = 0 ∧ (gs.length : Int) = 0 ∧ (al.length : Int) = 0 ∧ (bs.length : Int) = 0 ∧ (pk.length : Int) = 0) : (Cr.mk k nm n ar ps gs al bs pk).Sh := by
  obtain ⟨_, h1, h2, h3, h4⟩ := h
  have h1 : gs = [] := List.eq_nil_of_length_eq_zero (by omega)
  have h2 : al = [] := List.eq_nil_of_length_eq_zero (by omega)
  have h3 : bs = [] := List.eq_nil_of_length_eq_zero (by omega)
  have h4 : pk = [] := List.eq_nil_of_length_eq_zero (by omega)
  subst h1 h2 h3 h4
  exact .mk (fun h => absurd h h6) (by simp) (by simp) (by simp) (by simp)
theorem Cr.bulkB_le2 {x : ByteArray × Cr} : ∀ {l : List (ByteArray × Cr)}, x ∈ l → l.length + x.2.bulk ≤ Cr.bulkB l
  | (g, y) :: r, h => by
    rw [Cr.bulkB, List.length_cons]
    rcases List.mem_cons.1 h with rfl | h
    · have := Cr.lenB r; simp only; omega
    · have := Cr.bulkB_le2 h; omega
theorem all_nil {α : Type} {p : α → Prop} {l : List α} (h : (l.length : Int) = 0) : ∀ x, x ∈ l → p x := by
  have : l = [] := List.eq_nil_of_length_eq_zero (by omega)
  subst this; simp
theorem all_succ {α : Type} {p : α → Prop} {l : List α} {i : Nat} {x : α} (h : ∀ y, y ∈ l.take i → p y) (hx : l[i]? = some x) (hp : p x) : ∀ y, y ∈ l.take (i + 1) → p y := by
  intro y hy
  rw [List.take_add_one, hx] at hy
  rcases List.mem_append.1 hy with h1 | h1
  · exact h y h1
  · simp at h1; subst h1; exact hp
end Go.AL
namespace Go.Proofs.Ytjjbjibbjbbeaaa
open Go.AL
theorem indexI_ok {σ : Store} {v : AV} {l : List Int} (h : Rds σ v 1 (l.map fun s => [.int .i64 s])) (hl : l.length ≤ 9223372036854775806) (k : Int) :
    ACalls Try.prog 172 [v, .int .i64 k] σ fun r σ' => SomeI r ∧ σ' = σ := by
  refine in172 (by simp) ?_
  unfold c172
  have hlen := h.len
  simp only [List.length_map] at hlen
  refine raw ?_
  repeat (first | (with_reducible refine unr ?_; try simp only [ZZ, ↓reduceIte, Nat.reduceEqDiff, Nat.reduceAdd, Nat.reduceLeDiff, reduceCtorEq, Int.reduceEq, Int.reduceLT, Int.reduceLE, Int.reduceNeg, Int.reduceAdd, Int.reduceSub, Int.reduceToNat, hlen]) | (with_reducible first | refine W1 ?_ | refine W2 ?_ | refine W3 ?_ | refine W4 ?_ | refine W5 ?_ | refine W6 ?_ | refine W7 ?_ | refine W8 ?_ | refine W9 ?_))
  refine AWP_while [0, 1, 7, 8] (fun i : Nat => l.length - i) (fun i => [v, .int .i64 k, .int .i64 l.length, .int .i64 i])
    (fun i s => s = σ ∧ i ≤ l.length) 0 ⟨rfl, by omega⟩ ?_ ?_
  · refine raw ?_
    repeat (first | (with_reducible refine unr ?_; try simp only [ZZ, ↓reduceIte, Nat.reduceEqDiff, Nat.reduceAdd, Nat.reduceLeDiff, reduceCtorEq, Int.reduceEq, Int.reduceLT, Int.reduceLE, Int.reduceNeg, Int.reduceAdd, Int.reduceSub, Int.reduceToNat]) | (with_reducible first | refine W1 ?_ | refine W2 ?_ | refine W3 ?_ | refine W4 ?_ | refine W5 ?_ | refine W6 ?_ | refine W7 ?_ | refine W8 ?_ | refine W9 ?_))
    rfl
  · rintro i s ⟨rfl, hi⟩
    have hw := wrap_succ (i := i) (by omega)
    by_cases hil : i < l.length
    · have hil' : (i : Int) < (l.length : Int) := by omega
      obtain ⟨x, hx⟩ : ∃ x, l[i]? = some x := ⟨_, List.getElem?_eq_getElem hil⟩
      obtain ⟨p, hp, hep⟩ := h.iad i [.int .i64 x] (by simp [hx])
      have hld := hep.load none
      refine raw ?_
      repeat' (first | (with_reducible refine unr ?_; try simp only [ZZ, ↓reduceIte, Nat.reduceEqDiff, Nat.reduceAdd, Nat.reduceLeDiff, reduceCtorEq, Int.reduceEq, Int.reduceLT, Int.reduceLE, Int.reduceNeg, Int.reduceAdd, Int.reduceSub, Int.reduceToNat, str_nil, *]) | (with_reducible first | refine W1 ?_ | refine W2 ?_ | refine W3 ?_ | refine W4 ?_ | refine W5 ?_ | refine W6 ?_ | refine W7 ?_ | refine W8 ?_ | refine W9 ?_ | refine ok_idx (by first | assumption | omega) (fun b hb => raw ?_) | refine ok_iad (by first | assumption | omega) (fun x hx hxm => raw ?_) | refine And.intro (by omega) (raw ?_) | (refine guardW_b (fun h => raw ?_) (fun h => raw ?_) <;> try simp only [Ty] at h) | (refine ePick_b (fun h => raw ?_) (fun h => raw ?_) <;> try simp only [Ty] at h) | (refine condW_b (fun h => raw ?_) (fun h => raw ?_) <;> try simp only [Ty] at h)))
      all_goals first
        | exact .mk _
        | exact ⟨i + 1, rfl, by omega, by omega⟩
    · refine raw ?_
      repeat' (first | (with_reducible refine unr ?_; try simp only [ZZ, ↓reduceIte, Nat.reduceEqDiff, Nat.reduceAdd, Nat.reduceLeDiff, reduceCtorEq, Int.reduceEq, Int.reduceLT, Int.reduceLE, Int.reduceNeg, Int.reduceAdd, Int.reduceSub, Int.reduceToNat, str_nil, *]) | (with_reducible first | refine W1 ?_ | refine W2 ?_ | refine W3 ?_ | refine W4 ?_ | refine W5 ?_ | refine W6 ?_ | refine W7 ?_ | refine W8 ?_ | refine W9 ?_ | refine ok_idx (by first | assumption | omega) (fun b hb => raw ?_) | refine ok_iad (by first | assumption | omega) (fun x hx hxm => raw ?_) | refine And.intro (by omega) (raw ?_) | (refine guardW_b (fun h => raw ?_) (fun h => raw ?_) <;> try simp only [Ty] at h) | (refine ePick_b (fun h => raw ?_) (fun h => raw ?_) <;> try simp only [Ty] at h) | (refine condW_b (fun h => raw ?_) (fun h => raw ?_) <;> try simp only [Ty] at h)))
      all_goals first
        | exact .mk _
        | exact absurd ‹_› (by omega)
theorem indexI' {σ : Store} {v : AV} {l : List Int} (h : Rds σ v 1 (l.map fun s => [.int .i64 s])) (hl : l.length ≤ 9223372036854775806) (k : Int) :
    ACalls Try.prog 172 [v, .int .i64 k] σ fun r σ' => (∃ b : Int, r = .int .i64 b ∧ True) ∧ σ' = σ := (indexI_ok h hl k).mono fun _ _ h => ⟨h.1.out, h.2⟩
theorem containsI_ok {σ : Store} {v : AV} {l : List Int} (h : Rds σ v 1 (l.map fun s => [.int .i64 s])) (hl : l.length ≤ 9223372036854775806) (k : Int) :
    ACalls Try.prog 160 [v, .int .i64 k] σ fun r σ' => SomeB r ∧ σ' = σ := by
  refine in160 (by simp) ?_
  unfold c160
  refine raw ?_
  repeat' (first | (with_reducible refine unr ?_; try simp only [ZZ, ↓reduceIte, Nat.reduceEqDiff, Nat.reduceAdd, Nat.reduceLeDiff, reduceCtorEq, Int.reduceEq, Int.reduceLT, Int.reduceLE, Int.reduceNeg, Int.reduceAdd, Int.reduceSub, Int.reduceToNat, str_nil, *]) | (with_reducible first | refine W1 ?_ | refine W2 ?_ | refine W3 ?_ | refine W4 ?_ | refine W5 ?_ | refine W6 ?_ | refine W7 ?_ | refine W8 ?_ | refine W9 ?_ | refine ok_idx (by first | assumption | omega) (fun b hb => raw ?_) | refine ok_iad (by first | assumption | omega) (fun x hx hxm => raw ?_) | refine And.intro (by omega) (raw ?_) | (refine guardW_b (fun h => raw ?_) (fun h => raw ?_) <;> try simp only [Ty] at h) | (refine ePick_b (fun h => raw ?_) (fun h => raw ?_) <;> try simp only [Ty] at h) | (refine condW_b (fun h => raw ?_) (fun h => raw ?_) <;> try simp only [Ty] at h) | (refine (indexI' h hl k).mono ?_; rintro _ _ ⟨⟨b, rfl, hb⟩, rfl⟩; refine raw ?_)))
  exact .mk _
theorem containsI' {σ : Store} {v : AV} {l : List Int} (h : Rds σ v 1 (l.map fun s => [.int .i64 s])) (hl : l.length ≤ 9223372036854775806) (k : Int) :
    ACalls Try.prog 160 [v, .int .i64 k] σ fun r σ' => (∃ b : Bool, r = .bool b ∧ True) ∧ σ' = σ := (containsI_ok h hl k).mono fun _ _ h => ⟨h.1.out, h.2⟩
theorem locals' (l : List ByteArray) (hl : l.length ≤ 100000000) (σ : Store) : ACalls Try.prog 111 [strs l] σ fun r σ' => (∃ b : Bool, r = .bool b ∧ True) ∧ σ' = σ := (locals_ok l hl σ).mono fun _ _ h => ⟨h.1.out, h.2⟩
end Go.Proofs.Ytjjbjibbjbbeaaa
/- Right: true only where each function has one part. -/
set_option linter.unusedVariables false
set_option linter.unusedSimpArgs false
namespace Go.AL
end Go.AL
namespace Go.Proofs.Ytjjbjibbjbbeaaa
open Go.AL
end Go.Proofs.Ytjjbjibbjbbeaaa
/- What is free in an expression. -/
set_option linter.unusedVariables false
set_option linter.unusedSimpArgs false
namespace Go.AL
theorem Cr.bulkA_app : ∀ l m : List (AltH × Cr), Cr.bulkA (l ++ m) = Cr.bulkA l + Cr.bulkA m
  | [], m => by simp [Cr.bulkA]
  | (h, x) :: r, m => by rw [List.cons_append, Cr.bulkA, Cr.bulkA, Cr.bulkA_app r m]; omega
theorem Cr.bulkB_app : ∀ l m : List (ByteArray × Cr), Cr.bulkB (l ++ m) = Cr.bulkB l + Cr.bulkB m
  | [], m => by simp [Cr.bulkB]
  | (h, x) :: r, m => by rw [List.cons_append, Cr.bulkB, Cr.bulkB, Cr.bulkB_app r m]; omega
theorem Cr.bulkP_app : ∀ l m : List (Int × Cr), Cr.bulkP (l ++ m) = Cr.bulkP l + Cr.bulkP m
  | [], m => by simp [Cr.bulkP]
  | (h, x) :: r, m => by rw [List.cons_append, Cr.bulkP, Cr.bulkP, Cr.bulkP_app r m]; omega
theorem Cr.lenB2 : ∀ l : List (ByteArray × Cr), 2 * l.length ≤ Cr.bulkB l
  | [] => by simp
  | (h, x) :: r => by rw [Cr.bulkB, List.length_cons]; have := Cr.lenB2 r; have := x.bulk_pos; omega
theorem split_at {α : Type} {l : List α} {i : Nat} {x : α} (h : l[i]? = some x) : l = l.take i ++ x :: l.drop (i + 1) := by
  obtain ⟨hi, rfl⟩ := List.getElem?_eq_some_iff.1 h
  conv => lhs; rw [← List.take_append_drop i l]
  rw [List.drop_eq_getElem_cons hi]
theorem take_succ_at {α : Type} {l : List α} {i : Nat} {x : α} (h : l[i]? = some x) : l.take (i + 1) = l.take i ++ [x] := by rw [List.take_add_one, h]; rfl
theorem Cr.bulkA_take {l : List (AltH × Cr)} {i : Nat} {x : AltH × Cr} (h : l[i]? = some x) : Cr.bulkA (l.take i) + x.1.ps.length + x.2.bulk ≤ Cr.bulkA l := by
  conv => rhs; rw [split_at h, Cr.bulkA_app]
  obtain ⟨h, y⟩ := x
  rw [Cr.bulkA]; simp only; omega
theorem Cr.bulkB_take {l : List (ByteArray × Cr)} {i : Nat} {x : ByteArray × Cr} (h : l[i]? = some x) : Cr.bulkB (l.take i) + 1 + x.2.bulk ≤ Cr.bulkB l := by
  conv => rhs; rw [split_at h, Cr.bulkB_app]
  obtain ⟨h, y⟩ := x
  rw [Cr.bulkB]; simp only; omega
theorem Cr.bulkP_take {l : List (Int × Cr)} {i : Nat} {x : Int × Cr} (h : l[i]? = some x) : Cr.bulkP (l.take i) + x.2.bulk ≤ Cr.bulkP l := by
  conv => rhs; rw [split_at h, Cr.bulkP_app]
  obtain ⟨h, y⟩ := x
  rw [Cr.bulkP]; simp only; omega

/-! ### The finder -/
structure FindAt (σ : Store) (fid : Nat) (vb vo : AV) (bound out : List ByteArray) : Prop where
  hd : σ.get fid = some (.cells 192 0 2 [[vb, vo]])
  sb : SliceAt σ vb 9 1 (bound.map fun s => [.str s])
  so : SliceAt σ vo 9 1 (out.map fun s => [.str s])
  nb : fid ∉ slIds vb
  no : fid ∉ slIds vo
  dj : ∀ j, j ∈ slIds vb → j ∉ slIds vo
/-- What is none of the finder's is as it was. -/
structure FF (σ s : Store) (fid : Nat) (vb vo vb' vo' : AV) : Prop where
  next : σ.next ≤ s.next
  keep : ∀ j, j < σ.next → j ≠ fid → j ∉ slIds vb → j ∉ slIds vo → s.get j = σ.get j
  fb : ∀ j, j ∈ slIds vb' → j ∈ slIds vb ∨ σ.next ≤ j
  fo : ∀ j, j ∈ slIds vo' → j ∈ slIds vo ∨ σ.next ≤ j
theorem FF.refl (σ : Store) (fid : Nat) (vb vo : AV) : FF σ σ fid vb vo vb vo := ⟨Nat.le_refl _, fun _ _ _ _ _ => rfl, fun _ h => .inl h, fun _ h => .inl h⟩
theorem FF.trans {σ s u : Store} {fid : Nat} {vb vo vb' vo' vb2 vo2 : AV} (h : FF σ s fid vb vo vb' vo') (k : FF s u fid vb' vo' vb2 vo2) : FF σ u fid vb vo vb2 vo2 where
  next := Nat.le_trans h.next k.next
  keep j hj h1 h2 h3 := by
    rw [k.keep j (Nat.lt_of_lt_of_le hj h.next) h1 (fun hm => (h.fb j hm).elim h2 (fun h => absurd hj (by omega))) (fun hm => (h.fo j hm).elim h3 (fun h => absurd hj (by omega))), h.keep j hj h1 h2 h3]
  fb j hj := (k.fb j hj).elim (h.fb j) fun hh => .inr (Nat.le_trans h.next hh)
  fo j hj := (k.fo j hj).elim (h.fo j) fun hh => .inr (Nat.le_trans h.next hh)
theorem FF.kp {σ s : Store} (k : Kp σ s) (fid : Nat) (vb vo : AV) : FF σ s fid vb vo vb vo := ⟨k.next, fun j hj _ _ _ => k.keep j hj, fun _ h => .inl h, fun _ h => .inl h⟩
theorem FF.push {σ s : Store} {fid : Nat} {vb vo vb' vo' : AV} (h : FF σ s fid vb vo vb' vo') (o : AObj) : FF σ (s.push o) fid vb vo vb' vo' := h.trans (FF.kp (.pushed _ _) _ _ _)
theorem FindAt.keep {σ s : Store} {fid : Nat} {vb vo : AV} {b o : List ByteArray} (h : FindAt σ fid vb vo b o) (k : Kp σ s) : FindAt s fid vb vo b o :=
  ⟨k.get h.hd, h.sb.keep fun i hi => k.keep i (h.sb.lt hi), h.so.keep fun i hi => k.keep i (h.so.lt hi), h.nb, h.no, h.dj⟩
theorem FF.get {σ s : Store} {fid : Nat} {vb vo vb' vo' : AV} (h : FF σ s fid vb vo vb' vo') {j : Nat} {o : AObj} (hj : σ.get j = some o) (h1 : j ≠ fid) (h2 : j ∉ slIds vb) (h3 : j ∉ slIds vo) : s.get j = some o := by
  rw [h.keep j (σ.lt hj) h1 h2 h3]; exact hj
/-- The finder behind a call. -/
def LookPost (σ : Store) (fid : Nat) (vb vo : AV) (b o : List ByteArray) (s : Store) : Prop := ∃ vb' vo', FindAt s fid vb' vo' b o ∧ FF σ s fid vb vo vb' vo'
@[congr] theorem LookPost_congr {w : Prop} (hw : Visit = w) {σ : Store} {fid : Nat} {vb vo : AV} {b o : List ByteArray} {s s' : Store} (h : s = s') : LookPost σ fid vb vo b o s = LookPost σ fid vb vo b o s' := by rw [h]
end Go.AL
namespace Go.Proofs.Ytjjbjibbjbbeaaa
open Go.AL
end Go.Proofs.Ytjjbjibbjbbeaaa
/- What is free in an expression: look, Free. -/
set_option linter.unusedVariables false
set_option linter.unusedSimpArgs false
namespace Go.Proofs.Ytjjbjibbjbbeaaa
open Go.AL
end Go.Proofs.Ytjjbjibbjbbeaaa
/- A number's text: one text for each number. -/
set_option linter.unusedVariables false
set_option linter.unusedSimpArgs false
namespace Go.AL
end Go.AL
namespace Go.Proofs.Ytjjbjibbjbbeaaa
open Go.AL
end Go.Proofs.Ytjjbjibbjbbeaaa
/- The lifter: an expression's parts. -/
set_option linter.unusedVariables false
set_option linter.unusedSimpArgs false
namespace Go.AL
def supC (p : Sup) : List AV := .str p.nm :: strs p.ps :: p.bd.cells
theorem Cr.drop9 (x : Cr) : List.drop 9 x.cells = [] := List.drop_of_length_le (by rw [x.len]; omega)
structure LiftAt (σ : Store) (fid : Nat) (v : AV) (df : ByteArray) (es : List (List AV)) : Prop where
  hd : σ.get fid = some (.cells 120 0 2 [[.str df, v]])
  sl : SliceAt σ v 71 11 es
  nv : fid ∉ slIds v
/-- The lifter behind a call. -/
def LPost (σ : Store) (fid : Nat) (v : AV) (df : ByteArray) (es : List (List AV)) (s : Store) : Prop :=
  ∃ v', LiftAt s fid v' df es ∧ σ.next ≤ s.next ∧ (∀ j, j < σ.next → j ≠ fid → j ∉ slIds v → s.get j = σ.get j) ∧ (∀ j, j ∈ slIds v' → j ∈ slIds v ∨ σ.next ≤ j)
@[congr] theorem LPost_congr {w : Prop} (hw : Visit = w) {σ : Store} {fid : Nat} {v : AV} {df : ByteArray} {es : List (List AV)} {s s' : Store} (h : s = s') : LPost σ fid v df es s = LPost σ fid v df es s' := by rw [h]
/-- The lifter amid a function's own variables (those from N on are newer). -/
structure MS (σ s : Store) (N fid : Nat) (v v' : AV) (df : ByteArray) (es : List (List AV)) : Prop where
  la : LiftAt s fid v' df es
  le : σ.next ≤ N
  next : N ≤ s.next
  keep : ∀ j, j < σ.next → j ≠ fid → j ∉ slIds v → s.get j = σ.get j
  fresh : ∀ j, j ∈ slIds v' → (j ∈ slIds v ∧ j < σ.next) ∨ N ≤ j
  fid : fid < σ.next
theorem MS.start {σ s : Store} {N fid : Nat} {v : AV} {df : ByteArray} {es : List (List AV)} (h : LiftAt σ fid v df es) (k : Kp σ s) (hN : N = s.next) : MS σ s N fid v v df es :=
  ⟨⟨k.get h.hd, h.sl.keep fun i hi => k.keep i (h.sl.lt hi), h.nv⟩, by have := k.next; omega, by omega, fun j hj _ _ => k.keep j hj, fun j hj => .inl ⟨hj, h.sl.lt hj⟩, σ.lt h.hd⟩
section
variable {σ s s2 : Store} {N fid : Nat} {v v' : AV} {df : ByteArray} {es es2 : List (List AV)}
theorem MS.out (h : MS σ s N fid v v' df es) : LPost σ fid v df es s := ⟨v', h.la, by have := h.le; have := h.next; omega, h.keep, fun j hj => (h.fresh j hj).elim (fun a => .inl a.1) (fun a => .inr (by have := h.le; omega))⟩
theorem MS.push (h : MS σ s N fid v v' df es) (o : AObj) : MS σ (s.push o) N fid v v' df es :=
  ⟨⟨(Kp.pushed s o).get h.la.hd, h.la.sl.keep fun i hi => (Kp.pushed s o).keep i (h.la.sl.lt hi), h.la.nv⟩, h.le, by rw [Store.push_next]; have := h.next; omega, fun j hj h1 h2 => by rw [(Kp.pushed s o).keep j (by have := h.le; have := h.next; omega), h.keep j hj h1 h2], h.fresh, h.fid⟩
theorem MS.chg (h : MS σ s N fid v v' df es) {s2 : Store} {id : Nat} (h1 : σ.next ≤ id) (h2 : id ∉ slIds v') (hn : s2.next = s.next) (hg : ∀ j, j ≠ id → s2.get j = s.get j) : MS σ s2 N fid v v' df es :=
  ⟨⟨by rw [hg _ (by have := h.fid; omega)]; exact h.la.hd, h.la.sl.keep fun i hi => hg i (fun e => h2 (e ▸ hi)), h.la.nv⟩, h.le, by rw [hn]; exact h.next, fun j hj a b => by rw [hg j (by omega), h.keep j hj a b], h.fresh, h.fid⟩
theorem MS.upd (h : MS σ s N fid v v' df es) {id : Nat} (o : AObj) (h1 : σ.next ≤ id) (h2 : id ∉ slIds v') : MS σ (s.upd id o) N fid v v' df es :=
  h.chg h1 h2 rfl fun j hj => Store.get_upd_ne _ _ hj
theorem MS.call (h : MS σ s N fid v v' df es) (k : LPost s fid v' df es2 s2) : ∃ v2, MS σ s2 N fid v v2 df es2 ∧ (∀ j, j < s.next → j ≠ fid → j ∉ slIds v' → s2.get j = s.get j) ∧ (∀ j, j ∈ slIds v2 → j ∈ slIds v' ∨ s.next ≤ j) ∧ s.next ≤ s2.next := by
  obtain ⟨v2, hl, hn, hk, hf⟩ := k
  refine ⟨v2, ⟨hl, h.le, by have := h.next; omega, fun j hj a b => ?_, fun j hj => ?_, h.fid⟩, hk, hf, hn⟩
  · rw [hk j (by have := h.le; have := h.next; omega) a (fun hm => (h.fresh j hm).elim (fun q => b q.1) (fun q => by have := h.le; omega)), h.keep j hj a b]
  · rcases hf j hj with q | q
    · exact h.fresh j q
    · exact .inr (by have := h.next; omega)
/-- An own variable is none of the lifter's. -/
theorem MS.loc (h : MS σ s N fid v v' df es) {j : Nat} (h1 : σ.next ≤ j) (h2 : j < N) : j ∉ slIds v' := fun hm => (h.fresh j hm).elim (fun q => by omega) (fun q => by omega)
/-- A slice that is built beside. -/
structure Bes (s : Store) (N : Nat) (v' u : AV) (ty sz : Nat) (us : List (List AV)) : Prop where
  sl : SliceAt s u ty sz us
  new : ∀ j, j ∈ slIds u → N ≤ j
  dj : ∀ j, j ∈ slIds u → j ∉ slIds v'
theorem Bes.start (s : Store) (N : Nat) (v' : AV) (ty sz : Nat) : Bes s N v' .nils ty sz [] := ⟨.nil _ _ _, by simp [slIds], by simp [slIds]⟩
theorem Bes.call {u : AV} {ty sz : Nat} {us : List (List AV)} (hB : Bes s N v' u ty sz us) {v2 : AV} (hf : N > fid) (hk : ∀ j, j < s.next → j ≠ fid → j ∉ slIds v' → s2.get j = s.get j) (hfr : ∀ j, j ∈ slIds v2 → j ∈ slIds v' ∨ s.next ≤ j) : Bes s2 N v2 u ty sz us :=
  ⟨hB.sl.keep fun j hj => hk j (hB.sl.lt hj) (by have := hB.new j hj; omega) (hB.dj j hj), hB.new, fun j hj hm => (hfr j hm).elim (hB.dj j hj) (fun q => by have := hB.sl.lt hj; omega)⟩
theorem Bes.push {u : AV} {ty sz : Nat} {us : List (List AV)} (hB : Bes s N v' u ty sz us) (o : AObj) : Bes (s.push o) N v' u ty sz us :=
  ⟨hB.sl.keep fun j hj => (Kp.pushed s o).keep j (hB.sl.lt hj), hB.new, hB.dj⟩
theorem Bes.upd {u : AV} {ty sz : Nat} {us : List (List AV)} (hB : Bes s N v' u ty sz us) {id : Nat} (o : AObj) (h : id ∉ slIds u) : Bes (s.upd id o) N v' u ty sz us :=
  ⟨hB.sl.keep fun j hj => Store.get_upd_ne _ _ (fun e => h (e ▸ hj)), hB.new, hB.dj⟩
end
end Go.AL
namespace Go.Proofs.Ytjjbjibbjbbeaaa
open Go.AL
end Go.Proofs.Ytjjbjibbjbbeaaa
/- The lifter: named, now, later. -/
set_option linter.unusedVariables false
set_option linter.unusedSimpArgs false
namespace Go.AL
theorem set_one {es : List (List AV)} {n : Nat} (h : n = es.length) (q q' : List AV) (m : List (List AV)) : (es ++ [q] ++ m).set n q' = es ++ [q'] ++ m := by
  subst h
  rw [List.append_assoc, List.set_append_right _ _ (Nat.le_refl _)]
  simp
section
variable {σ s s2 : Store} {N fid : Nat} {v v' : AV} {df : ByteArray} {es es2 : List (List AV)}
theorem MS.sset {id ver n : Nat} {es' : List (List AV)} (h : MS σ s N fid v (.own id ver 11 0 n) df es) (hn : n = es.length) (hg : s.get id = some (.cells 71 ver 11 (es ++ es'))) (hl : es2.length = es.length) :
    MS σ (s.upd id (.cells 71 ver 11 (es2 ++ es'))) N fid v (.own id ver 11 0 n) df es2 := by
  have hne : id ≠ fid := fun e => h.la.nv (by simp [slIds, e])
  refine ⟨⟨by rw [Store.get_upd_ne _ _ (fun e => hne e.symm)]; exact h.la.hd, .inr ⟨id, ver, es', by rw [hl, ← hn], Store.get_upd_self _ _ (s.lt hg)⟩, h.la.nv⟩, h.le, h.next, fun j hj a b => ?_, h.fresh, h.fid⟩
  rw [Store.get_upd_ne _ _ (fun e => ?_), h.keep j hj a b]
  subst e
  exact (h.fresh j (by simp [slIds])).elim (fun q => b q.1) (fun q => by have := h.le; omega)
end
end Go.AL
namespace Go.Proofs.Ytjjbjibbjbbeaaa
open Go.AL
end Go.Proofs.Ytjjbjibbjbbeaaa
/- Lift: each definition alone. -/
set_option linter.unusedVariables false
set_option linter.unusedSimpArgs false
namespace Go.AL
def defBody : Cr → List ByteArray × Cr
  | .mk k nm n ar ps gs al bs pk => if k = 6 then (ps, gs.headD .zero) else ([], .mk k nm n ar ps gs al bs pk)
def defPc : Cr → AV
  | .mk k nm n ar ps gs al bs pk => if k = 6 then strs ps else .nils
theorem supC_len (p : Sup) : (supC p).length = 11 := by simp [supC, Cr.len]
mutual
theorem LeD.rf (a : AV) : LeD a a := .refl a
theorem LeDL.rf : ∀ a : List AV, LeDL a a
  | [] => .nil
  | x :: r => .cons (.refl x) (LeDL.rf r)
end
theorem SubL.rf {v w : AV} : ∀ a : List AV, SubL v w a a
  | [] => .nil
  | x :: r => .cons (.refl x) (SubL.rf r)
theorem LeDE.rf : ∀ a : List (List AV), LeDE a a
  | [] => .nil
  | x :: r => .cons (LeDL.rf x) (LeDE.rf r)
theorem LeDE.app {a b c d : List (List AV)} (h : LeDE a b) (k : LeDE c d) : LeDE (a ++ c) (b ++ d) := by
  induction a generalizing b with
  | nil => cases h; exact k
  | cons x r ih => cases h with | cons h t => exact .cons h (ih t)
theorem SliceAt.elems {σ : Store} {v : AV} {ty sz : Nat} {es : List (List AV)} (h : SliceAt σ v ty sz es) : elemsOf σ sz v = some es := by
  rcases h with ⟨rfl, rfl⟩ | ⟨id, ver, es', rfl, h⟩
  · rfl
  · rw [elems_own, h, elems2_some, if_pos ⟨rfl, rfl, by simp⟩, List.drop_zero, List.take_left']
    rfl
theorem Cr.Sh.body {x : Cr} (h : x.Sh) : (defBody x).2.Sh := by
  cases h with
  | mk h6 h1 h2 h3 h4 =>
    rename_i k nm n ar ps gs al bs pk
    rw [defBody]
    split
    · rename_i hk
      match gs, h6 hk with
      | [y], _ => exact h1 y (by simp)
    · exact .mk h6 h1 h2 h3 h4
theorem Cr.parts (x : Cr) : ∃ (k : Int) (ps : List ByteArray) (gs : List Cr), x.cells[0]? = some (.int .i64 k) ∧ x.cells[4]? = some (strs ps) ∧ x.cells[5]? = some (.list (gs.map Cr.cells)) ∧
    defBody x = (if k = 6 then (ps, gs.headD .zero) else ([], x)) ∧ defPc x = (if k = 6 then strs ps else .nils) ∧ (x.Sh → k = 6 → ∃ y, gs = [y]) ∧ ps.length ≤ x.bulk := by
  obtain ⟨k, nm, n, ar, ps, gs, al, bs, pk⟩ := x
  refine ⟨k, ps, gs, by rw [Cr.cells_eq]; rfl, by rw [Cr.cells_eq]; rfl, by rw [Cr.cells_eq]; rfl, rfl, rfl, fun h h6 => ?_, by rw [Cr.bulk]; omega⟩
  cases h with
  | mk hh h1 h2 h3 h4 =>
    match gs, hh h6 with
    | [y], _ => exact ⟨y, rfl⟩
end Go.AL
namespace Go.Proofs.Ytjjbjibbjbbeaaa
open Go.AL
end Go.Proofs.Ytjjbjibbjbbeaaa
/- An expression is the same as itself; definitions of supercombinators. -/
set_option linter.unusedVariables false
set_option linter.unusedSimpArgs false
namespace Go.AL
theorem lt_ne2 {a b : Nat} (h : a < b) : (a = b + 1) = False := by simp; omega
end Go.AL
namespace Go.Proofs.Ytjjbjibbjbbeaaa
open Go.AL
end Go.Proofs.Ytjjbjibbjbbeaaa
/- Definitions of supercombinators; definitions are the same as themselves; which are small. -/
set_option linter.unusedVariables false
set_option linter.unusedSimpArgs false
namespace Go.AL
theorem leDE_map {α : Type} {f g : α → List AV} (h : ∀ x, LeDL (f x) (g x)) : ∀ l : List α, LeDE (l.map f) (l.map g)
  | [] => .nil
  | x :: r => .cons (h x) (leDE_map h r)
end Go.AL
namespace Go.Proofs.Ytjjbjibbjbbeaaa
open Go.AL
end Go.Proofs.Ytjjbjibbjbbeaaa
/- Codes, as plain functions. -/
set_option linter.unusedVariables false
set_option linter.unusedSimpArgs false
namespace Go.AL
/-! ### Shapes: how many parts what has -/
inductive Cr.Tw : Cr → Prop
  | mk {k : Int} {nm : ByteArray} {n ar : Int} {ps : List ByteArray} {gs : List Cr} {al : List (AltH × Cr)} {bs : List (ByteArray × Cr)} {pk : List (Int × Cr)} (h0 : k = 9 → 1 ≤ n ∧ n ≤ 11) (h2 : k = 5 ∨ k = 9 → gs.length = 2) (h1 : k = 6 ∨ k = 7 ∨ k = 8 ∨ k = 11 → gs.length = 1)
    (g1 : ∀ x, x ∈ gs → Cr.Tw x) (g2 : ∀ x, x ∈ al → Cr.Tw x.2) (g3 : ∀ x, x ∈ bs → Cr.Tw x.2) (g4 : ∀ x, x ∈ pk → Cr.Tw x.2) : Cr.Tw (.mk k nm n ar ps gs al bs pk)
/-- An instruction. -/
structure Ins where
  op : Int
  k : Int
  n : Int
  js : List (Int × Int)
def jC (p : Int × Int) : List AV := [.int .i64 p.1, .int .i64 p.2]
def insC (i : Ins) : List AV := [.int .i64 i.op, .int .i64 i.k, .int .i64 i.n, .list (i.js.map jC)]
def ik (op k : Int) : Ins := ⟨op, k, 0, []⟩
/-- The globals: supercombinators, constructors with their numbers of fields. -/
structure Gl where
  sup : List ByteArray
  con : List (ByteArray × Nat)
noncomputable def idx (l : List ByteArray) (s : ByteArray) : Option Nat := l.findIdx? fun x => @decide (x = s) (Classical.propDecidable _)
noncomputable def conIdx (g : Gl) (s : ByteArray) : Int := match idx (g.con.map (·.1)) s with | some i => (i : Int) | none => 0
def operS (g : Gl) (op : Int) : Int := (g.sup.length : Int) + g.con.length + op - 1
noncomputable def globS (g : Gl) (O : ByteArray → Int) (s : ByteArray) : Int := match idx g.sup s with | some i => (i : Int) | none => operS g (O s)
abbrev Lv := List (ByteArray × Int)
def lvC (p : ByteArray × Int) : List AV := [.str p.1, .int .i64 p.2]
def nums : Nat → Int → Int → List ByteArray → Lv
  | i, fr, st, [] => []
  | i, fr, st, s :: r => (s, fr + i * st) :: nums (i + 1) fr st r
def withS (lv : Lv) (l : List ByteArray) (fr st : Int) : Lv := lv ++ nums 0 fr st l
noncomputable def findS : Lv → ByteArray → Int
  | [], s => 0
  | p :: r, s => @ite _ (∃ q ∈ r, q.1 = s) (Classical.propDecidable _) (findS r s) (@ite _ (p.1 = s) (Classical.propDecidable _) p.2 0)
theorem nums_len (l : List ByteArray) : ∀ i fr st, (nums i fr st l).length = l.length := by
  induction l with
  | nil => intros; rfl
  | cons s r ih => intro i fr st; rw [nums, List.length_cons, List.length_cons, ih]
theorem withS_len (lv : Lv) (l : List ByteArray) (fr st : Int) : (withS lv l fr st).length = lv.length + l.length := by rw [withS, List.length_append, nums_len]
section
variable (g : Gl) (O : ByteArray → Int)
mutual
noncomputable def latS (lv : Lv) (d : Int) : Cr → List Ins
  | .mk k nm n ar ps gs al bs pk =>
    if k = 1 then [ik 1 (d - 1 - findS lv nm)]
    else if k = 2 then [ik 2 (globS g O nm)]
    else if k = 4 then [ik 2 ((g.sup.length : Int) + conIdx g nm)]
    else if k = 3 then [⟨3, 0, n, []⟩]
    else if k = 5 then (latL lv (d + 1) gs).getD 1 [] ++ (latL lv (d + 1) gs).getD 0 [] ++ [ik 4 0]
    else if k = 9 then (latL lv (d + 1) gs).getD 1 [] ++ (latL lv (d + 1) gs).getD 0 [] ++ [ik 2 (operS g n), ik 4 0, ik 4 0]
    else if k = 7 then ik 8 bs.length :: latB (withS lv (bs.map (·.1)) d 1) (d + bs.length) (bs.length : Int) bs ++ (latL (withS lv (bs.map (·.1)) d 1) (d + bs.length) gs).getD 0 [] ++ [ik 7 bs.length]
    else []
noncomputable def latL (lv : Lv) (d : Int) : List Cr → List (List Ins)
  | [] => []
  | x :: r => latS lv d x :: latL lv (d - 1) r
noncomputable def latB (lv : Lv) (d n : Int) : List (ByteArray × Cr) → List Ins
  | [] => []
  | (s, x) :: r => latS lv d x ++ [ik 5 (n - 1)] ++ latB lv d (n - 1) r
end
/-- What makes bindings' nodes. -/
noncomputable def bindS (lv : Lv) (d : Int) (bs : List (ByteArray × Cr)) : List Ins := ik 8 bs.length :: latB g O (withS lv (bs.map (·.1)) d 1) (d + bs.length) (bs.length : Int) bs
def endS (d : Int) : List Ins := [ik 5 d, ik 6 d, ik 10 0]
mutual
noncomputable def valS (lv : Lv) (d : Int) (last : Bool) (base : Nat) : Cr → List Ins
  | .mk k nm n ar ps gs al bs pk =>
    if k = 9 then (valL lv d base 2 false gs).flatten ++ [⟨16, 0, n, []⟩] ++ (if last then endS d else [])
    else if k = 7 then bindS g O lv d bs ++ (valL (withS lv (bs.map (·.1)) d 1) (d + bs.length) (base + (bindS g O lv d bs).length) 1 last gs).flatten ++ (if last then [] else [ik 7 bs.length])
    else if k = 8 then
      (valL lv d base 1 false gs).flatten ++
        [⟨13, altK lv d last (base + (valL lv d base 1 false gs).flatten.length + 1) (-1) al, 0, altJ lv d last (base + (valL lv d base 1 false gs).flatten.length + 1) al⟩] ++
        altS lv d last (base + (valL lv d base 1 false gs).flatten.length + 1) (base + (valL lv d base 1 false gs).flatten.length + 1 + (altS lv d last (base + (valL lv d base 1 false gs).flatten.length + 1) 0 al).length) al
    else if k = 11 then
      [⟨14, ((base + 1 : Nat) : Int), 0, pickJ lv d last (base + 1 + (valL lv d (base + 1) 1 last gs).flatten.length + (if last then 0 else 1)) pk⟩] ++
        ((valL lv d (base + 1) 1 last gs).flatten ++ (if last then [] else [ik 15 ((base + 1 + (valL lv d (base + 1) 1 last gs).flatten.length + (if last then 0 else 1) + (pickS lv d last (base + 1 + (valL lv d (base + 1) 1 last gs).flatten.length + (if last then 0 else 1)) 0 pk).length : Nat) : Int)])) ++
        pickS lv d last (base + 1 + (valL lv d (base + 1) 1 last gs).flatten.length + (if last then 0 else 1)) (base + 1 + (valL lv d (base + 1) 1 last gs).flatten.length + (if last then 0 else 1) + (pickS lv d last (base + 1 + (valL lv d (base + 1) 1 last gs).flatten.length + (if last then 0 else 1)) 0 pk).length) pk
    else if k = 10 then [ik 17 0]
    else if k = 3 then [⟨3, 0, n, []⟩] ++ (if last then endS d else [])
    else latS g O lv d (.mk k nm n ar ps gs al bs pk) ++ (if last then endS d else [ik 9 0])
/-- Some parts, one behind the other, each one deeper. -/
noncomputable def valL (lv : Lv) (d : Int) (base : Nat) (m : Nat) (last : Bool) : List Cr → List (List Ins)
  | [] => []
  | x :: r => match m with | 0 => [] | m + 1 => valS lv d last base x :: valL lv (d + 1) (base + (valS lv d last base x).length) m last r
noncomputable def altS (lv : Lv) (d : Int) (last : Bool) (base e : Nat) : List (AltH × Cr) → List Ins
  | [] => []
  | (h, x) :: r =>
    ((if h.k = 1 then ik 12 h.ps.length else ik 6 1) :: valS (withS lv h.ps (d + h.ps.length - 1) (-1)) (d + h.ps.length) last (base + 1) x ++ (if h.k = 1 ∧ last = false then [ik 7 h.ps.length] else []) ++ (if last then [] else [ik 15 e])) ++
      altS lv d last (base + ((if h.k = 1 then ik 12 h.ps.length else ik 6 1) :: valS (withS lv h.ps (d + h.ps.length - 1) (-1)) (d + h.ps.length) last (base + 1) x ++ (if h.k = 1 ∧ last = false then [ik 7 h.ps.length] else []) ++ (if last then [] else [ik 15 (0 : Int)])).length) e r
noncomputable def altJ (lv : Lv) (d : Int) (last : Bool) (base : Nat) : List (AltH × Cr) → List (Int × Int)
  | [] => []
  | (h, x) :: r =>
    (if h.k = 1 then [(conIdx g h.nm, (base : Int))] else if h.k = 2 then [(h.n, (base : Int))] else []) ++
      altJ lv d last (base + ((if h.k = 1 then ik 12 h.ps.length else ik 6 1) :: valS (withS lv h.ps (d + h.ps.length - 1) (-1)) (d + h.ps.length) last (base + 1) x ++ (if h.k = 1 ∧ last = false then [ik 7 h.ps.length] else []) ++ (if last then [] else [ik 15 (0 : Int)])).length) r
noncomputable def altK (lv : Lv) (d : Int) (last : Bool) (base : Nat) (K : Int) : List (AltH × Cr) → Int
  | [] => K
  | (h, x) :: r =>
      altK lv d last (base + ((if h.k = 1 then ik 12 h.ps.length else ik 6 1) :: valS (withS lv h.ps (d + h.ps.length - 1) (-1)) (d + h.ps.length) last (base + 1) x ++ (if h.k = 1 ∧ last = false then [ik 7 h.ps.length] else []) ++ (if last then [] else [ik 15 (0 : Int)])).length) (if h.k = 1 ∨ h.k = 2 then K else (base : Int)) r
noncomputable def pickS (lv : Lv) (d : Int) (last : Bool) (base e : Nat) : List (Int × Cr) → List Ins
  | [] => []
  | (s, x) :: r => (valS lv d last base x ++ (if last then [] else [ik 15 e])) ++ pickS lv d last (base + (valS lv d last base x).length + (if last then 0 else 1)) e r
noncomputable def pickJ (lv : Lv) (d : Int) (last : Bool) (base : Nat) : List (Int × Cr) → List (Int × Int)
  | [] => []
  | (s, x) :: r => (s, (base : Int)) :: pickJ lv d last (base + (valS lv d last base x).length + (if last then 0 else 1)) r
end
end
end Go.AL

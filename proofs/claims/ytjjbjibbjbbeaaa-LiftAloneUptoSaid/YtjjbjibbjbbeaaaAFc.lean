/- The resolved code of some functions. -/
import Derived.Test.YtjjbjibbjbbeaaaProg
import Derived.Test.YtjjbjibbjbbeaaaAL15
import Derived.KernelRfl
set_option linter.unusedVariables false
namespace Go.Proofs.Ytjjbjibbjbbeaaa
open Go.AL
/-- changeling/changelinglaw15.LiftAlone -/
def c5 : ACode :=
(.seq
 (.reg [⟨(some 3), .new 58 (.t 1), none⟩,
   ⟨(some 4), .move (.c (.bool false)), none⟩])
 (.seq
  (.seq
   (.reg [⟨(some 11), .move (.t 0), none⟩,
     ⟨(some 12), .call 16 [(.t 11)], none⟩,
     ⟨(some 13), .not (.t 12), none⟩,
     ⟨(some 14), .move (.t 13), none⟩,
     ⟨(some 15), .load (some 10) (.t 3), some (14, false)⟩,
     ⟨(some 16), .lit false 58 10 [(.t 15)], some (14, false)⟩,
     ⟨(some 17), .call 16 [(.t 16)], some (14, false)⟩,
     ⟨(some 18), .not (.t 17), some (14, false)⟩,
     ⟨(some 19), .pick (.t 14) (.c (.bool true)) (.t 18), none⟩])
   (.cond (.t 19)
    (.seq
     (.reg [⟨(some 20), .call 18 [], none⟩,
       ⟨(some 4), .move (.t 20), none⟩])
     .ret)
    .skip))
  (.seq
   (.reg [⟨(some 22), .move (.t 0), none⟩,
     ⟨(some 23), .call 19 [(.t 22)], none⟩,
     ⟨(some 21), .move (.t 23), none⟩,
     ⟨(some 24), .extract (.t 21) 0, none⟩,
     ⟨(some 25), .extract (.t 21) 1, none⟩,
     ⟨(some 5), .move (.t 24), none⟩,
     ⟨(some 6), .move (.t 25), none⟩])
   (.seq
    (.reg [⟨(some 7), .move (.c .nils), none⟩])
    (.seq
     (.seq
      (.reg [⟨(some 8), .move (.c (.int .i64 0)), none⟩])
      (.block 0
       (.loop
        (.seq
         (.seq
          (.reg [⟨(some 26), .move (.t 8), none⟩,
            ⟨(some 27), .move (.t 0), none⟩,
            ⟨(some 28), .len .slice (.t 27), none⟩,
            ⟨(some 29), .bin .int .lss (.t 26) (.t 28), none⟩])
          (.cond (.t 29)
           .skip
           (.exit 0)))
         (.seq
          (.block 1
           (.reg [⟨(some 32), .move (.t 7), none⟩,
             ⟨(some 33), .move (.t 0), none⟩,
             ⟨(some 34), .move (.t 8), none⟩,
             ⟨(some 35), .iaddr 10 (.t 33) (.t 34), none⟩,
             ⟨(some 36), .load (some 10) (.t 35), none⟩,
             ⟨(some 37), .lit false 58 10 [(.t 36)], none⟩,
             ⟨(some 38), .append 58 10 176 (.t 32) (.t 37), none⟩,
             ⟨(some 7), .move (.t 38), none⟩]))
          (.reg [⟨(some 30), .move (.t 8), none⟩,
            ⟨(some 31), .bin .int .add (.t 30) (.c (.int .i64 1)), none⟩,
            ⟨(some 8), .move (.t 31), none⟩]))))))
     (.seq
      (.reg [⟨(some 40), .move (.t 7), none⟩,
        ⟨(some 41), .load (some 10) (.t 3), none⟩,
        ⟨(some 42), .lit false 58 10 [(.t 41)], none⟩,
        ⟨(some 43), .append 58 10 176 (.t 40) (.t 42), none⟩,
        ⟨(some 44), .call 19 [(.t 43)], none⟩,
        ⟨(some 39), .move (.t 44), none⟩,
        ⟨(some 45), .extract (.t 39) 0, none⟩,
        ⟨(some 46), .extract (.t 39) 1, none⟩,
        ⟨(some 9), .move (.t 45), none⟩,
        ⟨(some 10), .move (.t 46), none⟩])
      (.seq
       (.seq
        (.reg [⟨(some 47), .move (.t 6), none⟩,
          ⟨(some 48), .bin .int .neq (.t 47) (.c (.int .i64 0)), none⟩,
          ⟨(some 49), .move (.t 48), none⟩,
          ⟨(some 50), .move (.t 10), some (49, false)⟩,
          ⟨(some 51), .bin .int .neq (.t 50) (.c (.int .i64 0)), some (49, false)⟩,
          ⟨(some 52), .pick (.t 49) (.c (.bool true)) (.t 51), none⟩])
        (.cond (.t 52)
         (.seq
          (.reg [⟨(some 53), .call 18 [], none⟩,
            ⟨(some 4), .move (.t 53), none⟩])
          .ret)
         .skip))
       (.seq
        (.reg [⟨(some 54), .move (.t 9), none⟩,
          ⟨(some 55), .len .slice (.t 54), none⟩,
          ⟨(some 56), .move (.t 5), none⟩,
          ⟨(some 57), .len .slice (.t 56), none⟩,
          ⟨(some 58), .bin .int .gtr (.t 55) (.t 57), none⟩,
          ⟨(some 59), .move (.t 58), none⟩,
          ⟨(some 60), .move (.t 9), some (59, true)⟩,
          ⟨(some 61), .move (.t 5), some (59, true)⟩,
          ⟨(some 62), .len .slice (.t 61), some (59, true)⟩,
          ⟨(some 63), .cut .slice 11 (.t 60) none (some (.t 62)), some (59, true)⟩,
          ⟨(some 65), .move (.t 5), some (59, true)⟩,
          ⟨(some 64), .call 22 [(.t 63)], some (59, true)⟩,
          ⟨(some 66), .call 22 [(.t 65)], some (59, true)⟩,
          ⟨(some 67), .call 24 [(.t 64), (.t 66)], some (59, true)⟩,
          ⟨(some 68), .pick (.t 59) (.t 67) (.c (.bool false)), none⟩,
          ⟨(some 69), .move (.t 68), none⟩,
          ⟨(some 70), .move (.t 9), some (69, true)⟩,
          ⟨(some 71), .move (.t 5), some (69, true)⟩,
          ⟨(some 72), .len .slice (.t 71), some (69, true)⟩,
          ⟨(some 73), .iaddr 11 (.t 70) (.t 72), some (69, true)⟩,
          ⟨(some 74), .faddr 0 (.t 73), some (69, true)⟩,
          ⟨(some 75), .load none (.t 74), some (69, true)⟩,
          ⟨(some 76), .faddr 0 (.t 3), some (69, true)⟩,
          ⟨(some 77), .load none (.t 76), some (69, true)⟩,
          ⟨(some 78), .bin .str .eql (.t 75) (.t 77), some (69, true)⟩,
          ⟨(some 79), .pick (.t 69) (.t 78) (.c (.bool false)), none⟩,
          ⟨(some 80), .move (.t 79), none⟩,
          ⟨(some 81), .call 18 [], some (80, true)⟩,
          ⟨(some 82), .pick (.t 80) (.t 81) (.c (.bool false)), none⟩,
          ⟨(some 4), .move (.t 82), none⟩])
        .ret))))))))
theorem in5 {args : List AV} {σ : Store} {K : AV → Store → Prop} (hargs : args.length ≤ 83 := by simp) (h : AWP Try.prog Try.f5.ntmps c5 (fun e t s => match e with | .exit _ => False | _ => Res [.slot 4] K t s) (env (argList 0 args)) σ) : ACalls Try.prog 5 args σ K :=
  enter (own := []) Try.func5 (by kernel_rfl) (by kernel_rfl) (by kernel_rfl) hargs h
/-- changeling/changelinglaw15.small -/
def c16 : ACode :=
(.seq
 (.reg [⟨(some 2), .move (.c (.bool false)), none⟩])
 (.seq
  (.reg [⟨(some 3), .move (.c (.int .i64 0)), none⟩])
  (.seq
   (.seq
    (.reg [⟨(some 4), .move (.c (.int .i64 0)), none⟩])
    (.block 0
     (.loop
      (.seq
       (.seq
        (.reg [⟨(some 5), .move (.t 4), none⟩,
          ⟨(some 6), .move (.t 0), none⟩,
          ⟨(some 7), .len .slice (.t 6), none⟩,
          ⟨(some 8), .bin .int .lss (.t 5) (.t 7), none⟩])
        (.cond (.t 8)
         .skip
         (.exit 0)))
       (.seq
        (.block 1
         (.seq
          (.seq
           (.reg [⟨(some 11), .move (.t 4), none⟩,
             ⟨(some 12), .bin .int .gtr (.t 11) (.c (.int .i64 200)), none⟩,
             ⟨(some 13), .move (.t 12), none⟩,
             ⟨(some 14), .move (.t 3), some (13, false)⟩,
             ⟨(some 15), .bin .int .gtr (.t 14) (.c (.int .i64 3000)), some (13, false)⟩,
             ⟨(some 16), .pick (.t 13) (.c (.bool true)) (.t 15), none⟩])
           (.cond (.t 16)
            (.seq
             (.reg [⟨(some 2), .move (.c (.bool false)), none⟩])
             .ret)
            .skip))
          (.reg [⟨(some 17), .move (.t 3), none⟩,
            ⟨(some 18), .move (.t 0), none⟩,
            ⟨(some 19), .move (.t 4), none⟩,
            ⟨(some 20), .iaddr 10 (.t 18) (.t 19), none⟩,
            ⟨(some 21), .faddr 1 (.t 20), none⟩,
            ⟨(some 22), .load (some 9) (.t 21), none⟩,
            ⟨(some 23), .call 17 [(.t 22)], none⟩,
            ⟨(some 24), .bin .int .add (.t 17) (.t 23), none⟩,
            ⟨(some 3), .move (.t 24), none⟩])))
        (.reg [⟨(some 9), .move (.t 4), none⟩,
          ⟨(some 10), .bin .int .add (.t 9) (.c (.int .i64 1)), none⟩,
          ⟨(some 4), .move (.t 10), none⟩]))))))
   (.seq
    (.reg [⟨(some 25), .move (.t 3), none⟩,
      ⟨(some 26), .bin .int .leq (.t 25) (.c (.int .i64 3000)), none⟩,
      ⟨(some 2), .move (.t 26), none⟩])
    .ret))))
theorem in16 {args : List AV} {σ : Store} {K : AV → Store → Prop} (hargs : args.length ≤ 27 := by simp) (h : AWP Try.prog Try.f16.ntmps c16 (fun e t s => match e with | .exit _ => False | _ => Res [.slot 2] K t s) (env (argList 0 args)) σ) : ACalls Try.prog 16 args σ K :=
  enter (own := []) Try.func16 (by kernel_rfl) (by kernel_rfl) (by kernel_rfl) hargs h
/-- changeling/changelingref14.Size -/
def c17 : ACode :=
(.seq
 (.reg [⟨(some 1), .new 54 (.t 0), none⟩,
   ⟨(some 2), .move (.c (.int .i64 0)), none⟩])
 (.seq
  (.reg [⟨(some 3), .move (.c (.int .i64 1)), none⟩])
  (.seq
   (.seq
    (.reg [⟨(some 4), .move (.c (.int .i64 0)), none⟩])
    (.block 0
     (.loop
      (.seq
       (.seq
        (.reg [⟨(some 8), .move (.t 4), none⟩,
          ⟨(some 9), .faddr 5 (.t 1), none⟩,
          ⟨(some 10), .load none (.t 9), none⟩,
          ⟨(some 11), .len .slice (.t 10), none⟩,
          ⟨(some 12), .bin .int .lss (.t 8) (.t 11), none⟩])
        (.cond (.t 12)
         .skip
         (.exit 0)))
       (.seq
        (.block 1
         (.reg [⟨(some 15), .move (.t 3), none⟩,
           ⟨(some 16), .faddr 5 (.t 1), none⟩,
           ⟨(some 17), .load none (.t 16), none⟩,
           ⟨(some 18), .move (.t 4), none⟩,
           ⟨(some 19), .iaddr 9 (.t 17) (.t 18), none⟩,
           ⟨(some 20), .load (some 9) (.t 19), none⟩,
           ⟨(some 21), .call 17 [(.t 20)], none⟩,
           ⟨(some 22), .bin .int .add (.t 15) (.t 21), none⟩,
           ⟨(some 3), .move (.t 22), none⟩]))
        (.reg [⟨(some 13), .move (.t 4), none⟩,
          ⟨(some 14), .bin .int .add (.t 13) (.c (.int .i64 1)), none⟩,
          ⟨(some 4), .move (.t 14), none⟩]))))))
   (.seq
    (.seq
     (.reg [⟨(some 5), .move (.c (.int .i64 0)), none⟩])
     (.block 2
      (.loop
       (.seq
        (.seq
         (.reg [⟨(some 23), .move (.t 5), none⟩,
           ⟨(some 24), .faddr 6 (.t 1), none⟩,
           ⟨(some 25), .load none (.t 24), none⟩,
           ⟨(some 26), .len .slice (.t 25), none⟩,
           ⟨(some 27), .bin .int .lss (.t 23) (.t 26), none⟩])
         (.cond (.t 27)
          .skip
          (.exit 2)))
        (.seq
         (.block 3
          (.reg [⟨(some 30), .move (.t 3), none⟩,
            ⟨(some 31), .faddr 6 (.t 1), none⟩,
            ⟨(some 32), .load none (.t 31), none⟩,
            ⟨(some 33), .move (.t 5), none⟩,
            ⟨(some 34), .iaddr 13 (.t 32) (.t 33), none⟩,
            ⟨(some 35), .faddr 4 (.t 34), none⟩,
            ⟨(some 36), .load (some 9) (.t 35), none⟩,
            ⟨(some 37), .call 17 [(.t 36)], none⟩,
            ⟨(some 38), .bin .int .add (.t 30) (.t 37), none⟩,
            ⟨(some 3), .move (.t 38), none⟩]))
         (.reg [⟨(some 28), .move (.t 5), none⟩,
           ⟨(some 29), .bin .int .add (.t 28) (.c (.int .i64 1)), none⟩,
           ⟨(some 5), .move (.t 29), none⟩]))))))
    (.seq
     (.seq
      (.reg [⟨(some 6), .move (.c (.int .i64 0)), none⟩])
      (.block 4
       (.loop
        (.seq
         (.seq
          (.reg [⟨(some 39), .move (.t 6), none⟩,
            ⟨(some 40), .faddr 7 (.t 1), none⟩,
            ⟨(some 41), .load none (.t 40), none⟩,
            ⟨(some 42), .len .slice (.t 41), none⟩,
            ⟨(some 43), .bin .int .lss (.t 39) (.t 42), none⟩])
          (.cond (.t 43)
           .skip
           (.exit 4)))
         (.seq
          (.block 5
           (.reg [⟨(some 46), .move (.t 3), none⟩,
             ⟨(some 47), .faddr 7 (.t 1), none⟩,
             ⟨(some 48), .load none (.t 47), none⟩,
             ⟨(some 49), .move (.t 6), none⟩,
             ⟨(some 50), .iaddr 10 (.t 48) (.t 49), none⟩,
             ⟨(some 51), .faddr 1 (.t 50), none⟩,
             ⟨(some 52), .load (some 9) (.t 51), none⟩,
             ⟨(some 53), .call 17 [(.t 52)], none⟩,
             ⟨(some 54), .bin .int .add (.t 46) (.t 53), none⟩,
             ⟨(some 3), .move (.t 54), none⟩]))
          (.reg [⟨(some 44), .move (.t 6), none⟩,
            ⟨(some 45), .bin .int .add (.t 44) (.c (.int .i64 1)), none⟩,
            ⟨(some 6), .move (.t 45), none⟩]))))))
     (.seq
      (.seq
       (.reg [⟨(some 7), .move (.c (.int .i64 0)), none⟩])
       (.block 6
        (.loop
         (.seq
          (.seq
           (.reg [⟨(some 55), .move (.t 7), none⟩,
             ⟨(some 56), .faddr 8 (.t 1), none⟩,
             ⟨(some 57), .load none (.t 56), none⟩,
             ⟨(some 58), .len .slice (.t 57), none⟩,
             ⟨(some 59), .bin .int .lss (.t 55) (.t 58), none⟩])
           (.cond (.t 59)
            .skip
            (.exit 6)))
          (.seq
           (.block 7
            (.reg [⟨(some 62), .move (.t 3), none⟩,
              ⟨(some 63), .faddr 8 (.t 1), none⟩,
              ⟨(some 64), .load none (.t 63), none⟩,
              ⟨(some 65), .move (.t 7), none⟩,
              ⟨(some 66), .iaddr 10 (.t 64) (.t 65), none⟩,
              ⟨(some 67), .faddr 1 (.t 66), none⟩,
              ⟨(some 68), .load (some 9) (.t 67), none⟩,
              ⟨(some 69), .call 17 [(.t 68)], none⟩,
              ⟨(some 70), .bin .int .add (.t 62) (.t 69), none⟩,
              ⟨(some 3), .move (.t 70), none⟩]))
           (.reg [⟨(some 60), .move (.t 7), none⟩,
             ⟨(some 61), .bin .int .add (.t 60) (.c (.int .i64 1)), none⟩,
             ⟨(some 7), .move (.t 61), none⟩]))))))
      (.seq
       (.reg [⟨(some 71), .move (.t 3), none⟩,
         ⟨(some 2), .move (.t 71), none⟩])
       .ret)))))))
theorem in17 {args : List AV} {σ : Store} {K : AV → Store → Prop} (hargs : args.length ≤ 72 := by simp) (h : AWP Try.prog Try.f17.ntmps c17 (fun e t s => match e with | .exit _ => False | _ => Res [.slot 2] K t s) (env (argList 0 args)) σ) : ACalls Try.prog 17 args σ K :=
  enter (own := []) Try.func17 (by kernel_rfl) (by kernel_rfl) (by kernel_rfl) hargs h
/-- changeling/lift.Lift -/
def c19 : ACode :=
(.seq
 (.reg [⟨(some 2), .move (.c .nils), none⟩,
   ⟨(some 3), .move (.c (.int .i64 0)), none⟩])
 (.seq
  (.seq
   (.reg [⟨(some 10), .move (.t 0), none⟩,
     ⟨(some 11), .call 47 [(.t 10)], none⟩,
     ⟨(some 12), .not (.t 11), none⟩])
   (.cond (.t 12)
    (.seq
     (.reg [⟨(some 2), .move (.c .nils), none⟩,
       ⟨(some 3), .move (.c (.int .i64 1)), none⟩])
     .ret)
    .skip))
  (.seq
   (.reg [⟨(some 4), .move (.c .nils), none⟩])
   (.seq
    (.seq
     (.reg [⟨(some 13), .move (.t 0), none⟩,
       ⟨(some 14), .len .slice (.t 13), none⟩,
       ⟨(some 15), .move (.c (.int .i64 0)), none⟩])
     (.block 0
      (.loop
       (.seq
        (.reg [⟨(some 16), .bin .int .lss (.t 15) (.t 14), none⟩])
        (.seq
         (.cond (.t 16)
          .skip
          (.exit 0))
         (.seq
          (.block 1
           (.seq
            (.reg [⟨(some 17), .iaddr 10 (.t 13) (.t 15), none⟩,
              ⟨(some 18), .load (some 10) (.t 17), none⟩,
              ⟨(some 6), .new 58 (.c (.agg [(.str ⟨#[]⟩), (.int .i64 0), (.str ⟨#[]⟩), (.int .i64 0), (.int .i64 0), .nils, .nils, .nils, .nils, .nils])), none⟩,
              ⟨none, .store 10 (.t 6) (.t 18), none⟩])
            (.seq
             (.reg [⟨(some 19), .faddr 0 (.t 6), none⟩,
               ⟨(some 20), .load none (.t 19), none⟩,
               ⟨(some 21), .build [(.str ⟨#[]⟩), .nils] [(0, 1, (.t 20))], none⟩,
               ⟨(some 22), .new 120 (.t 21), none⟩,
               ⟨(some 7), .move (.t 22), none⟩])
             (.seq
              (.reg [⟨(some 23), .faddr 0 (.t 6), none⟩,
                ⟨(some 24), .load none (.t 23), none⟩,
                ⟨(some 25), .build [(.str ⟨#[]⟩), .nils, (.int .i64 0), (.str ⟨#[]⟩), (.int .i64 0), (.int .i64 0), .nils, .nils, .nils, .nils, .nils] [(0, 1, (.t 24))], none⟩,
                ⟨(some 8), .new 71 (.c (.agg [(.str ⟨#[]⟩), .nils, (.int .i64 0), (.str ⟨#[]⟩), (.int .i64 0), (.int .i64 0), .nils, .nils, .nils, .nils, .nils])), none⟩,
                ⟨none, .store 11 (.t 8) (.t 25), none⟩])
              (.seq
               (.reg [⟨(some 26), .faddr 1 (.t 6), none⟩,
                 ⟨(some 27), .load (some 9) (.t 26), none⟩,
                 ⟨(some 9), .new 54 (.c (.agg [(.int .i64 0), (.str ⟨#[]⟩), (.int .i64 0), (.int .i64 0), .nils, .nils, .nils, .nils, .nils])), none⟩,
                 ⟨none, .store 9 (.t 9) (.t 27), none⟩])
               (.seq
                (.seq
                 (.reg [⟨(some 28), .faddr 0 (.t 9), none⟩,
                   ⟨(some 29), .load none (.t 28), none⟩,
                   ⟨(some 30), .bin .int .eql (.t 29) (.c (.int .i64 6)), none⟩])
                 (.cond (.t 30)
                  (.seq
                   (.reg [⟨(some 31), .faddr 1 (.t 8), none⟩,
                     ⟨(some 32), .load none (.t 31), none⟩,
                     ⟨(some 33), .faddr 4 (.t 9), none⟩,
                     ⟨(some 34), .load none (.t 33), none⟩,
                     ⟨(some 35), .append 9 1 16 (.t 32) (.t 34), none⟩,
                     ⟨(some 36), .faddr 1 (.t 8), none⟩,
                     ⟨none, .store 1 (.t 36) (.t 35), none⟩])
                   (.reg [⟨(some 37), .faddr 5 (.t 9), none⟩,
                     ⟨(some 38), .load none (.t 37), none⟩,
                     ⟨(some 39), .iaddr 9 (.t 38) (.c (.int .i64 0)), none⟩,
                     ⟨(some 40), .load (some 9) (.t 39), none⟩,
                     ⟨none, .store 9 (.t 9) (.t 40), none⟩]))
                  .skip))
                (.seq
                 (.reg [⟨(some 41), .move (.t 7), none⟩,
                   ⟨(some 42), .load (some 9) (.t 9), none⟩,
                   ⟨(some 43), .call 48 [(.t 41), (.t 42)], none⟩,
                   ⟨(some 44), .faddr 2 (.t 8), none⟩,
                   ⟨none, .store 9 (.t 44) (.t 43), none⟩])
                 (.seq
                  (.reg [⟨(some 45), .move (.t 4), none⟩,
                    ⟨(some 46), .load (some 11) (.t 8), none⟩,
                    ⟨(some 47), .lit false 71 11 [(.t 46)], none⟩,
                    ⟨(some 48), .append 71 11 200 (.t 45) (.t 47), none⟩,
                    ⟨(some 4), .move (.t 48), none⟩])
                  (.reg [⟨(some 49), .move (.t 4), none⟩,
                    ⟨(some 50), .move (.t 7), none⟩,
                    ⟨(some 51), .nilck (.t 50), none⟩,
                    ⟨(some 52), .faddr 1 (.t 51), none⟩,
                    ⟨(some 53), .load none (.t 52), none⟩,
                    ⟨(some 54), .append 71 11 200 (.t 49) (.t 53), none⟩,
                    ⟨(some 4), .move (.t 54), none⟩])))))))))
          (.reg [⟨(some 55), .bin .int .add (.t 15) (.c (.int .i64 1)), none⟩,
            ⟨(some 15), .move (.t 55), none⟩])))))))
    (.seq
     (.reg [⟨(some 56), .move (.t 4), none⟩,
       ⟨(some 2), .move (.t 56), none⟩,
       ⟨(some 3), .move (.c (.int .i64 0)), none⟩])
     .ret)))))
theorem in19 {args : List AV} {σ : Store} {K : AV → Store → Prop} (hargs : args.length ≤ 57 := by simp) (h : AWP Try.prog Try.f19.ntmps c19 (fun e t s => match e with | .exit _ => False | _ => Res [.slot 2, .slot 3] K t s) (env (argList 0 args)) σ) : ACalls Try.prog 19 args σ K :=
  enter (own := []) Try.func19 (by kernel_rfl) (by kernel_rfl) (by kernel_rfl) hargs h
/-- changeling/lift.Right -/
def c47 : ACode :=
(.seq
 (.reg [⟨(some 2), .move (.c (.bool false)), none⟩])
 (.seq
  (.reg [⟨(some 8), .build [.nils] [], none⟩,
    ⟨(some 9), .new 196 (.t 8), none⟩,
    ⟨(some 3), .move (.t 9), none⟩])
  (.seq
   (.seq
    (.reg [⟨(some 10), .move (.t 0), none⟩,
      ⟨(some 11), .len .slice (.t 10), none⟩,
      ⟨(some 12), .move (.c (.int .i64 0)), none⟩])
    (.block 0
     (.loop
      (.seq
       (.reg [⟨(some 13), .bin .int .lss (.t 12) (.t 11), none⟩])
       (.seq
        (.cond (.t 13)
         .skip
         (.exit 0))
        (.seq
         (.block 1
          (.seq
           (.reg [⟨(some 14), .iaddr 10 (.t 10) (.t 12), none⟩,
             ⟨(some 15), .load (some 10) (.t 14), none⟩,
             ⟨(some 5), .new 58 (.c (.agg [(.str ⟨#[]⟩), (.int .i64 0), (.str ⟨#[]⟩), (.int .i64 0), (.int .i64 0), .nils, .nils, .nils, .nils, .nils])), none⟩,
             ⟨none, .store 10 (.t 5) (.t 15), none⟩])
           (.seq
            (.seq
             (.reg [⟨(some 16), .faddr 0 (.t 5), none⟩,
               ⟨(some 17), .load none (.t 16), none⟩,
               ⟨(some 18), .bin .str .eql (.t 17) (.c (.str ⟨#[]⟩)), none⟩,
               ⟨(some 19), .move (.t 18), none⟩,
               ⟨(some 20), .faddr 0 (.t 5), some (19, false)⟩,
               ⟨(some 21), .load none (.t 20), some (19, false)⟩,
               ⟨(some 22), .call 83 [(.t 21)], some (19, false)⟩,
               ⟨(some 23), .bin .int .gtr (.t 22) (.c (.int .i64 0)), some (19, false)⟩,
               ⟨(some 24), .pick (.t 19) (.c (.bool true)) (.t 23), none⟩,
               ⟨(some 25), .move (.t 24), none⟩,
               ⟨(some 26), .faddr 0 (.t 5), some (25, false)⟩,
               ⟨(some 27), .load none (.t 26), some (25, false)⟩,
               ⟨(some 28), .call 84 [(.t 27)], some (25, false)⟩,
               ⟨(some 29), .pick (.t 25) (.c (.bool true)) (.t 28), none⟩,
               ⟨(some 30), .move (.t 29), none⟩,
               ⟨(some 31), .move (.t 3), some (30, false)⟩,
               ⟨(some 32), .nilck (.t 31), some (30, false)⟩,
               ⟨(some 33), .faddr 0 (.t 32), some (30, false)⟩,
               ⟨(some 34), .load none (.t 33), some (30, false)⟩,
               ⟨(some 35), .faddr 0 (.t 5), some (30, false)⟩,
               ⟨(some 36), .load none (.t 35), some (30, false)⟩,
               ⟨(some 37), .call 85 [(.t 34), (.t 36)], some (30, false)⟩,
               ⟨(some 38), .pick (.t 30) (.c (.bool true)) (.t 37), none⟩])
             (.cond (.t 38)
              (.seq
               (.reg [⟨(some 2), .move (.c (.bool false)), none⟩])
               .ret)
              .skip))
            (.reg [⟨(some 39), .move (.t 3), none⟩,
              ⟨(some 40), .move (.t 3), none⟩,
              ⟨(some 41), .nilck (.t 40), none⟩,
              ⟨(some 42), .faddr 0 (.t 41), none⟩,
              ⟨(some 43), .load none (.t 42), none⟩,
              ⟨(some 44), .faddr 0 (.t 5), none⟩,
              ⟨(some 45), .load none (.t 44), none⟩,
              ⟨(some 46), .lit false 9 1 [(.t 45)], none⟩,
              ⟨(some 47), .append 9 1 16 (.t 43) (.t 46), none⟩,
              ⟨(some 48), .nilck (.t 39), none⟩,
              ⟨(some 49), .faddr 0 (.t 48), none⟩,
              ⟨none, .store 1 (.t 49) (.t 47), none⟩]))))
         (.reg [⟨(some 50), .bin .int .add (.t 12) (.c (.int .i64 1)), none⟩,
           ⟨(some 12), .move (.t 50), none⟩])))))))
   (.seq
    (.seq
     (.reg [⟨(some 51), .move (.t 0), none⟩,
       ⟨(some 52), .len .slice (.t 51), none⟩,
       ⟨(some 53), .move (.c (.int .i64 0)), none⟩])
     (.block 2
      (.loop
       (.seq
        (.reg [⟨(some 54), .bin .int .lss (.t 53) (.t 52), none⟩])
        (.seq
         (.cond (.t 54)
          .skip
          (.exit 2))
         (.seq
          (.block 3
           (.seq
            (.reg [⟨(some 55), .iaddr 10 (.t 51) (.t 53), none⟩,
              ⟨(some 56), .load (some 10) (.t 55), none⟩,
              ⟨(some 7), .new 58 (.c (.agg [(.str ⟨#[]⟩), (.int .i64 0), (.str ⟨#[]⟩), (.int .i64 0), (.int .i64 0), .nils, .nils, .nils, .nils, .nils])), none⟩,
              ⟨none, .store 10 (.t 7) (.t 56), none⟩])
            (.seq
             (.reg [⟨(some 57), .move (.t 3), none⟩,
               ⟨(some 58), .faddr 1 (.t 7), none⟩,
               ⟨(some 59), .load (some 9) (.t 58), none⟩,
               ⟨(some 60), .call 86 [(.t 57), (.t 59), (.c .nils)], none⟩,
               ⟨(some 61), .not (.t 60), none⟩])
             (.cond (.t 61)
              (.seq
               (.reg [⟨(some 2), .move (.c (.bool false)), none⟩])
               .ret)
              .skip))))
          (.reg [⟨(some 62), .bin .int .add (.t 53) (.c (.int .i64 1)), none⟩,
            ⟨(some 53), .move (.t 62), none⟩])))))))
    (.seq
     (.reg [⟨(some 2), .move (.c (.bool true)), none⟩])
     .ret)))))
theorem in47 {args : List AV} {σ : Store} {K : AV → Store → Prop} (hargs : args.length ≤ 63 := by simp) (h : AWP Try.prog Try.f47.ntmps c47 (fun e t s => match e with | .exit _ => False | _ => Res [.slot 2] K t s) (env (argList 0 args)) σ) : ACalls Try.prog 47 args σ K :=
  enter (own := []) Try.func47 (by kernel_rfl) (by kernel_rfl) (by kernel_rfl) hargs h
/-- changeling/num.Op -/
def c83 : ACode :=
(.seq
 (.reg [⟨(some 2), .move (.c (.int .i64 0)), none⟩])
 (.seq
  (.seq
   (.reg [⟨(some 4), .move (.t 0), none⟩,
     ⟨(some 5), .bin .str .eql (.t 4) (.c (.str ⟨#[]⟩)), none⟩])
   (.cond (.t 5)
    (.seq
     (.reg [⟨(some 2), .move (.c (.int .i64 0)), none⟩])
     .ret)
    .skip))
  (.seq
   (.seq
    (.reg [⟨(some 3), .move (.c (.int .i64 1)), none⟩])
    (.block 0
     (.loop
      (.seq
       (.seq
        (.reg [⟨(some 6), .move (.t 3), none⟩,
          ⟨(some 7), .bin .int .leq (.t 6) (.c (.int .i64 11)), none⟩])
        (.cond (.t 7)
         .skip
         (.exit 0)))
       (.seq
        (.block 1
         (.seq
          (.reg [⟨(some 10), .move (.t 3), none⟩,
            ⟨(some 11), .call 110 [(.t 10)], none⟩,
            ⟨(some 12), .move (.t 0), none⟩,
            ⟨(some 13), .bin .str .eql (.t 11) (.t 12), none⟩])
          (.cond (.t 13)
           (.seq
            (.reg [⟨(some 14), .move (.t 3), none⟩,
              ⟨(some 2), .move (.t 14), none⟩])
            .ret)
           .skip)))
        (.reg [⟨(some 8), .move (.t 3), none⟩,
          ⟨(some 9), .bin .int .add (.t 8) (.c (.int .i64 1)), none⟩,
          ⟨(some 3), .move (.t 9), none⟩]))))))
   (.seq
    (.reg [⟨(some 2), .move (.c (.int .i64 0)), none⟩])
    .ret))))
theorem in83 {args : List AV} {σ : Store} {K : AV → Store → Prop} (hargs : args.length ≤ 15 := by simp) (h : AWP Try.prog Try.f83.ntmps c83 (fun e t s => match e with | .exit _ => False | _ => Res [.slot 2] K t s) (env (argList 0 args)) σ) : ACalls Try.prog 83 args σ K :=
  enter (own := []) Try.func83 (by kernel_rfl) (by kernel_rfl) (by kernel_rfl) hargs h
/-- changeling/num.Name -/
def c110 : ACode :=
(.seq
 (.reg [⟨(some 2), .move (.c (.str ⟨#[]⟩)), none⟩])
 (.seq
  (.seq
   (.reg [⟨(some 3), .move (.t 0), none⟩])
   (.block 0
    (.seq
     (.reg [⟨(some 5), .bin .int .eql (.t 3) (.c (.int .i64 1)), none⟩,
       ⟨(some 4), .move (.t 5), none⟩])
     (.cond (.t 4)
      (.seq
       (.reg [⟨(some 2), .move (.c (.str ⟨#[43]⟩)), none⟩])
       .ret)
      (.seq
       (.reg [⟨(some 7), .bin .int .eql (.t 3) (.c (.int .i64 2)), none⟩,
         ⟨(some 6), .move (.t 7), none⟩])
       (.cond (.t 6)
        (.seq
         (.reg [⟨(some 2), .move (.c (.str ⟨#[45]⟩)), none⟩])
         .ret)
        (.seq
         (.reg [⟨(some 9), .bin .int .eql (.t 3) (.c (.int .i64 3)), none⟩,
           ⟨(some 8), .move (.t 9), none⟩])
         (.cond (.t 8)
          (.seq
           (.reg [⟨(some 2), .move (.c (.str ⟨#[42]⟩)), none⟩])
           .ret)
          (.seq
           (.reg [⟨(some 11), .bin .int .eql (.t 3) (.c (.int .i64 4)), none⟩,
             ⟨(some 10), .move (.t 11), none⟩])
           (.cond (.t 10)
            (.seq
             (.reg [⟨(some 2), .move (.c (.str ⟨#[47]⟩)), none⟩])
             .ret)
            (.seq
             (.reg [⟨(some 13), .bin .int .eql (.t 3) (.c (.int .i64 5)), none⟩,
               ⟨(some 12), .move (.t 13), none⟩])
             (.cond (.t 12)
              (.seq
               (.reg [⟨(some 2), .move (.c (.str ⟨#[37]⟩)), none⟩])
               .ret)
              (.seq
               (.reg [⟨(some 15), .bin .int .eql (.t 3) (.c (.int .i64 6)), none⟩,
                 ⟨(some 14), .move (.t 15), none⟩])
               (.cond (.t 14)
                (.seq
                 (.reg [⟨(some 2), .move (.c (.str ⟨#[61, 61]⟩)), none⟩])
                 .ret)
                (.seq
                 (.reg [⟨(some 17), .bin .int .eql (.t 3) (.c (.int .i64 7)), none⟩,
                   ⟨(some 16), .move (.t 17), none⟩])
                 (.cond (.t 16)
                  (.seq
                   (.reg [⟨(some 2), .move (.c (.str ⟨#[47, 61]⟩)), none⟩])
                   .ret)
                  (.seq
                   (.reg [⟨(some 19), .bin .int .eql (.t 3) (.c (.int .i64 8)), none⟩,
                     ⟨(some 18), .move (.t 19), none⟩])
                   (.cond (.t 18)
                    (.seq
                     (.reg [⟨(some 2), .move (.c (.str ⟨#[60]⟩)), none⟩])
                     .ret)
                    (.seq
                     (.reg [⟨(some 21), .bin .int .eql (.t 3) (.c (.int .i64 9)), none⟩,
                       ⟨(some 20), .move (.t 21), none⟩])
                     (.cond (.t 20)
                      (.seq
                       (.reg [⟨(some 2), .move (.c (.str ⟨#[60, 61]⟩)), none⟩])
                       .ret)
                      (.seq
                       (.reg [⟨(some 23), .bin .int .eql (.t 3) (.c (.int .i64 10)), none⟩,
                         ⟨(some 22), .move (.t 23), none⟩])
                       (.cond (.t 22)
                        (.seq
                         (.reg [⟨(some 2), .move (.c (.str ⟨#[62]⟩)), none⟩])
                         .ret)
                        (.seq
                         (.reg [⟨(some 25), .bin .int .eql (.t 3) (.c (.int .i64 11)), none⟩,
                           ⟨(some 24), .move (.t 25), none⟩])
                         (.cond (.t 24)
                          (.seq
                           (.reg [⟨(some 2), .move (.c (.str ⟨#[62, 61]⟩)), none⟩])
                           .ret)
                          .skip))))))))))))))))))))))))
  (.seq
   (.reg [⟨(some 2), .move (.c (.str ⟨#[]⟩)), none⟩])
   .ret)))
theorem in110 {args : List AV} {σ : Store} {K : AV → Store → Prop} (hargs : args.length ≤ 26 := by simp) (h : AWP Try.prog Try.f110.ntmps c110 (fun e t s => match e with | .exit _ => False | _ => Res [.slot 2] K t s) (env (argList 0 args)) σ) : ACalls Try.prog 110 args σ K :=
  enter (own := []) Try.func110 (by kernel_rfl) (by kernel_rfl) (by kernel_rfl) hargs h
/-- changeling/lift.numbered -/
def c84 : ACode :=
(.seq
 (.reg [⟨(some 2), .move (.c (.bool false)), none⟩])
 (.seq
  (.reg [⟨(some 6), .move (.t 0), none⟩,
    ⟨(some 7), .call 140 [(.t 6), (.c (.str ⟨#[35]⟩))], none⟩,
    ⟨(some 3), .move (.t 7), none⟩])
  (.seq
   (.seq
    (.reg [⟨(some 8), .move (.t 3), none⟩,
      ⟨(some 9), .bin .int .lss (.t 8) (.c (.int .i64 0)), none⟩])
    (.cond (.t 9)
     (.seq
      (.reg [⟨(some 2), .move (.c (.bool false)), none⟩])
      .ret)
     .skip))
   (.seq
    (.reg [⟨(some 11), .move (.t 0), none⟩,
      ⟨(some 12), .move (.t 3), none⟩,
      ⟨(some 13), .bin .int .add (.t 12) (.c (.int .i64 1)), none⟩,
      ⟨(some 14), .cut .str 1 (.t 11) (some (.t 13)) none, none⟩,
      ⟨(some 15), .call 141 [(.t 14)], none⟩,
      ⟨(some 10), .move (.t 15), none⟩,
      ⟨(some 16), .extract (.t 10) 0, none⟩,
      ⟨(some 17), .extract (.t 10) 1, none⟩,
      ⟨(some 4), .move (.t 16), none⟩,
      ⟨(some 5), .move (.t 17), none⟩])
    (.seq
     (.reg [⟨(some 18), .move (.t 5), none⟩,
       ⟨(some 19), .bin .int .eql (.t 18) (.c (.int .i64 0)), none⟩,
       ⟨(some 2), .move (.t 19), none⟩])
     .ret)))))
theorem in84 {args : List AV} {σ : Store} {K : AV → Store → Prop} (hargs : args.length ≤ 20 := by simp) (h : AWP Try.prog Try.f84.ntmps c84 (fun e t s => match e with | .exit _ => False | _ => Res [.slot 2] K t s) (env (argList 0 args)) σ) : ACalls Try.prog 84 args σ K :=
  enter (own := []) Try.func84 (by kernel_rfl) (by kernel_rfl) (by kernel_rfl) hargs h
/-- strings.LastIndex -/
def c140 : ACode :=
(.seq
 (.reg [⟨(some 4), .move (.c (.int .i64 0)), none⟩])
 (.seq
  (.reg [⟨(some 6), .move (.t 1), none⟩,
    ⟨(some 7), .len .str (.t 6), none⟩,
    ⟨(some 5), .move (.t 7), none⟩])
  (.seq
   (.block 0
    (.seq
     (.reg [⟨(some 9), .move (.t 5), none⟩,
       ⟨(some 10), .bin .int .eql (.t 9) (.c (.int .i64 0)), none⟩,
       ⟨(some 8), .move (.t 10), none⟩])
     (.cond (.t 8)
      (.seq
       (.reg [⟨(some 11), .move (.t 0), none⟩,
         ⟨(some 12), .len .str (.t 11), none⟩,
         ⟨(some 4), .move (.t 12), none⟩])
       .ret)
      (.seq
       (.reg [⟨(some 14), .move (.t 5), none⟩,
         ⟨(some 15), .bin .int .eql (.t 14) (.c (.int .i64 1)), none⟩,
         ⟨(some 13), .move (.t 15), none⟩])
       (.cond (.t 13)
        (.seq
         (.reg [⟨(some 16), .move (.t 0), none⟩,
           ⟨(some 17), .move (.t 1), none⟩,
           ⟨(some 18), .index (.t 17) (.c (.int .i64 0)), none⟩,
           ⟨(some 19), .call 158 [(.t 16), (.t 18)], none⟩,
           ⟨(some 4), .move (.t 19), none⟩])
         .ret)
        (.seq
         (.reg [⟨(some 21), .move (.t 5), none⟩,
           ⟨(some 22), .move (.t 0), none⟩,
           ⟨(some 23), .len .str (.t 22), none⟩,
           ⟨(some 24), .bin .int .eql (.t 21) (.t 23), none⟩,
           ⟨(some 20), .move (.t 24), none⟩])
         (.cond (.t 20)
          (.seq
           (.seq
            (.reg [⟨(some 25), .move (.t 1), none⟩,
              ⟨(some 26), .move (.t 0), none⟩,
              ⟨(some 27), .bin .str .eql (.t 25) (.t 26), none⟩])
            (.cond (.t 27)
             (.seq
              (.reg [⟨(some 4), .move (.c (.int .i64 0)), none⟩])
              .ret)
             .skip))
           (.seq
            (.reg [⟨(some 4), .move (.c (.int .i64 (-1))), none⟩])
            .ret))
          (.seq
           (.reg [⟨(some 29), .move (.t 5), none⟩,
             ⟨(some 30), .move (.t 0), none⟩,
             ⟨(some 31), .len .str (.t 30), none⟩,
             ⟨(some 32), .bin .int .gtr (.t 29) (.t 31), none⟩,
             ⟨(some 28), .move (.t 32), none⟩])
           (.cond (.t 28)
            (.seq
             (.reg [⟨(some 4), .move (.c (.int .i64 (-1))), none⟩])
             .ret)
            .skip)))))))))
   (.seq
    (.reg [⟨(some 33), .move (.t 0), none⟩,
      ⟨(some 34), .move (.t 1), none⟩,
      ⟨(some 35), .call 159 [(.t 33), (.t 34)], none⟩,
      ⟨(some 4), .move (.t 35), none⟩])
    .ret))))
theorem in140 {args : List AV} {σ : Store} {K : AV → Store → Prop} (hargs : args.length ≤ 36 := by simp) (h : AWP Try.prog Try.f140.ntmps c140 (fun e t s => match e with | .exit _ => False | _ => Res [.slot 4] K t s) (env (argList 0 args)) σ) : ACalls Try.prog 140 args σ K :=
  enter (own := []) Try.func140 (by kernel_rfl) (by kernel_rfl) (by kernel_rfl) hargs h
/-- internal/bytealg.LastIndexByteString -/
def c158 : ACode :=
(.seq
 (.reg [⟨(some 4), .move (.c (.int .i64 0)), none⟩])
 (.seq
  (.seq
   (.reg [⟨(some 6), .move (.t 0), none⟩,
     ⟨(some 7), .len .str (.t 6), none⟩,
     ⟨(some 8), .bin .int .sub (.t 7) (.c (.int .i64 1)), none⟩,
     ⟨(some 5), .move (.t 8), none⟩])
   (.block 0
    (.loop
     (.seq
      (.seq
       (.reg [⟨(some 9), .move (.t 5), none⟩,
         ⟨(some 10), .bin .int .geq (.t 9) (.c (.int .i64 0)), none⟩])
       (.cond (.t 10)
        .skip
        (.exit 0)))
      (.seq
       (.block 1
        (.seq
         (.reg [⟨(some 13), .move (.t 0), none⟩,
           ⟨(some 14), .move (.t 5), none⟩,
           ⟨(some 15), .index (.t 13) (.t 14), none⟩,
           ⟨(some 16), .move (.t 1), none⟩,
           ⟨(some 17), .bin .int .eql (.t 15) (.t 16), none⟩])
         (.cond (.t 17)
          (.seq
           (.reg [⟨(some 18), .move (.t 5), none⟩,
             ⟨(some 4), .move (.t 18), none⟩])
           .ret)
          .skip)))
       (.reg [⟨(some 11), .move (.t 5), none⟩,
         ⟨(some 12), .bin .int .sub (.t 11) (.c (.int .i64 1)), none⟩,
         ⟨(some 5), .move (.t 12), none⟩]))))))
  (.seq
   (.reg [⟨(some 4), .move (.c (.int .i64 (-1))), none⟩])
   .ret)))
theorem in158 {args : List AV} {σ : Store} {K : AV → Store → Prop} (hargs : args.length ≤ 19 := by simp) (h : AWP Try.prog Try.f158.ntmps c158 (fun e t s => match e with | .exit _ => False | _ => Res [.slot 4] K t s) (env (argList 0 args)) σ) : ACalls Try.prog 158 args σ K :=
  enter (own := []) Try.func158 (by kernel_rfl) (by kernel_rfl) (by kernel_rfl) hargs h
/-- changeling/num.Parse -/
def c141 : ACode :=
(.seq
 (.reg [⟨(some 2), .move (.c (.int .i64 0)), none⟩,
   ⟨(some 3), .move (.c (.int .i64 0)), none⟩])
 (.scope
  (.seq
   (.reg [⟨(some 10), .move (.t 0), none⟩,
     ⟨(some 4), .move (.t 10), none⟩])
   (.seq
    (.reg [⟨(some 11), .move (.t 0), none⟩,
      ⟨(some 12), .len .str (.t 11), none⟩,
      ⟨(some 13), .bin .int .gtr (.t 12) (.c (.int .i64 0)), none⟩,
      ⟨(some 14), .move (.t 13), none⟩,
      ⟨(some 15), .move (.t 0), some (14, true)⟩,
      ⟨(some 16), .index (.t 15) (.c (.int .i64 0)), some (14, true)⟩,
      ⟨(some 17), .bin .int .eql (.t 16) (.c (.int .u8 45)), some (14, true)⟩,
      ⟨(some 18), .pick (.t 14) (.t 17) (.c (.bool false)), none⟩,
      ⟨(some 5), .move (.t 18), none⟩])
    (.seq
     (.seq
      (.reg [⟨(some 19), .move (.t 5), none⟩])
      (.cond (.t 19)
       (.reg [⟨(some 20), .move (.t 0), none⟩,
         ⟨(some 21), .cut .str 1 (.t 20) (some (.c (.int .i64 1))) none, none⟩,
         ⟨(some 4), .move (.t 21), none⟩])
       .skip))
     (.seq
      (.seq
       (.reg [⟨(some 22), .move (.t 4), none⟩,
         ⟨(some 23), .bin .str .eql (.t 22) (.c (.str ⟨#[]⟩)), none⟩,
         ⟨(some 24), .move (.t 23), none⟩,
         ⟨(some 25), .move (.t 4), some (24, false)⟩,
         ⟨(some 26), .len .str (.t 25), some (24, false)⟩,
         ⟨(some 27), .bin .int .gtr (.t 26) (.c (.int .i64 19)), some (24, false)⟩,
         ⟨(some 28), .pick (.t 24) (.c (.bool true)) (.t 27), none⟩,
         ⟨(some 29), .move (.t 28), none⟩,
         ⟨(some 30), .move (.t 4), some (29, false)⟩,
         ⟨(some 31), .index (.t 30) (.c (.int .i64 0)), some (29, false)⟩,
         ⟨(some 32), .bin .int .eql (.t 31) (.c (.int .u8 48)), some (29, false)⟩,
         ⟨(some 33), .move (.t 32), some (29, false)⟩,
         ⟨(some 34), .move (.t 0), some (33, true)⟩,
         ⟨(some 35), .len .str (.t 34), some (33, true)⟩,
         ⟨(some 36), .bin .int .gtr (.t 35) (.c (.int .i64 1)), some (33, true)⟩,
         ⟨(some 37), .pick (.t 33) (.t 36) (.c (.bool false)), some (29, false)⟩,
         ⟨(some 38), .pick (.t 29) (.c (.bool true)) (.t 37), none⟩])
       (.cond (.t 38)
        (.seq
         (.reg [⟨(some 2), .move (.c (.int .i64 0)), none⟩,
           ⟨(some 3), .move (.c (.int .i64 11)), none⟩])
         .ret)
        .skip))
      (.seq
       (.reg [⟨(some 6), .move (.c (.int .u64 0)), none⟩])
       (.seq
        (.reg [⟨(some 7), .move (.c (.bool true)), none⟩])
        (.seq
         .skip
         (.seq
          (.seq
           (.reg [⟨(some 8), .move (.c (.int .i64 0)), none⟩])
           (.block 0
            (.loop
             (.seq
              (.seq
               (.reg [⟨(some 39), .move (.t 8), none⟩,
                 ⟨(some 40), .move (.t 4), none⟩,
                 ⟨(some 41), .len .str (.t 40), none⟩,
                 ⟨(some 42), .bin .int .lss (.t 39) (.t 41), none⟩])
               (.cond (.t 42)
                .skip
                (.exit 0)))
              (.seq
               (.block 1
                (.seq
                 (.reg [⟨(some 45), .move (.t 4), none⟩,
                   ⟨(some 46), .move (.t 8), none⟩,
                   ⟨(some 47), .index (.t 45) (.t 46), none⟩,
                   ⟨(some 9), .move (.t 47), none⟩])
                 (.seq
                  (.seq
                   (.reg [⟨(some 48), .move (.t 9), none⟩,
                     ⟨(some 49), .bin .int .lss (.t 48) (.c (.int .u8 48)), none⟩,
                     ⟨(some 50), .move (.t 49), none⟩,
                     ⟨(some 51), .move (.t 9), some (50, false)⟩,
                     ⟨(some 52), .bin .int .gtr (.t 51) (.c (.int .u8 57)), some (50, false)⟩,
                     ⟨(some 53), .pick (.t 50) (.c (.bool true)) (.t 52), none⟩])
                   (.cond (.t 53)
                    (.seq
                     (.reg [⟨(some 7), .move (.c (.bool false)), none⟩])
                     (.exit 0))
                    .skip))
                  (.reg [⟨(some 54), .move (.t 6), none⟩,
                    ⟨(some 55), .bin .int .mul (.t 54) (.c (.int .u64 10)), none⟩,
                    ⟨(some 56), .move (.t 9), none⟩,
                    ⟨(some 57), .bin .int .sub (.t 56) (.c (.int .u8 48)), none⟩,
                    ⟨(some 58), .conv .u64 (.t 57), none⟩,
                    ⟨(some 59), .bin .int .add (.t 55) (.t 58), none⟩,
                    ⟨(some 6), .move (.t 59), none⟩]))))
               (.reg [⟨(some 43), .move (.t 8), none⟩,
                 ⟨(some 44), .bin .int .add (.t 43) (.c (.int .i64 1)), none⟩,
                 ⟨(some 8), .move (.t 44), none⟩]))))))
          (.seq
           (.seq
            (.reg [⟨(some 60), .move (.t 7), none⟩,
              ⟨(some 61), .not (.t 60), none⟩,
              ⟨(some 62), .move (.t 61), none⟩,
              ⟨(some 63), .move (.t 6), some (62, false)⟩,
              ⟨(some 64), .bin .int .gtr (.t 63) (.c (.int .u64 9223372036854775808)), some (62, false)⟩,
              ⟨(some 65), .pick (.t 62) (.c (.bool true)) (.t 64), none⟩,
              ⟨(some 66), .move (.t 65), none⟩,
              ⟨(some 67), .move (.t 6), some (66, false)⟩,
              ⟨(some 68), .bin .int .eql (.t 67) (.c (.int .u64 9223372036854775808)), some (66, false)⟩,
              ⟨(some 69), .move (.t 68), some (66, false)⟩,
              ⟨(some 70), .move (.t 5), some (69, true)⟩,
              ⟨(some 71), .not (.t 70), some (69, true)⟩,
              ⟨(some 72), .pick (.t 69) (.t 71) (.c (.bool false)), some (66, false)⟩,
              ⟨(some 73), .pick (.t 66) (.c (.bool true)) (.t 72), none⟩])
            (.cond (.t 73)
             (.seq
              (.reg [⟨(some 2), .move (.c (.int .i64 0)), none⟩,
                ⟨(some 3), .move (.c (.int .i64 11)), none⟩])
              .ret)
             .skip))
           (.seq
            (.seq
             (.reg [⟨(some 74), .move (.t 5), none⟩])
             (.cond (.t 74)
              (.reg [⟨(some 75), .move (.t 6), none⟩,
                ⟨(some 76), .neg (.t 75), none⟩,
                ⟨(some 6), .move (.t 76), none⟩])
              .skip))
            (.seq
             (.reg [⟨(some 77), .move (.t 6), none⟩,
               ⟨(some 78), .conv .i64 (.t 77), none⟩,
               ⟨(some 2), .move (.t 78), none⟩,
               ⟨(some 3), .move (.c (.int .i64 0)), none⟩])
             .ret)))))))))))))
theorem in141 {args : List AV} {σ : Store} {K : AV → Store → Prop} (hargs : args.length ≤ 79 := by simp) (h : AWP Try.prog Try.f141.ntmps c141 (fun e t s => match e with | .exit _ => False | _ => Res [.slot 2, .slot 3] K t s) (env (argList 0 args)) σ) : ACalls Try.prog 141 args σ K :=
  enter (own := []) Try.func141 (by kernel_rfl) (by kernel_rfl) (by kernel_rfl) hargs h
/-- slices.Contains[[]string,string] -/
def c85 : ACode :=
(.seq
 (.reg [⟨(some 4), .move (.c (.bool false)), none⟩])
 (.seq
  (.reg [⟨(some 5), .move (.t 0), none⟩,
    ⟨(some 6), .move (.t 1), none⟩,
    ⟨(some 7), .call 142 [(.t 5), (.t 6)], none⟩,
    ⟨(some 8), .bin .int .geq (.t 7) (.c (.int .i64 0)), none⟩,
    ⟨(some 4), .move (.t 8), none⟩])
  .ret))
theorem in85 {args : List AV} {σ : Store} {K : AV → Store → Prop} (hargs : args.length ≤ 9 := by simp) (h : AWP Try.prog Try.f85.ntmps c85 (fun e t s => match e with | .exit _ => False | _ => Res [.slot 4] K t s) (env (argList 0 args)) σ) : ACalls Try.prog 85 args σ K :=
  enter (own := []) Try.func85 (by kernel_rfl) (by kernel_rfl) (by kernel_rfl) hargs h
/-- slices.Index[[]string,string] -/
def c142 : ACode :=
(.seq
 (.reg [⟨(some 4), .move (.c (.int .i64 0)), none⟩])
 (.seq
  (.seq
   (.reg [⟨(some 6), .move (.t 0), none⟩,
     ⟨(some 7), .len .slice (.t 6), none⟩,
     ⟨(some 8), .move (.c (.int .i64 0)), none⟩])
   (.block 0
    (.loop
     (.seq
      (.reg [⟨(some 9), .bin .int .lss (.t 8) (.t 7), none⟩])
      (.seq
       (.cond (.t 9)
        .skip
        (.exit 0))
       (.seq
        (.block 1
         (.seq
          (.reg [⟨(some 10), .move (.t 8), none⟩,
            ⟨(some 5), .move (.t 10), none⟩])
          (.seq
           (.reg [⟨(some 11), .move (.t 1), none⟩,
             ⟨(some 12), .move (.t 0), none⟩,
             ⟨(some 13), .move (.t 5), none⟩,
             ⟨(some 14), .iaddr 1 (.t 12) (.t 13), none⟩,
             ⟨(some 15), .load none (.t 14), none⟩,
             ⟨(some 16), .bin .str .eql (.t 11) (.t 15), none⟩])
           (.cond (.t 16)
            (.seq
             (.reg [⟨(some 17), .move (.t 5), none⟩,
               ⟨(some 4), .move (.t 17), none⟩])
             .ret)
            .skip))))
        (.reg [⟨(some 18), .bin .int .add (.t 8) (.c (.int .i64 1)), none⟩,
          ⟨(some 8), .move (.t 18), none⟩])))))))
  (.seq
   (.reg [⟨(some 4), .move (.c (.int .i64 (-1))), none⟩])
   .ret)))
theorem in142 {args : List AV} {σ : Store} {K : AV → Store → Prop} (hargs : args.length ≤ 19 := by simp) (h : AWP Try.prog Try.f142.ntmps c142 (fun e t s => match e with | .exit _ => False | _ => Res [.slot 4] K t s) (env (argList 0 args)) σ) : ACalls Try.prog 142 args σ K :=
  enter (own := []) Try.func142 (by kernel_rfl) (by kernel_rfl) (by kernel_rfl) hargs h
/-- (*changeling/lift.checker).right -/
def c86 : ACode :=
(.seq
 (.reg [⟨(some 4), .new 54 (.t 1), none⟩,
   ⟨(some 6), .move (.c (.bool false)), none⟩])
 (.seq
  (.reg [⟨(some 15), .faddr 0 (.t 4), none⟩,
    ⟨(some 16), .load none (.t 15), none⟩,
    ⟨(some 17), .bin .int .eql (.t 16) (.c (.int .i64 1)), none⟩,
    ⟨(some 18), .move (.t 17), none⟩,
    ⟨(some 19), .faddr 0 (.t 4), some (18, false)⟩,
    ⟨(some 20), .load none (.t 19), some (18, false)⟩,
    ⟨(some 21), .bin .int .eql (.t 20) (.c (.int .i64 2)), some (18, false)⟩,
    ⟨(some 22), .pick (.t 18) (.c (.bool true)) (.t 21), none⟩,
    ⟨(some 23), .move (.t 22), none⟩,
    ⟨(some 24), .faddr 0 (.t 4), some (23, false)⟩,
    ⟨(some 25), .load none (.t 24), some (23, false)⟩,
    ⟨(some 26), .bin .int .eql (.t 25) (.c (.int .i64 4)), some (23, false)⟩,
    ⟨(some 27), .pick (.t 23) (.c (.bool true)) (.t 26), none⟩,
    ⟨(some 7), .move (.t 27), none⟩])
  (.seq
   (.reg [⟨(some 28), .faddr 0 (.t 4), none⟩,
     ⟨(some 29), .load none (.t 28), none⟩,
     ⟨(some 30), .bin .int .eql (.t 29) (.c (.int .i64 3)), none⟩,
     ⟨(some 31), .move (.t 30), none⟩,
     ⟨(some 32), .faddr 0 (.t 4), some (31, false)⟩,
     ⟨(some 33), .load none (.t 32), some (31, false)⟩,
     ⟨(some 34), .bin .int .eql (.t 33) (.c (.int .i64 4)), some (31, false)⟩,
     ⟨(some 35), .pick (.t 31) (.c (.bool true)) (.t 34), none⟩,
     ⟨(some 36), .move (.t 35), none⟩,
     ⟨(some 37), .faddr 0 (.t 4), some (36, false)⟩,
     ⟨(some 38), .load none (.t 37), some (36, false)⟩,
     ⟨(some 39), .bin .int .eql (.t 38) (.c (.int .i64 9)), some (36, false)⟩,
     ⟨(some 40), .pick (.t 36) (.c (.bool true)) (.t 39), none⟩,
     ⟨(some 8), .move (.t 40), none⟩])
   (.seq
    (.seq
     (.reg [⟨(some 41), .move (.t 7), none⟩,
       ⟨(some 42), .not (.t 41), none⟩,
       ⟨(some 43), .move (.t 42), none⟩,
       ⟨(some 44), .faddr 1 (.t 4), some (43, true)⟩,
       ⟨(some 45), .load none (.t 44), some (43, true)⟩,
       ⟨(some 46), .bin .str .neq (.t 45) (.c (.str ⟨#[]⟩)), some (43, true)⟩,
       ⟨(some 47), .pick (.t 43) (.t 46) (.c (.bool false)), none⟩,
       ⟨(some 48), .move (.t 47), none⟩,
       ⟨(some 49), .move (.t 8), some (48, false)⟩,
       ⟨(some 50), .not (.t 49), some (48, false)⟩,
       ⟨(some 51), .move (.t 50), some (48, false)⟩,
       ⟨(some 52), .faddr 2 (.t 4), some (51, true)⟩,
       ⟨(some 53), .load none (.t 52), some (51, true)⟩,
       ⟨(some 54), .bin .int .neq (.t 53) (.c (.int .i64 0)), some (51, true)⟩,
       ⟨(some 55), .pick (.t 51) (.t 54) (.c (.bool false)), some (48, false)⟩,
       ⟨(some 56), .pick (.t 48) (.c (.bool true)) (.t 55), none⟩,
       ⟨(some 57), .move (.t 56), none⟩,
       ⟨(some 58), .faddr 0 (.t 4), some (57, false)⟩,
       ⟨(some 59), .load none (.t 58), some (57, false)⟩,
       ⟨(some 60), .bin .int .neq (.t 59) (.c (.int .i64 4)), some (57, false)⟩,
       ⟨(some 61), .move (.t 60), some (57, false)⟩,
       ⟨(some 62), .faddr 3 (.t 4), some (61, true)⟩,
       ⟨(some 63), .load none (.t 62), some (61, true)⟩,
       ⟨(some 64), .bin .int .neq (.t 63) (.c (.int .i64 0)), some (61, true)⟩,
       ⟨(some 65), .pick (.t 61) (.t 64) (.c (.bool false)), some (57, false)⟩,
       ⟨(some 66), .pick (.t 57) (.c (.bool true)) (.t 65), none⟩])
     (.cond (.t 66)
      (.seq
       (.reg [⟨(some 6), .move (.c (.bool false)), none⟩])
       .ret)
      .skip))
    (.seq
     (.reg [⟨(some 67), .faddr 4 (.t 4), none⟩,
       ⟨(some 68), .load none (.t 67), none⟩,
       ⟨(some 69), .len .slice (.t 68), none⟩,
       ⟨(some 70), .faddr 5 (.t 4), none⟩,
       ⟨(some 71), .load none (.t 70), none⟩,
       ⟨(some 72), .len .slice (.t 71), none⟩,
       ⟨(some 73), .faddr 6 (.t 4), none⟩,
       ⟨(some 74), .load none (.t 73), none⟩,
       ⟨(some 75), .len .slice (.t 74), none⟩,
       ⟨(some 76), .faddr 7 (.t 4), none⟩,
       ⟨(some 77), .load none (.t 76), none⟩,
       ⟨(some 78), .len .slice (.t 77), none⟩,
       ⟨(some 79), .faddr 8 (.t 4), none⟩,
       ⟨(some 80), .load none (.t 79), none⟩,
       ⟨(some 81), .len .slice (.t 80), none⟩,
       ⟨(some 82), .build [(.int .i64 0), (.int .i64 0), (.int .i64 0), (.int .i64 0), (.int .i64 0)] [(0, 1, (.t 69)), (1, 1, (.t 72)), (2, 1, (.t 75)), (3, 1, (.t 78)), (4, 1, (.t 81))], none⟩,
       ⟨(some 9), .new 246 (.c (.agg [(.int .i64 0), (.int .i64 0), (.int .i64 0), (.int .i64 0), (.int .i64 0)])), none⟩,
       ⟨none, .store 5 (.t 9) (.t 82), none⟩])
     (.seq
      (.reg [⟨(some 83), .move (.t 2), none⟩,
        ⟨(some 10), .move (.t 83), none⟩])
      (.seq
       (.seq
        (.reg [⟨(some 84), .faddr 0 (.t 4), none⟩,
          ⟨(some 85), .load none (.t 84), none⟩])
        (.block 0
         (.seq
          (.reg [⟨(some 87), .bin .int .eql (.t 85) (.c (.int .i64 1)), none⟩,
            ⟨(some 86), .move (.t 87), none⟩])
          (.cond (.t 86)
           (.seq
            (.reg [⟨(some 88), .load (some 5) (.t 9), none⟩,
              ⟨(some 89), .build [(.int .i64 0), (.int .i64 0), (.int .i64 0), (.int .i64 0), (.int .i64 0)] [], none⟩,
              ⟨(some 90), .bin (.row [.int, .int, .int, .int, .int]) .eql (.t 88) (.t 89), none⟩,
              ⟨(some 91), .move (.t 90), none⟩,
              ⟨(some 92), .move (.t 2), some (91, true)⟩,
              ⟨(some 93), .faddr 1 (.t 4), some (91, true)⟩,
              ⟨(some 94), .load none (.t 93), some (91, true)⟩,
              ⟨(some 95), .call 85 [(.t 92), (.t 94)], some (91, true)⟩,
              ⟨(some 96), .pick (.t 91) (.t 95) (.c (.bool false)), none⟩,
              ⟨(some 6), .move (.t 96), none⟩])
            .ret)
           (.seq
            (.reg [⟨(some 98), .bin .int .eql (.t 85) (.c (.int .i64 2)), none⟩,
              ⟨(some 97), .move (.t 98), none⟩])
            (.cond (.t 97)
             (.seq
              (.reg [⟨(some 99), .load (some 5) (.t 9), none⟩,
                ⟨(some 100), .build [(.int .i64 0), (.int .i64 0), (.int .i64 0), (.int .i64 0), (.int .i64 0)] [], none⟩,
                ⟨(some 101), .bin (.row [.int, .int, .int, .int, .int]) .eql (.t 99) (.t 100), none⟩,
                ⟨(some 102), .move (.t 101), none⟩,
                ⟨(some 103), .move (.t 0), some (102, true)⟩,
                ⟨(some 104), .nilck (.t 103), some (102, true)⟩,
                ⟨(some 105), .faddr 0 (.t 104), some (102, true)⟩,
                ⟨(some 106), .load none (.t 105), some (102, true)⟩,
                ⟨(some 107), .faddr 1 (.t 4), some (102, true)⟩,
                ⟨(some 108), .load none (.t 107), some (102, true)⟩,
                ⟨(some 109), .call 85 [(.t 106), (.t 108)], some (102, true)⟩,
                ⟨(some 110), .move (.t 109), some (102, true)⟩,
                ⟨(some 111), .faddr 1 (.t 4), some (110, false)⟩,
                ⟨(some 112), .load none (.t 111), some (110, false)⟩,
                ⟨(some 113), .call 83 [(.t 112)], some (110, false)⟩,
                ⟨(some 114), .bin .int .gtr (.t 113) (.c (.int .i64 0)), some (110, false)⟩,
                ⟨(some 115), .pick (.t 110) (.c (.bool true)) (.t 114), some (102, true)⟩,
                ⟨(some 116), .pick (.t 102) (.t 115) (.c (.bool false)), none⟩,
                ⟨(some 6), .move (.t 116), none⟩])
              .ret)
             (.seq
              (.seq
               (.reg [⟨(some 118), .bin .int .eql (.t 85) (.c (.int .i64 3)), none⟩,
                 ⟨(some 117), .move (.t 118), none⟩])
               (.cond (.t 117)
                .skip
                (.reg [⟨(some 119), .bin .int .eql (.t 85) (.c (.int .i64 10)), none⟩,
                  ⟨(some 117), .move (.t 119), none⟩])))
              (.cond (.t 117)
               (.seq
                (.reg [⟨(some 120), .load (some 5) (.t 9), none⟩,
                  ⟨(some 121), .build [(.int .i64 0), (.int .i64 0), (.int .i64 0), (.int .i64 0), (.int .i64 0)] [], none⟩,
                  ⟨(some 122), .bin (.row [.int, .int, .int, .int, .int]) .eql (.t 120) (.t 121), none⟩,
                  ⟨(some 6), .move (.t 122), none⟩])
                .ret)
               (.seq
                (.reg [⟨(some 124), .bin .int .eql (.t 85) (.c (.int .i64 4)), none⟩,
                  ⟨(some 123), .move (.t 124), none⟩])
                (.cond (.t 123)
                 (.seq
                  (.reg [⟨(some 125), .load (some 5) (.t 9), none⟩,
                    ⟨(some 126), .build [(.int .i64 0), (.int .i64 0), (.int .i64 0), (.int .i64 0), (.int .i64 0)] [], none⟩,
                    ⟨(some 127), .bin (.row [.int, .int, .int, .int, .int]) .eql (.t 125) (.t 126), none⟩,
                    ⟨(some 128), .move (.t 127), none⟩,
                    ⟨(some 129), .faddr 1 (.t 4), some (128, true)⟩,
                    ⟨(some 130), .load none (.t 129), some (128, true)⟩,
                    ⟨(some 131), .bin .str .neq (.t 130) (.c (.str ⟨#[]⟩)), some (128, true)⟩,
                    ⟨(some 132), .pick (.t 128) (.t 131) (.c (.bool false)), none⟩,
                    ⟨(some 133), .move (.t 132), none⟩,
                    ⟨(some 134), .faddr 2 (.t 4), some (133, true)⟩,
                    ⟨(some 135), .load none (.t 134), some (133, true)⟩,
                    ⟨(some 136), .bin .int .geq (.t 135) (.c (.int .i64 0)), some (133, true)⟩,
                    ⟨(some 137), .pick (.t 133) (.t 136) (.c (.bool false)), none⟩,
                    ⟨(some 138), .move (.t 137), none⟩,
                    ⟨(some 139), .faddr 3 (.t 4), some (138, true)⟩,
                    ⟨(some 140), .load none (.t 139), some (138, true)⟩,
                    ⟨(some 141), .bin .int .geq (.t 140) (.c (.int .i64 0)), some (138, true)⟩,
                    ⟨(some 142), .pick (.t 138) (.t 141) (.c (.bool false)), none⟩,
                    ⟨(some 6), .move (.t 142), none⟩])
                  .ret)
                 (.seq
                  (.reg [⟨(some 144), .bin .int .eql (.t 85) (.c (.int .i64 5)), none⟩,
                    ⟨(some 143), .move (.t 144), none⟩])
                  (.cond (.t 143)
                   (.seq
                    (.reg [⟨(some 145), .load (some 5) (.t 9), none⟩,
                      ⟨(some 146), .build [(.int .i64 0), (.int .i64 0), (.int .i64 0), (.int .i64 0), (.int .i64 0)] [(1, 1, (.c (.int .i64 2)))], none⟩,
                      ⟨(some 147), .bin (.row [.int, .int, .int, .int, .int]) .neq (.t 145) (.t 146), none⟩])
                    (.cond (.t 147)
                     (.seq
                      (.reg [⟨(some 6), .move (.c (.bool false)), none⟩])
                      .ret)
                     .skip))
                   (.seq
                    (.reg [⟨(some 149), .bin .int .eql (.t 85) (.c (.int .i64 9)), none⟩,
                      ⟨(some 148), .move (.t 149), none⟩])
                    (.cond (.t 148)
                     (.seq
                      (.reg [⟨(some 150), .load (some 5) (.t 9), none⟩,
                        ⟨(some 151), .build [(.int .i64 0), (.int .i64 0), (.int .i64 0), (.int .i64 0), (.int .i64 0)] [(1, 1, (.c (.int .i64 2)))], none⟩,
                        ⟨(some 152), .bin (.row [.int, .int, .int, .int, .int]) .neq (.t 150) (.t 151), none⟩,
                        ⟨(some 153), .move (.t 152), none⟩,
                        ⟨(some 154), .faddr 2 (.t 4), some (153, false)⟩,
                        ⟨(some 155), .load none (.t 154), some (153, false)⟩,
                        ⟨(some 156), .bin .int .lss (.t 155) (.c (.int .i64 1)), some (153, false)⟩,
                        ⟨(some 157), .pick (.t 153) (.c (.bool true)) (.t 156), none⟩,
                        ⟨(some 158), .move (.t 157), none⟩,
                        ⟨(some 159), .faddr 2 (.t 4), some (158, false)⟩,
                        ⟨(some 160), .load none (.t 159), some (158, false)⟩,
                        ⟨(some 161), .bin .int .gtr (.t 160) (.c (.int .i64 11)), some (158, false)⟩,
                        ⟨(some 162), .pick (.t 158) (.c (.bool true)) (.t 161), none⟩])
                      (.cond (.t 162)
                       (.seq
                        (.reg [⟨(some 6), .move (.c (.bool false)), none⟩])
                        .ret)
                       .skip))
                     (.seq
                      (.reg [⟨(some 164), .bin .int .eql (.t 85) (.c (.int .i64 6)), none⟩,
                        ⟨(some 163), .move (.t 164), none⟩])
                      (.cond (.t 163)
                       (.seq
                        (.seq
                         (.reg [⟨(some 165), .load (some 5) (.t 9), none⟩,
                           ⟨(some 166), .faddr 0 (.t 9), none⟩,
                           ⟨(some 167), .load none (.t 166), none⟩,
                           ⟨(some 168), .build [(.int .i64 0), (.int .i64 0), (.int .i64 0), (.int .i64 0), (.int .i64 0)] [(0, 1, (.t 167)), (1, 1, (.c (.int .i64 1)))], none⟩,
                           ⟨(some 169), .bin (.row [.int, .int, .int, .int, .int]) .neq (.t 165) (.t 168), none⟩,
                           ⟨(some 170), .move (.t 169), none⟩,
                           ⟨(some 171), .faddr 0 (.t 9), some (170, false)⟩,
                           ⟨(some 172), .load none (.t 171), some (170, false)⟩,
                           ⟨(some 173), .bin .int .eql (.t 172) (.c (.int .i64 0)), some (170, false)⟩,
                           ⟨(some 174), .pick (.t 170) (.c (.bool true)) (.t 173), none⟩,
                           ⟨(some 175), .move (.t 174), none⟩,
                           ⟨(some 176), .faddr 4 (.t 4), some (175, false)⟩,
                           ⟨(some 177), .load none (.t 176), some (175, false)⟩,
                           ⟨(some 178), .call 111 [(.t 177)], some (175, false)⟩,
                           ⟨(some 179), .not (.t 178), some (175, false)⟩,
                           ⟨(some 180), .pick (.t 175) (.c (.bool true)) (.t 179), none⟩])
                         (.cond (.t 180)
                          (.seq
                           (.reg [⟨(some 6), .move (.c (.bool false)), none⟩])
                           .ret)
                          .skip))
                        (.reg [⟨(some 181), .move (.t 2), none⟩,
                          ⟨(some 182), .faddr 4 (.t 4), none⟩,
                          ⟨(some 183), .load none (.t 182), none⟩,
                          ⟨(some 184), .call 143 [(.t 181), (.t 183)], none⟩,
                          ⟨(some 10), .move (.t 184), none⟩]))
                       (.seq
                        (.reg [⟨(some 186), .bin .int .eql (.t 85) (.c (.int .i64 7)), none⟩,
                          ⟨(some 185), .move (.t 186), none⟩])
                        (.cond (.t 185)
                         (.seq
                          (.seq
                           (.reg [⟨(some 187), .load (some 5) (.t 9), none⟩,
                             ⟨(some 188), .faddr 3 (.t 9), none⟩,
                             ⟨(some 189), .load none (.t 188), none⟩,
                             ⟨(some 190), .build [(.int .i64 0), (.int .i64 0), (.int .i64 0), (.int .i64 0), (.int .i64 0)] [(1, 1, (.c (.int .i64 1))), (3, 1, (.t 189))], none⟩,
                             ⟨(some 191), .bin (.row [.int, .int, .int, .int, .int]) .neq (.t 187) (.t 190), none⟩,
                             ⟨(some 192), .move (.t 191), none⟩,
                             ⟨(some 193), .faddr 3 (.t 9), some (192, false)⟩,
                             ⟨(some 194), .load none (.t 193), some (192, false)⟩,
                             ⟨(some 195), .bin .int .eql (.t 194) (.c (.int .i64 0)), some (192, false)⟩,
                             ⟨(some 196), .pick (.t 192) (.c (.bool true)) (.t 195), none⟩,
                             ⟨(some 197), .move (.t 196), none⟩,
                             ⟨(some 198), .faddr 7 (.t 4), some (197, false)⟩,
                             ⟨(some 199), .load none (.t 198), some (197, false)⟩,
                             ⟨(some 200), .call 136 [(.t 199)], some (197, false)⟩,
                             ⟨(some 201), .call 111 [(.t 200)], some (197, false)⟩,
                             ⟨(some 202), .not (.t 201), some (197, false)⟩,
                             ⟨(some 203), .pick (.t 197) (.c (.bool true)) (.t 202), none⟩])
                           (.cond (.t 203)
                            (.seq
                             (.reg [⟨(some 6), .move (.c (.bool false)), none⟩])
                             .ret)
                            .skip))
                          (.reg [⟨(some 204), .move (.t 2), none⟩,
                            ⟨(some 205), .faddr 7 (.t 4), none⟩,
                            ⟨(some 206), .load none (.t 205), none⟩,
                            ⟨(some 207), .call 136 [(.t 206)], none⟩,
                            ⟨(some 208), .call 143 [(.t 204), (.t 207)], none⟩,
                            ⟨(some 10), .move (.t 208), none⟩]))
                         (.seq
                          (.reg [⟨(some 210), .bin .int .eql (.t 85) (.c (.int .i64 8)), none⟩,
                            ⟨(some 209), .move (.t 210), none⟩])
                          (.cond (.t 209)
                           (.seq
                            (.reg [⟨(some 211), .load (some 5) (.t 9), none⟩,
                              ⟨(some 212), .faddr 2 (.t 9), none⟩,
                              ⟨(some 213), .load none (.t 212), none⟩,
                              ⟨(some 214), .build [(.int .i64 0), (.int .i64 0), (.int .i64 0), (.int .i64 0), (.int .i64 0)] [(1, 1, (.c (.int .i64 1))), (2, 1, (.t 213))], none⟩,
                              ⟨(some 215), .bin (.row [.int, .int, .int, .int, .int]) .neq (.t 211) (.t 214), none⟩,
                              ⟨(some 216), .move (.t 215), none⟩,
                              ⟨(some 217), .move (.t 0), some (216, false)⟩,
                              ⟨(some 218), .faddr 6 (.t 4), some (216, false)⟩,
                              ⟨(some 219), .load none (.t 218), some (216, false)⟩,
                              ⟨(some 220), .move (.t 2), some (216, false)⟩,
                              ⟨(some 221), .call 144 [(.t 217), (.t 219), (.t 220)], some (216, false)⟩,
                              ⟨(some 222), .not (.t 221), some (216, false)⟩,
                              ⟨(some 223), .pick (.t 216) (.c (.bool true)) (.t 222), none⟩])
                            (.cond (.t 223)
                             (.seq
                              (.reg [⟨(some 6), .move (.c (.bool false)), none⟩])
                              .ret)
                             .skip))
                           (.seq
                            (.reg [⟨(some 225), .bin .int .eql (.t 85) (.c (.int .i64 11)), none⟩,
                              ⟨(some 224), .move (.t 225), none⟩])
                            (.cond (.t 224)
                             (.seq
                              (.reg [⟨(some 226), .load (some 5) (.t 9), none⟩,
                                ⟨(some 227), .faddr 4 (.t 9), none⟩,
                                ⟨(some 228), .load none (.t 227), none⟩,
                                ⟨(some 229), .build [(.int .i64 0), (.int .i64 0), (.int .i64 0), (.int .i64 0), (.int .i64 0)] [(1, 1, (.c (.int .i64 1))), (4, 1, (.t 228))], none⟩,
                                ⟨(some 230), .bin (.row [.int, .int, .int, .int, .int]) .neq (.t 226) (.t 229), none⟩,
                                ⟨(some 231), .move (.t 230), none⟩,
                                ⟨(some 232), .move (.t 0), some (231, false)⟩,
                                ⟨(some 233), .faddr 8 (.t 4), some (231, false)⟩,
                                ⟨(some 234), .load none (.t 233), some (231, false)⟩,
                                ⟨(some 235), .move (.t 2), some (231, false)⟩,
                                ⟨(some 236), .call 145 [(.t 232), (.t 234), (.t 235)], some (231, false)⟩,
                                ⟨(some 237), .not (.t 236), some (231, false)⟩,
                                ⟨(some 238), .pick (.t 231) (.c (.bool true)) (.t 237), none⟩])
                              (.cond (.t 238)
                               (.seq
                                (.reg [⟨(some 6), .move (.c (.bool false)), none⟩])
                                .ret)
                               .skip))
                             (.seq
                              (.reg [⟨(some 6), .move (.c (.bool false)), none⟩])
                              .ret)))))))))))))))))))))))
       (.seq
        (.seq
         (.reg [⟨(some 239), .faddr 5 (.t 4), none⟩,
           ⟨(some 240), .load none (.t 239), none⟩,
           ⟨(some 241), .len .slice (.t 240), none⟩,
           ⟨(some 242), .move (.c (.int .i64 0)), none⟩])
         (.block 1
          (.loop
           (.seq
            (.reg [⟨(some 243), .bin .int .lss (.t 242) (.t 241), none⟩])
            (.seq
             (.cond (.t 243)
              .skip
              (.exit 1))
             (.seq
              (.block 2
               (.seq
                (.reg [⟨(some 244), .iaddr 9 (.t 240) (.t 242), none⟩,
                  ⟨(some 245), .load (some 9) (.t 244), none⟩,
                  ⟨(some 12), .new 54 (.c (.agg [(.int .i64 0), (.str ⟨#[]⟩), (.int .i64 0), (.int .i64 0), .nils, .nils, .nils, .nils, .nils])), none⟩,
                  ⟨none, .store 9 (.t 12) (.t 245), none⟩])
                (.seq
                 (.reg [⟨(some 246), .move (.t 0), none⟩,
                   ⟨(some 247), .load (some 9) (.t 12), none⟩,
                   ⟨(some 248), .move (.t 10), none⟩,
                   ⟨(some 249), .call 86 [(.t 246), (.t 247), (.t 248)], none⟩,
                   ⟨(some 250), .not (.t 249), none⟩])
                 (.cond (.t 250)
                  (.seq
                   (.reg [⟨(some 6), .move (.c (.bool false)), none⟩])
                   .ret)
                  .skip))))
              (.reg [⟨(some 251), .bin .int .add (.t 242) (.c (.int .i64 1)), none⟩,
                ⟨(some 242), .move (.t 251), none⟩])))))))
        (.seq
         (.seq
          (.reg [⟨(some 252), .faddr 7 (.t 4), none⟩,
            ⟨(some 253), .load none (.t 252), none⟩,
            ⟨(some 254), .len .slice (.t 253), none⟩,
            ⟨(some 255), .move (.c (.int .i64 0)), none⟩])
          (.block 3
           (.loop
            (.seq
             (.reg [⟨(some 256), .bin .int .lss (.t 255) (.t 254), none⟩])
             (.seq
              (.cond (.t 256)
               .skip
               (.exit 3))
              (.seq
               (.block 4
                (.seq
                 (.reg [⟨(some 257), .iaddr 10 (.t 253) (.t 255), none⟩,
                   ⟨(some 258), .load (some 10) (.t 257), none⟩,
                   ⟨(some 14), .new 114 (.c (.agg [(.str ⟨#[]⟩), (.int .i64 0), (.str ⟨#[]⟩), (.int .i64 0), (.int .i64 0), .nils, .nils, .nils, .nils, .nils])), none⟩,
                   ⟨none, .store 10 (.t 14) (.t 258), none⟩])
                 (.seq
                  (.reg [⟨(some 259), .move (.t 0), none⟩,
                    ⟨(some 260), .faddr 1 (.t 14), none⟩,
                    ⟨(some 261), .load (some 9) (.t 260), none⟩,
                    ⟨(some 262), .move (.t 10), none⟩,
                    ⟨(some 263), .call 86 [(.t 259), (.t 261), (.t 262)], none⟩,
                    ⟨(some 264), .not (.t 263), none⟩])
                  (.cond (.t 264)
                   (.seq
                    (.reg [⟨(some 6), .move (.c (.bool false)), none⟩])
                    .ret)
                   .skip))))
               (.reg [⟨(some 265), .bin .int .add (.t 255) (.c (.int .i64 1)), none⟩,
                 ⟨(some 255), .move (.t 265), none⟩])))))))
         (.seq
          (.reg [⟨(some 6), .move (.c (.bool true)), none⟩])
          .ret))))))))))
theorem in86 {args : List AV} {σ : Store} {K : AV → Store → Prop} (hargs : args.length ≤ 266 := by simp) (h : AWP Try.prog Try.f86.ntmps c86 (fun e t s => match e with | .exit _ => False | _ => Res [.slot 6] K t s) (env (argList 0 args)) σ) : ACalls Try.prog 86 args σ K :=
  enter (own := []) Try.func86 (by kernel_rfl) (by kernel_rfl) (by kernel_rfl) hargs h
/-- changeling/lift.locals -/
def c111 : ACode :=
(.seq
 (.reg [⟨(some 2), .move (.c (.bool false)), none⟩])
 (.seq
  (.seq
   (.reg [⟨(some 5), .move (.t 0), none⟩,
     ⟨(some 6), .len .slice (.t 5), none⟩,
     ⟨(some 7), .move (.c (.int .i64 0)), none⟩])
   (.block 0
    (.loop
     (.seq
      (.reg [⟨(some 8), .bin .int .lss (.t 7) (.t 6), none⟩])
      (.seq
       (.cond (.t 8)
        .skip
        (.exit 0))
       (.seq
        (.block 1
         (.seq
          (.reg [⟨(some 9), .move (.t 7), none⟩,
            ⟨(some 10), .iaddr 1 (.t 5) (.t 7), none⟩,
            ⟨(some 11), .load none (.t 10), none⟩,
            ⟨(some 3), .move (.t 9), none⟩,
            ⟨(some 4), .move (.t 11), none⟩])
          (.seq
           (.reg [⟨(some 12), .move (.t 4), none⟩,
             ⟨(some 13), .call 154 [(.t 12)], none⟩,
             ⟨(some 14), .not (.t 13), none⟩,
             ⟨(some 15), .move (.t 14), none⟩,
             ⟨(some 16), .move (.t 0), some (15, false)⟩,
             ⟨(some 17), .move (.t 3), some (15, false)⟩,
             ⟨(some 18), .cut .slice 1 (.t 16) none (some (.t 17)), some (15, false)⟩,
             ⟨(some 19), .move (.t 4), some (15, false)⟩,
             ⟨(some 20), .call 85 [(.t 18), (.t 19)], some (15, false)⟩,
             ⟨(some 21), .pick (.t 15) (.c (.bool true)) (.t 20), none⟩])
           (.cond (.t 21)
            (.seq
             (.reg [⟨(some 2), .move (.c (.bool false)), none⟩])
             .ret)
            .skip))))
        (.reg [⟨(some 22), .bin .int .add (.t 7) (.c (.int .i64 1)), none⟩,
          ⟨(some 7), .move (.t 22), none⟩])))))))
  (.seq
   (.reg [⟨(some 2), .move (.c (.bool true)), none⟩])
   .ret)))
theorem in111 {args : List AV} {σ : Store} {K : AV → Store → Prop} (hargs : args.length ≤ 23 := by simp) (h : AWP Try.prog Try.f111.ntmps c111 (fun e t s => match e with | .exit _ => False | _ => Res [.slot 2] K t s) (env (argList 0 args)) σ) : ACalls Try.prog 111 args σ K :=
  enter (own := []) Try.func111 (by kernel_rfl) (by kernel_rfl) (by kernel_rfl) hargs h
/-- changeling/lift.local -/
def c154 : ACode :=
(.seq
 (.reg [⟨(some 2), .move (.c (.bool false)), none⟩])
 (.seq
  (.seq
   (.reg [⟨(some 5), .move (.t 0), none⟩,
     ⟨(some 6), .call 169 [(.t 5), (.c (.str ⟨#[35]⟩))], none⟩,
     ⟨(some 7), .not (.t 6), none⟩,
     ⟨(some 8), .move (.t 7), none⟩,
     ⟨(some 9), .move (.t 0), some (8, false)⟩,
     ⟨(some 10), .call 169 [(.t 9), (.c (.str ⟨#[35, 45]⟩))], some (8, false)⟩,
     ⟨(some 11), .pick (.t 8) (.c (.bool true)) (.t 10), none⟩])
   (.cond (.t 11)
    (.seq
     (.reg [⟨(some 2), .move (.c (.bool false)), none⟩])
     .ret)
    .skip))
  (.seq
   (.reg [⟨(some 13), .move (.t 0), none⟩,
     ⟨(some 14), .cut .str 1 (.t 13) (some (.c (.int .i64 1))) none, none⟩,
     ⟨(some 15), .call 141 [(.t 14)], none⟩,
     ⟨(some 12), .move (.t 15), none⟩,
     ⟨(some 16), .extract (.t 12) 0, none⟩,
     ⟨(some 17), .extract (.t 12) 1, none⟩,
     ⟨(some 3), .move (.t 16), none⟩,
     ⟨(some 4), .move (.t 17), none⟩])
   (.seq
    (.reg [⟨(some 18), .move (.t 4), none⟩,
      ⟨(some 19), .bin .int .eql (.t 18) (.c (.int .i64 0)), none⟩,
      ⟨(some 2), .move (.t 19), none⟩])
    .ret))))
theorem in154 {args : List AV} {σ : Store} {K : AV → Store → Prop} (hargs : args.length ≤ 20 := by simp) (h : AWP Try.prog Try.f154.ntmps c154 (fun e t s => match e with | .exit _ => False | _ => Res [.slot 2] K t s) (env (argList 0 args)) σ) : ACalls Try.prog 154 args σ K :=
  enter (own := []) Try.func154 (by kernel_rfl) (by kernel_rfl) (by kernel_rfl) hargs h
/-- strings.HasPrefix -/
def c169 : ACode :=
(.seq
 (.reg [⟨(some 4), .move (.c (.bool false)), none⟩])
 (.seq
  (.reg [⟨(some 5), .move (.t 0), none⟩,
    ⟨(some 6), .move (.t 1), none⟩,
    ⟨(some 7), .call 173 [(.t 5), (.t 6)], none⟩,
    ⟨(some 4), .move (.t 7), none⟩])
  .ret))
theorem in169 {args : List AV} {σ : Store} {K : AV → Store → Prop} (hargs : args.length ≤ 8 := by simp) (h : AWP Try.prog Try.f169.ntmps c169 (fun e t s => match e with | .exit _ => False | _ => Res [.slot 4] K t s) (env (argList 0 args)) σ) : ACalls Try.prog 169 args σ K :=
  enter (own := []) Try.func169 (by kernel_rfl) (by kernel_rfl) (by kernel_rfl) hargs h
/-- internal/stringslite.HasPrefix -/
def c173 : ACode :=
(.seq
 (.reg [⟨(some 4), .move (.c (.bool false)), none⟩])
 (.seq
  (.reg [⟨(some 5), .move (.t 0), none⟩,
    ⟨(some 6), .len .str (.t 5), none⟩,
    ⟨(some 7), .move (.t 1), none⟩,
    ⟨(some 8), .len .str (.t 7), none⟩,
    ⟨(some 9), .bin .int .geq (.t 6) (.t 8), none⟩,
    ⟨(some 10), .move (.t 9), none⟩,
    ⟨(some 11), .move (.t 0), some (10, true)⟩,
    ⟨(some 12), .move (.t 1), some (10, true)⟩,
    ⟨(some 13), .len .str (.t 12), some (10, true)⟩,
    ⟨(some 14), .cut .str 1 (.t 11) none (some (.t 13)), some (10, true)⟩,
    ⟨(some 15), .move (.t 1), some (10, true)⟩,
    ⟨(some 16), .bin .str .eql (.t 14) (.t 15), some (10, true)⟩,
    ⟨(some 17), .pick (.t 10) (.t 16) (.c (.bool false)), none⟩,
    ⟨(some 4), .move (.t 17), none⟩])
  .ret))
theorem in173 {args : List AV} {σ : Store} {K : AV → Store → Prop} (hargs : args.length ≤ 18 := by simp) (h : AWP Try.prog Try.f173.ntmps c173 (fun e t s => match e with | .exit _ => False | _ => Res [.slot 4] K t s) (env (argList 0 args)) σ) : ACalls Try.prog 173 args σ K :=
  enter (own := []) Try.func173 (by kernel_rfl) (by kernel_rfl) (by kernel_rfl) hargs h
/-- changeling/lift.joined -/
def c143 : ACode :=
(.seq
 (.reg [⟨(some 4), .move (.c .nils), none⟩])
 (.seq
  (.reg [⟨(some 5), .move (.c .nils), none⟩])
  (.seq
   (.reg [⟨(some 6), .move (.t 5), none⟩,
     ⟨(some 7), .move (.t 0), none⟩,
     ⟨(some 8), .append 9 1 16 (.t 6) (.t 7), none⟩,
     ⟨(some 5), .move (.t 8), none⟩])
   (.seq
    (.reg [⟨(some 9), .move (.t 5), none⟩,
      ⟨(some 10), .move (.t 1), none⟩,
      ⟨(some 11), .append 9 1 16 (.t 9) (.t 10), none⟩,
      ⟨(some 4), .move (.t 11), none⟩])
    .ret))))
theorem in143 {args : List AV} {σ : Store} {K : AV → Store → Prop} (hargs : args.length ≤ 12 := by simp) (h : AWP Try.prog Try.f143.ntmps c143 (fun e t s => match e with | .exit _ => False | _ => Res [.slot 4] K t s) (env (argList 0 args)) σ) : ACalls Try.prog 143 args σ K :=
  enter (own := []) Try.func143 (by kernel_rfl) (by kernel_rfl) (by kernel_rfl) hargs h
/-- changeling/lift.names -/
def c136 : ACode :=
(.seq
 (.reg [⟨(some 2), .move (.c .nils), none⟩])
 (.seq
  (.reg [⟨(some 3), .move (.c .nils), none⟩])
  (.seq
   (.seq
    (.reg [⟨(some 6), .move (.t 0), none⟩,
      ⟨(some 7), .len .slice (.t 6), none⟩,
      ⟨(some 8), .move (.c (.int .i64 0)), none⟩])
    (.block 0
     (.loop
      (.seq
       (.reg [⟨(some 9), .bin .int .lss (.t 8) (.t 7), none⟩])
       (.seq
        (.cond (.t 9)
         .skip
         (.exit 0))
        (.seq
         (.block 1
          (.seq
           (.reg [⟨(some 10), .iaddr 10 (.t 6) (.t 8), none⟩,
             ⟨(some 11), .load (some 10) (.t 10), none⟩,
             ⟨(some 5), .new 114 (.c (.agg [(.str ⟨#[]⟩), (.int .i64 0), (.str ⟨#[]⟩), (.int .i64 0), (.int .i64 0), .nils, .nils, .nils, .nils, .nils])), none⟩,
             ⟨none, .store 10 (.t 5) (.t 11), none⟩])
           (.reg [⟨(some 12), .move (.t 3), none⟩,
             ⟨(some 13), .faddr 0 (.t 5), none⟩,
             ⟨(some 14), .load none (.t 13), none⟩,
             ⟨(some 15), .lit false 9 1 [(.t 14)], none⟩,
             ⟨(some 16), .append 9 1 16 (.t 12) (.t 15), none⟩,
             ⟨(some 3), .move (.t 16), none⟩])))
         (.reg [⟨(some 17), .bin .int .add (.t 8) (.c (.int .i64 1)), none⟩,
           ⟨(some 8), .move (.t 17), none⟩])))))))
   (.seq
    (.reg [⟨(some 18), .move (.t 3), none⟩,
      ⟨(some 2), .move (.t 18), none⟩])
    .ret))))
theorem in136 {args : List AV} {σ : Store} {K : AV → Store → Prop} (hargs : args.length ≤ 19 := by simp) (h : AWP Try.prog Try.f136.ntmps c136 (fun e t s => match e with | .exit _ => False | _ => Res [.slot 2] K t s) (env (argList 0 args)) σ) : ACalls Try.prog 136 args σ K :=
  enter (own := []) Try.func136 (by kernel_rfl) (by kernel_rfl) (by kernel_rfl) hargs h
/-- (*changeling/lift.checker).alts -/
def c144 : ACode :=
(.seq
 (.reg [⟨(some 6), .move (.c (.bool false)), none⟩])
 (.seq
  (.seq
   (.reg [⟨(some 11), .move (.t 1), none⟩,
     ⟨(some 12), .len .slice (.t 11), none⟩,
     ⟨(some 13), .move (.c (.int .i64 0)), none⟩])
   (.block 0
    (.loop
     (.seq
      (.reg [⟨(some 14), .bin .int .lss (.t 13) (.t 12), none⟩])
      (.seq
       (.cond (.t 14)
        .skip
        (.exit 0))
       (.seq
        (.block 1
         (.seq
          (.reg [⟨(some 15), .move (.t 13), none⟩,
            ⟨(some 16), .iaddr 13 (.t 11) (.t 13), none⟩,
            ⟨(some 17), .load (some 13) (.t 16), none⟩,
            ⟨(some 8), .new 113 (.c (.agg [(.int .i64 0), (.str ⟨#[]⟩), (.int .i64 0), .nils, (.int .i64 0), (.str ⟨#[]⟩), (.int .i64 0), (.int .i64 0), .nils, .nils, .nils, .nils, .nils])), none⟩,
            ⟨(some 7), .move (.t 15), none⟩,
            ⟨none, .store 13 (.t 8) (.t 17), none⟩])
          (.seq
           (.seq
            (.reg [⟨(some 18), .faddr 0 (.t 8), none⟩,
              ⟨(some 19), .load none (.t 18), none⟩])
            (.block 2
             (.seq
              (.reg [⟨(some 21), .bin .int .eql (.t 19) (.c (.int .i64 1)), none⟩,
                ⟨(some 20), .move (.t 21), none⟩])
              (.cond (.t 20)
               (.seq
                (.reg [⟨(some 22), .faddr 1 (.t 8), none⟩,
                  ⟨(some 23), .load none (.t 22), none⟩,
                  ⟨(some 24), .bin .str .eql (.t 23) (.c (.str ⟨#[]⟩)), none⟩,
                  ⟨(some 25), .move (.t 24), none⟩,
                  ⟨(some 26), .faddr 2 (.t 8), some (25, false)⟩,
                  ⟨(some 27), .load none (.t 26), some (25, false)⟩,
                  ⟨(some 28), .bin .int .lss (.t 27) (.c (.int .i64 0)), some (25, false)⟩,
                  ⟨(some 29), .pick (.t 25) (.c (.bool true)) (.t 28), none⟩,
                  ⟨(some 30), .move (.t 29), none⟩,
                  ⟨(some 31), .faddr 3 (.t 8), some (30, false)⟩,
                  ⟨(some 32), .load none (.t 31), some (30, false)⟩,
                  ⟨(some 33), .call 111 [(.t 32)], some (30, false)⟩,
                  ⟨(some 34), .not (.t 33), some (30, false)⟩,
                  ⟨(some 35), .pick (.t 30) (.c (.bool true)) (.t 34), none⟩])
                (.cond (.t 35)
                 (.seq
                  (.reg [⟨(some 6), .move (.c (.bool false)), none⟩])
                  .ret)
                 .skip))
               (.seq
                (.reg [⟨(some 37), .bin .int .eql (.t 19) (.c (.int .i64 2)), none⟩,
                  ⟨(some 36), .move (.t 37), none⟩])
                (.cond (.t 36)
                 (.seq
                  (.reg [⟨(some 38), .faddr 1 (.t 8), none⟩,
                    ⟨(some 39), .load none (.t 38), none⟩,
                    ⟨(some 40), .bin .str .neq (.t 39) (.c (.str ⟨#[]⟩)), none⟩,
                    ⟨(some 41), .move (.t 40), none⟩,
                    ⟨(some 42), .faddr 3 (.t 8), some (41, false)⟩,
                    ⟨(some 43), .load none (.t 42), some (41, false)⟩,
                    ⟨(some 44), .len .slice (.t 43), some (41, false)⟩,
                    ⟨(some 45), .bin .int .gtr (.t 44) (.c (.int .i64 0)), some (41, false)⟩,
                    ⟨(some 46), .pick (.t 41) (.c (.bool true)) (.t 45), none⟩])
                  (.cond (.t 46)
                   (.seq
                    (.reg [⟨(some 6), .move (.c (.bool false)), none⟩])
                    .ret)
                   .skip))
                 (.seq
                  (.reg [⟨(some 48), .bin .int .eql (.t 19) (.c (.int .i64 3)), none⟩,
                    ⟨(some 47), .move (.t 48), none⟩])
                  (.cond (.t 47)
                   (.seq
                    (.reg [⟨(some 49), .faddr 1 (.t 8), none⟩,
                      ⟨(some 50), .load none (.t 49), none⟩,
                      ⟨(some 51), .bin .str .neq (.t 50) (.c (.str ⟨#[]⟩)), none⟩,
                      ⟨(some 52), .move (.t 51), none⟩,
                      ⟨(some 53), .faddr 2 (.t 8), some (52, false)⟩,
                      ⟨(some 54), .load none (.t 53), some (52, false)⟩,
                      ⟨(some 55), .bin .int .neq (.t 54) (.c (.int .i64 0)), some (52, false)⟩,
                      ⟨(some 56), .pick (.t 52) (.c (.bool true)) (.t 55), none⟩,
                      ⟨(some 57), .move (.t 56), none⟩,
                      ⟨(some 58), .faddr 3 (.t 8), some (57, false)⟩,
                      ⟨(some 59), .load none (.t 58), some (57, false)⟩,
                      ⟨(some 60), .len .slice (.t 59), some (57, false)⟩,
                      ⟨(some 61), .bin .int .gtr (.t 60) (.c (.int .i64 0)), some (57, false)⟩,
                      ⟨(some 62), .pick (.t 57) (.c (.bool true)) (.t 61), none⟩,
                      ⟨(some 63), .move (.t 62), none⟩,
                      ⟨(some 64), .move (.t 7), some (63, false)⟩,
                      ⟨(some 65), .move (.t 1), some (63, false)⟩,
                      ⟨(some 66), .len .slice (.t 65), some (63, false)⟩,
                      ⟨(some 67), .bin .int .sub (.t 66) (.c (.int .i64 1)), some (63, false)⟩,
                      ⟨(some 68), .bin .int .lss (.t 64) (.t 67), some (63, false)⟩,
                      ⟨(some 69), .pick (.t 63) (.c (.bool true)) (.t 68), none⟩])
                    (.cond (.t 69)
                     (.seq
                      (.reg [⟨(some 6), .move (.c (.bool false)), none⟩])
                      .ret)
                     .skip))
                   (.seq
                    (.reg [⟨(some 6), .move (.c (.bool false)), none⟩])
                    .ret)))))))))
           (.seq
            (.seq
             (.reg [⟨(some 70), .move (.t 1), none⟩,
               ⟨(some 71), .move (.t 7), none⟩,
               ⟨(some 72), .cut .slice 13 (.t 70) none (some (.t 71)), none⟩,
               ⟨(some 73), .len .slice (.t 72), none⟩,
               ⟨(some 74), .move (.c (.int .i64 0)), none⟩])
             (.block 3
              (.loop
               (.seq
                (.reg [⟨(some 75), .bin .int .lss (.t 74) (.t 73), none⟩])
                (.seq
                 (.cond (.t 75)
                  .skip
                  (.exit 3))
                 (.seq
                  (.block 4
                   (.seq
                    (.reg [⟨(some 76), .iaddr 13 (.t 72) (.t 74), none⟩,
                      ⟨(some 77), .load (some 13) (.t 76), none⟩,
                      ⟨(some 10), .new 113 (.c (.agg [(.int .i64 0), (.str ⟨#[]⟩), (.int .i64 0), .nils, (.int .i64 0), (.str ⟨#[]⟩), (.int .i64 0), (.int .i64 0), .nils, .nils, .nils, .nils, .nils])), none⟩,
                      ⟨none, .store 13 (.t 10) (.t 77), none⟩])
                    (.seq
                     (.reg [⟨(some 78), .faddr 0 (.t 10), none⟩,
                       ⟨(some 79), .load none (.t 78), none⟩,
                       ⟨(some 80), .faddr 0 (.t 8), none⟩,
                       ⟨(some 81), .load none (.t 80), none⟩,
                       ⟨(some 82), .bin .int .neq (.t 79) (.t 81), none⟩,
                       ⟨(some 83), .move (.t 82), none⟩,
                       ⟨(some 84), .faddr 0 (.t 8), some (83, true)⟩,
                       ⟨(some 85), .load none (.t 84), some (83, true)⟩,
                       ⟨(some 86), .bin .int .neq (.t 85) (.c (.int .i64 3)), some (83, true)⟩,
                       ⟨(some 87), .pick (.t 83) (.t 86) (.c (.bool false)), none⟩,
                       ⟨(some 88), .move (.t 87), none⟩,
                       ⟨(some 89), .faddr 0 (.t 10), some (88, false)⟩,
                       ⟨(some 90), .load none (.t 89), some (88, false)⟩,
                       ⟨(some 91), .faddr 0 (.t 8), some (88, false)⟩,
                       ⟨(some 92), .load none (.t 91), some (88, false)⟩,
                       ⟨(some 93), .bin .int .eql (.t 90) (.t 92), some (88, false)⟩,
                       ⟨(some 94), .move (.t 93), some (88, false)⟩,
                       ⟨(some 95), .faddr 1 (.t 10), some (94, true)⟩,
                       ⟨(some 96), .load none (.t 95), some (94, true)⟩,
                       ⟨(some 97), .faddr 1 (.t 8), some (94, true)⟩,
                       ⟨(some 98), .load none (.t 97), some (94, true)⟩,
                       ⟨(some 99), .bin .str .eql (.t 96) (.t 98), some (94, true)⟩,
                       ⟨(some 100), .pick (.t 94) (.t 99) (.c (.bool false)), some (88, false)⟩,
                       ⟨(some 101), .move (.t 100), some (88, false)⟩,
                       ⟨(some 102), .faddr 0 (.t 8), some (101, true)⟩,
                       ⟨(some 103), .load none (.t 102), some (101, true)⟩,
                       ⟨(some 104), .bin .int .eql (.t 103) (.c (.int .i64 1)), some (101, true)⟩,
                       ⟨(some 105), .move (.t 104), some (101, true)⟩,
                       ⟨(some 106), .faddr 2 (.t 10), some (105, false)⟩,
                       ⟨(some 107), .load none (.t 106), some (105, false)⟩,
                       ⟨(some 108), .faddr 2 (.t 8), some (105, false)⟩,
                       ⟨(some 109), .load none (.t 108), some (105, false)⟩,
                       ⟨(some 110), .bin .int .eql (.t 107) (.t 109), some (105, false)⟩,
                       ⟨(some 111), .pick (.t 105) (.c (.bool true)) (.t 110), some (101, true)⟩,
                       ⟨(some 112), .pick (.t 101) (.t 111) (.c (.bool false)), some (88, false)⟩,
                       ⟨(some 113), .pick (.t 88) (.c (.bool true)) (.t 112), none⟩])
                     (.cond (.t 113)
                      (.seq
                       (.reg [⟨(some 6), .move (.c (.bool false)), none⟩])
                       .ret)
                      .skip))))
                  (.reg [⟨(some 114), .bin .int .add (.t 74) (.c (.int .i64 1)), none⟩,
                    ⟨(some 74), .move (.t 114), none⟩])))))))
            (.seq
             (.draw [] [([⟨(some 115), .move (.t 0), none⟩], []),
               ([⟨(some 116), .faddr 4 (.t 8), none⟩], []),
               ([⟨(some 117), .load (some 9) (.t 116), none⟩], []),
               ([⟨(some 118), .move (.t 2), none⟩], []),
               ([⟨(some 119), .faddr 3 (.t 8), none⟩], []),
               ([⟨(some 120), .load none (.t 119), none⟩], []),
               ([⟨(some 121), .call 143 [(.t 118), (.t 120)], none⟩], [⟨(some 116), .faddr 4 (.t 8), none⟩, ⟨(some 117), .load (some 9) (.t 116), none⟩]),
               ([⟨(some 122), .call 86 [(.t 115), (.t 117), (.t 121)], none⟩], []),
               ([⟨(some 123), .not (.t 122), none⟩], [])])
             (.cond (.t 123)
              (.seq
               (.reg [⟨(some 6), .move (.c (.bool false)), none⟩])
               .ret)
              .skip))))))
        (.reg [⟨(some 124), .bin .int .add (.t 13) (.c (.int .i64 1)), none⟩,
          ⟨(some 13), .move (.t 124), none⟩])))))))
  (.seq
   (.reg [⟨(some 125), .move (.t 1), none⟩,
     ⟨(some 126), .len .slice (.t 125), none⟩,
     ⟨(some 127), .bin .int .gtr (.t 126) (.c (.int .i64 0)), none⟩,
     ⟨(some 6), .move (.t 127), none⟩])
   .ret)))
theorem in144 {args : List AV} {σ : Store} {K : AV → Store → Prop} (hargs : args.length ≤ 128 := by simp) (h : AWP Try.prog Try.f144.ntmps c144 (fun e t s => match e with | .exit _ => False | _ => Res [.slot 6] K t s) (env (argList 0 args)) σ) : ACalls Try.prog 144 args σ K :=
  enter (own := []) Try.func144 (by kernel_rfl) (by kernel_rfl) (by kernel_rfl) hargs h
/-- (*changeling/lift.checker).picks -/
def c145 : ACode :=
(.seq
 (.reg [⟨(some 6), .move (.c (.bool false)), none⟩])
 (.seq
  (.reg [⟨(some 7), .move (.c .nils), none⟩])
  (.seq
   (.seq
    (.reg [⟨(some 10), .move (.t 1), none⟩,
      ⟨(some 11), .len .slice (.t 10), none⟩,
      ⟨(some 12), .move (.c (.int .i64 0)), none⟩])
    (.block 0
     (.loop
      (.seq
       (.reg [⟨(some 13), .bin .int .lss (.t 12) (.t 11), none⟩])
       (.seq
        (.cond (.t 13)
         .skip
         (.exit 0))
        (.seq
         (.block 1
          (.seq
           (.reg [⟨(some 14), .iaddr 10 (.t 10) (.t 12), none⟩,
             ⟨(some 15), .load (some 10) (.t 14), none⟩,
             ⟨(some 9), .new 116 (.c (.agg [(.int .i64 0), (.int .i64 0), (.str ⟨#[]⟩), (.int .i64 0), (.int .i64 0), .nils, .nils, .nils, .nils, .nils])), none⟩,
             ⟨none, .store 10 (.t 9) (.t 15), none⟩])
           (.seq
            (.seq
             (.reg [⟨(some 16), .move (.t 7), none⟩,
               ⟨(some 17), .faddr 0 (.t 9), none⟩,
               ⟨(some 18), .load none (.t 17), none⟩,
               ⟨(some 19), .call 160 [(.t 16), (.t 18)], none⟩,
               ⟨(some 20), .move (.t 19), none⟩,
               ⟨(some 21), .move (.t 0), some (20, false)⟩,
               ⟨(some 22), .faddr 1 (.t 9), some (20, false)⟩,
               ⟨(some 23), .load (some 9) (.t 22), some (20, false)⟩,
               ⟨(some 24), .move (.t 2), some (20, false)⟩,
               ⟨(some 25), .call 86 [(.t 21), (.t 23), (.t 24)], some (20, false)⟩,
               ⟨(some 26), .not (.t 25), some (20, false)⟩,
               ⟨(some 27), .pick (.t 20) (.c (.bool true)) (.t 26), none⟩])
             (.cond (.t 27)
              (.seq
               (.reg [⟨(some 6), .move (.c (.bool false)), none⟩])
               .ret)
              .skip))
            (.reg [⟨(some 28), .move (.t 7), none⟩,
              ⟨(some 29), .faddr 0 (.t 9), none⟩,
              ⟨(some 30), .load none (.t 29), none⟩,
              ⟨(some 31), .lit false 3 1 [(.t 30)], none⟩,
              ⟨(some 32), .append 3 1 8 (.t 28) (.t 31), none⟩,
              ⟨(some 7), .move (.t 32), none⟩]))))
         (.reg [⟨(some 33), .bin .int .add (.t 12) (.c (.int .i64 1)), none⟩,
           ⟨(some 12), .move (.t 33), none⟩])))))))
   (.seq
    (.reg [⟨(some 6), .move (.c (.bool true)), none⟩])
    .ret))))
theorem in145 {args : List AV} {σ : Store} {K : AV → Store → Prop} (hargs : args.length ≤ 34 := by simp) (h : AWP Try.prog Try.f145.ntmps c145 (fun e t s => match e with | .exit _ => False | _ => Res [.slot 6] K t s) (env (argList 0 args)) σ) : ACalls Try.prog 145 args σ K :=
  enter (own := []) Try.func145 (by kernel_rfl) (by kernel_rfl) (by kernel_rfl) hargs h
/-- slices.Contains[[]int,int] -/
def c160 : ACode :=
(.seq
 (.reg [⟨(some 4), .move (.c (.bool false)), none⟩])
 (.seq
  (.reg [⟨(some 5), .move (.t 0), none⟩,
    ⟨(some 6), .move (.t 1), none⟩,
    ⟨(some 7), .call 172 [(.t 5), (.t 6)], none⟩,
    ⟨(some 8), .bin .int .geq (.t 7) (.c (.int .i64 0)), none⟩,
    ⟨(some 4), .move (.t 8), none⟩])
  .ret))
theorem in160 {args : List AV} {σ : Store} {K : AV → Store → Prop} (hargs : args.length ≤ 9 := by simp) (h : AWP Try.prog Try.f160.ntmps c160 (fun e t s => match e with | .exit _ => False | _ => Res [.slot 4] K t s) (env (argList 0 args)) σ) : ACalls Try.prog 160 args σ K :=
  enter (own := []) Try.func160 (by kernel_rfl) (by kernel_rfl) (by kernel_rfl) hargs h
/-- slices.Index[[]int,int] -/
def c172 : ACode :=
(.seq
 (.reg [⟨(some 4), .move (.c (.int .i64 0)), none⟩])
 (.seq
  (.seq
   (.reg [⟨(some 6), .move (.t 0), none⟩,
     ⟨(some 7), .len .slice (.t 6), none⟩,
     ⟨(some 8), .move (.c (.int .i64 0)), none⟩])
   (.block 0
    (.loop
     (.seq
      (.reg [⟨(some 9), .bin .int .lss (.t 8) (.t 7), none⟩])
      (.seq
       (.cond (.t 9)
        .skip
        (.exit 0))
       (.seq
        (.block 1
         (.seq
          (.reg [⟨(some 10), .move (.t 8), none⟩,
            ⟨(some 5), .move (.t 10), none⟩])
          (.seq
           (.reg [⟨(some 11), .move (.t 1), none⟩,
             ⟨(some 12), .move (.t 0), none⟩,
             ⟨(some 13), .move (.t 5), none⟩,
             ⟨(some 14), .iaddr 1 (.t 12) (.t 13), none⟩,
             ⟨(some 15), .load none (.t 14), none⟩,
             ⟨(some 16), .bin .int .eql (.t 11) (.t 15), none⟩])
           (.cond (.t 16)
            (.seq
             (.reg [⟨(some 17), .move (.t 5), none⟩,
               ⟨(some 4), .move (.t 17), none⟩])
             .ret)
            .skip))))
        (.reg [⟨(some 18), .bin .int .add (.t 8) (.c (.int .i64 1)), none⟩,
          ⟨(some 8), .move (.t 18), none⟩])))))))
  (.seq
   (.reg [⟨(some 4), .move (.c (.int .i64 (-1))), none⟩])
   .ret)))
theorem in172 {args : List AV} {σ : Store} {K : AV → Store → Prop} (hargs : args.length ≤ 19 := by simp) (h : AWP Try.prog Try.f172.ntmps c172 (fun e t s => match e with | .exit _ => False | _ => Res [.slot 4] K t s) (env (argList 0 args)) σ) : ACalls Try.prog 172 args σ K :=
  enter (own := []) Try.func172 (by kernel_rfl) (by kernel_rfl) (by kernel_rfl) hargs h
/-- (*changeling/lift.lifter).now -/
def c48 : ACode :=
(.seq
 (.reg [⟨(some 3), .new 54 (.t 1), none⟩,
   ⟨(some 4), .new 54 (.c (.agg [(.int .i64 0), (.str ⟨#[]⟩), (.int .i64 0), (.int .i64 0), .nils, .nils, .nils, .nils, .nils])), none⟩])
 (.seq
  (.seq
   (.reg [⟨(some 5), .faddr 0 (.t 3), none⟩,
     ⟨(some 6), .load none (.t 5), none⟩,
     ⟨(some 7), .bin .int .eql (.t 6) (.c (.int .i64 6)), none⟩])
   (.cond (.t 7)
    (.seq
     (.reg [⟨(some 8), .move (.t 0), none⟩,
       ⟨(some 9), .load (some 9) (.t 3), none⟩,
       ⟨(some 10), .faddr 4 (.t 3), none⟩,
       ⟨(some 11), .load none (.t 10), none⟩,
       ⟨(some 12), .faddr 5 (.t 3), none⟩,
       ⟨(some 13), .load none (.t 12), none⟩,
       ⟨(some 14), .iaddr 9 (.t 13) (.c (.int .i64 0)), none⟩,
       ⟨(some 15), .load (some 9) (.t 14), none⟩,
       ⟨(some 16), .call 87 [(.t 8), (.t 9), (.t 11), (.t 15)], none⟩,
       ⟨none, .store 9 (.t 4) (.t 16), none⟩])
     .ret)
    .skip))
  (.seq
   (.reg [⟨(some 17), .move (.t 0), none⟩,
     ⟨(some 18), .load (some 9) (.t 3), none⟩,
     ⟨(some 19), .move (.t 0), none⟩,
     ⟨(some 20), .mkfn (.func 48) [(.t 19)] [], none⟩,
     ⟨(some 21), .move (.t 0), none⟩,
     ⟨(some 22), .mkfn (.func 89) [(.t 21)] [], none⟩,
     ⟨(some 23), .call 88 [(.t 17), (.t 18), (.t 20), (.t 22)], none⟩,
     ⟨none, .store 9 (.t 4) (.t 23), none⟩])
   .ret)))
theorem in48 {args : List AV} {σ : Store} {K : AV → Store → Prop} (hargs : args.length ≤ 24 := by simp) (h : AWP Try.prog Try.f48.ntmps c48 (fun e t s => match e with | .exit _ => False | _ => Res [.cell 4 (some 9)] K t s) (env (argList 0 args)) σ) : ACalls Try.prog 48 args σ K :=
  enter (own := []) Try.func48 (by kernel_rfl) (by kernel_rfl) (by kernel_rfl) hargs h
/-- (*changeling/lift.lifter).named -/
def c87 : ACode :=
(.seq
 (.reg [⟨(some 5), .new 54 (.t 1), none⟩,
   ⟨(some 7), .new 54 (.t 3), none⟩,
   ⟨(some 8), .new 54 (.c (.agg [(.int .i64 0), (.str ⟨#[]⟩), (.int .i64 0), (.int .i64 0), .nils, .nils, .nils, .nils, .nils])), none⟩])
 (.seq
  (.reg [⟨(some 17), .load (some 9) (.t 5), none⟩,
    ⟨(some 18), .call 46 [(.t 17)], none⟩,
    ⟨(some 9), .move (.t 18), none⟩])
  (.seq
   (.reg [⟨(some 19), .move (.t 0), none⟩,
     ⟨(some 20), .nilck (.t 19), none⟩,
     ⟨(some 21), .faddr 1 (.t 20), none⟩,
     ⟨(some 22), .load none (.t 21), none⟩,
     ⟨(some 23), .len .slice (.t 22), none⟩,
     ⟨(some 10), .move (.t 23), none⟩])
   (.seq
    (.draw [] [([⟨(some 24), .move (.t 0), none⟩], []),
      ([⟨(some 25), .nilck (.t 24), none⟩], []),
      ([⟨(some 26), .faddr 0 (.t 25), none⟩], []),
      ([⟨(some 27), .load none (.t 26), none⟩], []),
      ([⟨(some 28), .bin .str .add (.t 27) (.c (.str ⟨#[35]⟩)), none⟩], []),
      ([⟨(some 29), .move (.t 10), none⟩], []),
      ([⟨(some 30), .bin .int .add (.t 29) (.c (.int .i64 1)), none⟩], []),
      ([⟨(some 31), .call 132 [(.t 30)], none⟩], [⟨(some 26), .faddr 0 (.t 25), none⟩, ⟨(some 27), .load none (.t 26), none⟩]),
      ([⟨(some 32), .bin .str .add (.t 28) (.t 31), none⟩], []),
      ([⟨(some 11), .move (.t 32), none⟩], [])])
    (.seq
     (.draw [] [([⟨(some 33), .move (.t 0), none⟩], []),
       ([⟨(some 34), .move (.t 0), none⟩], []),
       ([⟨(some 35), .nilck (.t 34), none⟩], []),
       ([⟨(some 36), .faddr 1 (.t 35), none⟩], []),
       ([⟨(some 37), .load none (.t 36), none⟩], []),
       ([⟨(some 38), .move (.t 11), none⟩], []),
       ([⟨(some 39), .move (.t 9), none⟩], []),
       ([⟨(some 40), .move (.t 2), none⟩], []),
       ([⟨(some 41), .call 143 [(.t 39), (.t 40)], none⟩], [⟨(some 36), .faddr 1 (.t 35), none⟩, ⟨(some 37), .load none (.t 36), none⟩]),
       ([⟨(some 42), .build [(.str ⟨#[]⟩), .nils, (.int .i64 0), (.str ⟨#[]⟩), (.int .i64 0), (.int .i64 0), .nils, .nils, .nils, .nils, .nils] [(0, 1, (.t 38)), (1, 1, (.t 41))], none⟩], []),
       ([⟨(some 43), .lit false 71 11 [(.t 42)], none⟩], []),
       ([⟨(some 44), .append 71 11 200 (.t 37) (.t 43), none⟩], []),
       ([⟨(some 45), .nilck (.t 33), none⟩], []),
       ([⟨(some 46), .faddr 1 (.t 45), none⟩], []),
       ([⟨none, .store 1 (.t 46) (.t 44), none⟩], [])])
     (.seq
      (.reg [⟨(some 47), .move (.t 0), none⟩,
        ⟨(some 48), .load (some 9) (.t 7), none⟩,
        ⟨(some 49), .call 48 [(.t 47), (.t 48)], none⟩,
        ⟨(some 12), .new 54 (.c (.agg [(.int .i64 0), (.str ⟨#[]⟩), (.int .i64 0), (.int .i64 0), .nils, .nils, .nils, .nils, .nils])), none⟩,
        ⟨none, .store 9 (.t 12) (.t 49), none⟩])
      (.seq
       (.reg [⟨(some 50), .move (.t 0), none⟩,
         ⟨(some 51), .nilck (.t 50), none⟩,
         ⟨(some 52), .faddr 1 (.t 51), none⟩,
         ⟨(some 53), .load none (.t 52), none⟩,
         ⟨(some 54), .move (.t 10), none⟩,
         ⟨(some 55), .load (some 9) (.t 12), none⟩,
         ⟨(some 56), .iaddr 11 (.t 53) (.t 54), none⟩,
         ⟨(some 57), .faddr 2 (.t 56), none⟩,
         ⟨none, .store 9 (.t 57) (.t 55), none⟩])
       (.seq
        (.reg [⟨(some 58), .move (.t 11), none⟩,
          ⟨(some 59), .build [(.int .i64 0), (.str ⟨#[]⟩), (.int .i64 0), (.int .i64 0), .nils, .nils, .nils, .nils, .nils] [(0, 1, (.c (.int .i64 2))), (1, 1, (.t 58))], none⟩,
          ⟨(some 13), .new 54 (.c (.agg [(.int .i64 0), (.str ⟨#[]⟩), (.int .i64 0), (.int .i64 0), .nils, .nils, .nils, .nils, .nils])), none⟩,
          ⟨none, .store 9 (.t 13) (.t 59), none⟩])
        (.seq
         (.seq
          (.reg [⟨(some 60), .move (.t 9), none⟩,
            ⟨(some 61), .len .slice (.t 60), none⟩,
            ⟨(some 62), .move (.c (.int .i64 0)), none⟩])
          (.block 0
           (.loop
            (.seq
             (.reg [⟨(some 63), .bin .int .lss (.t 62) (.t 61), none⟩])
             (.seq
              (.cond (.t 63)
               .skip
               (.exit 0))
              (.seq
               (.block 1
                (.seq
                 (.reg [⟨(some 64), .iaddr 1 (.t 60) (.t 62), none⟩,
                   ⟨(some 65), .load none (.t 64), none⟩,
                   ⟨(some 15), .move (.t 65), none⟩])
                 (.seq
                  (.reg [⟨(some 66), .load (some 9) (.t 13), none⟩,
                    ⟨(some 16), .new 54 (.c (.agg [(.int .i64 0), (.str ⟨#[]⟩), (.int .i64 0), (.int .i64 0), .nils, .nils, .nils, .nils, .nils])), none⟩,
                    ⟨none, .store 9 (.t 16) (.t 66), none⟩])
                  (.reg [⟨(some 67), .load (some 9) (.t 16), none⟩,
                    ⟨(some 68), .move (.t 15), none⟩,
                    ⟨(some 69), .build [(.int .i64 0), (.str ⟨#[]⟩), (.int .i64 0), (.int .i64 0), .nils, .nils, .nils, .nils, .nils] [(0, 1, (.c (.int .i64 1))), (1, 1, (.t 68))], none⟩,
                    ⟨(some 70), .lit false 54 9 [(.t 67), (.t 69)], none⟩,
                    ⟨(some 71), .build [(.int .i64 0), (.str ⟨#[]⟩), (.int .i64 0), (.int .i64 0), .nils, .nils, .nils, .nils, .nils] [(0, 1, (.c (.int .i64 5))), (5, 1, (.t 70))], none⟩,
                    ⟨none, .store 9 (.t 13) (.t 71), none⟩]))))
               (.reg [⟨(some 72), .bin .int .add (.t 62) (.c (.int .i64 1)), none⟩,
                 ⟨(some 62), .move (.t 72), none⟩])))))))
         (.seq
          (.reg [⟨(some 73), .load (some 9) (.t 13), none⟩,
            ⟨none, .store 9 (.t 8) (.t 73), none⟩])
          .ret))))))))))
theorem in87 {args : List AV} {σ : Store} {K : AV → Store → Prop} (hargs : args.length ≤ 74 := by simp) (h : AWP Try.prog Try.f87.ntmps c87 (fun e t s => match e with | .exit _ => False | _ => Res [.cell 8 (some 9)] K t s) (env (argList 0 args)) σ) : ACalls Try.prog 87 args σ K :=
  enter (own := []) Try.func87 (by kernel_rfl) (by kernel_rfl) (by kernel_rfl) hargs h
/-- changeling/lift.Free -/
def c46 : ACode :=
(.seq
 (.reg [⟨(some 1), .new 54 (.t 0), none⟩,
   ⟨(some 2), .move (.c .nils), none⟩])
 (.seq
  (.reg [⟨(some 4), .build [.nils, .nils] [], none⟩,
    ⟨(some 5), .new 192 (.t 4), none⟩,
    ⟨(some 3), .move (.t 5), none⟩])
  (.seq
   (.reg [⟨(some 6), .move (.t 3), none⟩,
     ⟨(some 7), .load (some 9) (.t 1), none⟩,
     ⟨(some 8), .call 82 [(.t 6), (.t 7)], none⟩])
   (.seq
    (.reg [⟨(some 9), .move (.t 3), none⟩,
      ⟨(some 10), .nilck (.t 9), none⟩,
      ⟨(some 11), .faddr 1 (.t 10), none⟩,
      ⟨(some 12), .load none (.t 11), none⟩,
      ⟨(some 2), .move (.t 12), none⟩])
    .ret))))
theorem in46 {args : List AV} {σ : Store} {K : AV → Store → Prop} (hargs : args.length ≤ 13 := by simp) (h : AWP Try.prog Try.f46.ntmps c46 (fun e t s => match e with | .exit _ => False | _ => Res [.slot 2] K t s) (env (argList 0 args)) σ) : ACalls Try.prog 46 args σ K :=
  enter (own := []) Try.func46 (by kernel_rfl) (by kernel_rfl) (by kernel_rfl) hargs h
/-- (*changeling/lift.finder).look -/
def c82 : ACode :=
(.seq
 (.reg [⟨(some 2), .new 190 (.t 0), none⟩,
   ⟨(some 3), .new 54 (.t 1), none⟩])
 (.seq
  (.seq
   (.reg [⟨(some 5), .faddr 0 (.t 3), none⟩,
     ⟨(some 6), .load none (.t 5), none⟩,
     ⟨(some 7), .bin .int .eql (.t 6) (.c (.int .i64 1)), none⟩,
     ⟨(some 8), .move (.t 7), none⟩,
     ⟨(some 9), .load none (.t 2), some (8, true)⟩,
     ⟨(some 10), .nilck (.t 9), some (8, true)⟩,
     ⟨(some 11), .faddr 0 (.t 10), some (8, true)⟩,
     ⟨(some 12), .load none (.t 11), some (8, true)⟩,
     ⟨(some 13), .faddr 1 (.t 3), some (8, true)⟩,
     ⟨(some 14), .load none (.t 13), some (8, true)⟩,
     ⟨(some 15), .call 85 [(.t 12), (.t 14)], some (8, true)⟩,
     ⟨(some 16), .not (.t 15), some (8, true)⟩,
     ⟨(some 17), .pick (.t 8) (.t 16) (.c (.bool false)), none⟩,
     ⟨(some 18), .move (.t 17), none⟩,
     ⟨(some 19), .load none (.t 2), some (18, true)⟩,
     ⟨(some 20), .nilck (.t 19), some (18, true)⟩,
     ⟨(some 21), .faddr 1 (.t 20), some (18, true)⟩,
     ⟨(some 22), .load none (.t 21), some (18, true)⟩,
     ⟨(some 23), .faddr 1 (.t 3), some (18, true)⟩,
     ⟨(some 24), .load none (.t 23), some (18, true)⟩,
     ⟨(some 25), .call 85 [(.t 22), (.t 24)], some (18, true)⟩,
     ⟨(some 26), .not (.t 25), some (18, true)⟩,
     ⟨(some 27), .pick (.t 18) (.t 26) (.c (.bool false)), none⟩])
   (.cond (.t 27)
    (.draw [] [([⟨(some 28), .load none (.t 2), none⟩], []),
      ([⟨(some 29), .load none (.t 2), none⟩], []),
      ([⟨(some 30), .nilck (.t 29), none⟩], []),
      ([⟨(some 31), .faddr 1 (.t 30), none⟩], []),
      ([⟨(some 32), .load none (.t 31), none⟩], []),
      ([⟨(some 33), .faddr 1 (.t 3), none⟩], []),
      ([⟨(some 34), .load none (.t 33), none⟩], []),
      ([⟨(some 35), .lit false 9 1 [(.t 34)], none⟩], []),
      ([⟨(some 36), .append 9 1 16 (.t 32) (.t 35), none⟩], [⟨(some 28), .load none (.t 2), none⟩]),
      ([⟨(some 37), .nilck (.t 28), none⟩], []),
      ([⟨(some 38), .faddr 1 (.t 37), none⟩], []),
      ([⟨none, .store 1 (.t 38) (.t 36), none⟩], [])])
    .skip))
  (.seq
   (.reg [⟨(some 39), .faddr 4 (.t 3), none⟩,
     ⟨(some 40), .load none (.t 39), none⟩,
     ⟨(some 4), .move (.t 40), none⟩])
   (.seq
    (.seq
     (.reg [⟨(some 41), .faddr 0 (.t 3), none⟩,
       ⟨(some 42), .load none (.t 41), none⟩,
       ⟨(some 43), .bin .int .eql (.t 42) (.c (.int .i64 7)), none⟩])
     (.cond (.t 43)
      (.reg [⟨(some 44), .faddr 7 (.t 3), none⟩,
        ⟨(some 45), .load none (.t 44), none⟩,
        ⟨(some 46), .call 136 [(.t 45)], none⟩,
        ⟨(some 4), .move (.t 46), none⟩])
      .skip))
    (.reg [⟨(some 47), .load none (.t 2), none⟩,
      ⟨(some 48), .move (.t 4), none⟩,
      ⟨(some 49), .mkfn (.func 138) [] [(.t 3), (.t 2)], none⟩,
      ⟨(some 50), .call 137 [(.t 47), (.t 48), (.t 49)], none⟩])))))
theorem in82 {args : List AV} {σ : Store} {K : AV → Store → Prop} (hargs : args.length ≤ 51 := by simp) (h : AWP Try.prog Try.f82.ntmps c82 (fun e t s => match e with | .exit _ => False | _ => Res [] K t s) (env (argList 0 args)) σ) : ACalls Try.prog 82 args σ K :=
  enter (own := []) Try.func82 (by kernel_rfl) (by kernel_rfl) (by kernel_rfl) hargs h
/-- (*changeling/lift.finder).look$1 -/
def c138 : ACode :=
(.seq
 (.seq
  (.reg [⟨(some 10), .faddr 5 (.t 0), none⟩,
    ⟨(some 11), .load none (.t 10), none⟩,
    ⟨(some 12), .len .slice (.t 11), none⟩,
    ⟨(some 13), .move (.c (.int .i64 0)), none⟩])
  (.block 0
   (.loop
    (.seq
     (.reg [⟨(some 14), .bin .int .lss (.t 13) (.t 12), none⟩])
     (.seq
      (.cond (.t 14)
       .skip
       (.exit 0))
      (.seq
       (.block 1
        (.seq
         (.reg [⟨(some 15), .iaddr 9 (.t 11) (.t 13), none⟩,
           ⟨(some 16), .load (some 9) (.t 15), none⟩,
           ⟨(some 3), .new 54 (.c (.agg [(.int .i64 0), (.str ⟨#[]⟩), (.int .i64 0), (.int .i64 0), .nils, .nils, .nils, .nils, .nils])), none⟩,
           ⟨none, .store 9 (.t 3) (.t 16), none⟩])
         (.reg [⟨(some 17), .load none (.t 1), none⟩,
           ⟨(some 18), .load (some 9) (.t 3), none⟩,
           ⟨(some 19), .call 82 [(.t 17), (.t 18)], none⟩])))
       (.reg [⟨(some 20), .bin .int .add (.t 13) (.c (.int .i64 1)), none⟩,
         ⟨(some 13), .move (.t 20), none⟩])))))))
 (.seq
  (.seq
   (.reg [⟨(some 21), .faddr 6 (.t 0), none⟩,
     ⟨(some 22), .load none (.t 21), none⟩,
     ⟨(some 23), .len .slice (.t 22), none⟩,
     ⟨(some 24), .move (.c (.int .i64 0)), none⟩])
   (.block 2
    (.loop
     (.seq
      (.reg [⟨(some 25), .bin .int .lss (.t 24) (.t 23), none⟩])
      (.seq
       (.cond (.t 25)
        .skip
        (.exit 2))
       (.seq
        (.block 3
         (.seq
          (.reg [⟨(some 26), .iaddr 13 (.t 22) (.t 24), none⟩,
            ⟨(some 27), .load (some 13) (.t 26), none⟩,
            ⟨(some 5), .new 113 (.c (.agg [(.int .i64 0), (.str ⟨#[]⟩), (.int .i64 0), .nils, (.int .i64 0), (.str ⟨#[]⟩), (.int .i64 0), (.int .i64 0), .nils, .nils, .nils, .nils, .nils])), none⟩,
            ⟨none, .store 13 (.t 5) (.t 27), none⟩])
          (.reg [⟨(some 28), .load none (.t 1), none⟩,
            ⟨(some 29), .faddr 3 (.t 5), none⟩,
            ⟨(some 30), .load none (.t 29), none⟩,
            ⟨(some 31), .mkfn (.func 139) [] [(.t 1), (.t 5)], none⟩,
            ⟨(some 32), .call 137 [(.t 28), (.t 30), (.t 31)], none⟩])))
        (.reg [⟨(some 33), .bin .int .add (.t 24) (.c (.int .i64 1)), none⟩,
          ⟨(some 24), .move (.t 33), none⟩])))))))
  (.seq
   (.seq
    (.reg [⟨(some 34), .faddr 7 (.t 0), none⟩,
      ⟨(some 35), .load none (.t 34), none⟩,
      ⟨(some 36), .len .slice (.t 35), none⟩,
      ⟨(some 37), .move (.c (.int .i64 0)), none⟩])
    (.block 4
     (.loop
      (.seq
       (.reg [⟨(some 38), .bin .int .lss (.t 37) (.t 36), none⟩])
       (.seq
        (.cond (.t 38)
         .skip
         (.exit 4))
        (.seq
         (.block 5
          (.seq
           (.reg [⟨(some 39), .iaddr 10 (.t 35) (.t 37), none⟩,
             ⟨(some 40), .load (some 10) (.t 39), none⟩,
             ⟨(some 7), .new 114 (.c (.agg [(.str ⟨#[]⟩), (.int .i64 0), (.str ⟨#[]⟩), (.int .i64 0), (.int .i64 0), .nils, .nils, .nils, .nils, .nils])), none⟩,
             ⟨none, .store 10 (.t 7) (.t 40), none⟩])
           (.reg [⟨(some 41), .load none (.t 1), none⟩,
             ⟨(some 42), .faddr 1 (.t 7), none⟩,
             ⟨(some 43), .load (some 9) (.t 42), none⟩,
             ⟨(some 44), .call 82 [(.t 41), (.t 43)], none⟩])))
         (.reg [⟨(some 45), .bin .int .add (.t 37) (.c (.int .i64 1)), none⟩,
           ⟨(some 37), .move (.t 45), none⟩])))))))
   (.seq
    (.reg [⟨(some 46), .faddr 8 (.t 0), none⟩,
      ⟨(some 47), .load none (.t 46), none⟩,
      ⟨(some 48), .len .slice (.t 47), none⟩,
      ⟨(some 49), .move (.c (.int .i64 0)), none⟩])
    (.block 6
     (.loop
      (.seq
       (.reg [⟨(some 50), .bin .int .lss (.t 49) (.t 48), none⟩])
       (.seq
        (.cond (.t 50)
         .skip
         (.exit 6))
        (.seq
         (.block 7
          (.seq
           (.reg [⟨(some 51), .iaddr 10 (.t 47) (.t 49), none⟩,
             ⟨(some 52), .load (some 10) (.t 51), none⟩,
             ⟨(some 9), .new 116 (.c (.agg [(.int .i64 0), (.int .i64 0), (.str ⟨#[]⟩), (.int .i64 0), (.int .i64 0), .nils, .nils, .nils, .nils, .nils])), none⟩,
             ⟨none, .store 10 (.t 9) (.t 52), none⟩])
           (.reg [⟨(some 53), .load none (.t 1), none⟩,
             ⟨(some 54), .faddr 1 (.t 9), none⟩,
             ⟨(some 55), .load (some 9) (.t 54), none⟩,
             ⟨(some 56), .call 82 [(.t 53), (.t 55)], none⟩])))
         (.reg [⟨(some 57), .bin .int .add (.t 49) (.c (.int .i64 1)), none⟩,
           ⟨(some 49), .move (.t 57), none⟩]))))))))))
theorem in138 {args : List AV} {σ : Store} {K : AV → Store → Prop} (hargs : args.length ≤ 58 := by simp) (h : AWP Try.prog Try.f138.ntmps c138 (fun e t s => match e with | .exit _ => False | _ => Res [] K t s) (env (argList 0 args)) σ) : ACalls Try.prog 138 args σ K :=
  enter (own := []) Try.func138 (by kernel_rfl) (by kernel_rfl) (by kernel_rfl) hargs h
/-- (*changeling/lift.finder).look$1$1 -/
def c139 : ACode :=
(.reg [⟨(some 2), .load none (.t 0), none⟩,
  ⟨(some 3), .faddr 4 (.t 1), none⟩,
  ⟨(some 4), .load (some 9) (.t 3), none⟩,
  ⟨(some 5), .call 82 [(.t 2), (.t 4)], none⟩])
theorem in139 {args : List AV} {σ : Store} {K : AV → Store → Prop} (hargs : args.length ≤ 6 := by simp) (h : AWP Try.prog Try.f139.ntmps c139 (fun e t s => match e with | .exit _ => False | _ => Res [] K t s) (env (argList 0 args)) σ) : ACalls Try.prog 139 args σ K :=
  enter (own := []) Try.func139 (by kernel_rfl) (by kernel_rfl) (by kernel_rfl) hargs h
/-- (*changeling/lift.finder).within -/
def c137 : ACode :=
(.seq
 (.reg [⟨(some 7), .move (.t 0), none⟩,
   ⟨(some 8), .nilck (.t 7), none⟩,
   ⟨(some 9), .faddr 0 (.t 8), none⟩,
   ⟨(some 10), .load none (.t 9), none⟩,
   ⟨(some 11), .len .slice (.t 10), none⟩,
   ⟨(some 6), .move (.t 11), none⟩])
 (.seq
  (.reg [⟨(some 12), .move (.t 0), none⟩,
    ⟨(some 13), .move (.t 0), none⟩,
    ⟨(some 14), .nilck (.t 13), none⟩,
    ⟨(some 15), .faddr 0 (.t 14), none⟩,
    ⟨(some 16), .load none (.t 15), none⟩,
    ⟨(some 17), .move (.t 1), none⟩,
    ⟨(some 18), .append 9 1 16 (.t 16) (.t 17), none⟩,
    ⟨(some 19), .nilck (.t 12), none⟩,
    ⟨(some 20), .faddr 0 (.t 19), none⟩,
    ⟨none, .store 1 (.t 20) (.t 18), none⟩])
  (.seq
   (.reg [⟨(some 21), .move (.t 2), none⟩,
     ⟨(some 22), .callv (.t 21) [], none⟩])
   (.reg [⟨(some 23), .move (.t 0), none⟩,
     ⟨(some 24), .move (.t 0), none⟩,
     ⟨(some 25), .nilck (.t 24), none⟩,
     ⟨(some 26), .faddr 0 (.t 25), none⟩,
     ⟨(some 27), .load none (.t 26), none⟩,
     ⟨(some 28), .move (.t 6), none⟩,
     ⟨(some 29), .cut .slice 1 (.t 27) none (some (.t 28)), none⟩,
     ⟨(some 30), .nilck (.t 23), none⟩,
     ⟨(some 31), .faddr 0 (.t 30), none⟩,
     ⟨none, .store 1 (.t 31) (.t 29), none⟩]))))
theorem in137 {args : List AV} {σ : Store} {K : AV → Store → Prop} (hargs : args.length ≤ 32 := by simp) (h : AWP Try.prog Try.f137.ntmps c137 (fun e t s => match e with | .exit _ => False | _ => Res [] K t s) (env (argList 0 args)) σ) : ACalls Try.prog 137 args σ K :=
  enter (own := []) Try.func137 (by kernel_rfl) (by kernel_rfl) (by kernel_rfl) hargs h
/-- changeling/num.Text -/
def c132 : ACode :=
(.seq
 (.reg [⟨(some 2), .move (.c (.str ⟨#[]⟩)), none⟩])
 (.seq
  (.reg [⟨(some 7), .move (.t 0), none⟩,
    ⟨(some 8), .conv .u64 (.t 7), none⟩,
    ⟨(some 3), .move (.t 8), none⟩])
  (.seq
   (.seq
    (.reg [⟨(some 9), .move (.t 0), none⟩,
      ⟨(some 10), .bin .int .lss (.t 9) (.c (.int .i64 0)), none⟩])
    (.cond (.t 10)
     (.reg [⟨(some 11), .move (.t 3), none⟩,
       ⟨(some 12), .neg (.t 11), none⟩,
       ⟨(some 3), .move (.t 12), none⟩])
     .skip))
   (.seq
    (.reg [⟨(some 4), .move (.c .nils), none⟩])
    (.seq
     (.block 0
      (.loop
       (.seq
        (.seq
         (.reg [⟨(some 13), .move (.t 3), none⟩,
           ⟨(some 14), .bin .int .gtr (.t 13) (.c (.int .u64 0)), none⟩,
           ⟨(some 15), .move (.t 14), none⟩,
           ⟨(some 16), .move (.t 4), some (15, false)⟩,
           ⟨(some 17), .len .slice (.t 16), some (15, false)⟩,
           ⟨(some 18), .bin .int .eql (.t 17) (.c (.int .i64 0)), some (15, false)⟩,
           ⟨(some 19), .pick (.t 15) (.c (.bool true)) (.t 18), none⟩])
         (.cond (.t 19)
          .skip
          (.exit 0)))
        (.block 1
         (.seq
          (.reg [⟨(some 20), .move (.t 4), none⟩,
            ⟨(some 21), .move (.t 3), none⟩,
            ⟨(some 22), .bin .int .rem (.t 21) (.c (.int .u64 10)), none⟩,
            ⟨(some 23), .bin .int .add (.c (.int .u64 48)) (.t 22), none⟩,
            ⟨(some 24), .conv .u8 (.t 23), none⟩,
            ⟨(some 25), .lit false 5 1 [(.t 24)], none⟩,
            ⟨(some 26), .append 5 1 1 (.t 20) (.t 25), none⟩,
            ⟨(some 4), .move (.t 26), none⟩])
          (.reg [⟨(some 27), .move (.t 3), none⟩,
            ⟨(some 28), .bin .int .quo (.t 27) (.c (.int .u64 10)), none⟩,
            ⟨(some 3), .move (.t 28), none⟩]))))))
     (.seq
      (.seq
       (.reg [⟨(some 29), .move (.t 0), none⟩,
         ⟨(some 30), .bin .int .lss (.t 29) (.c (.int .i64 0)), none⟩])
       (.cond (.t 30)
        (.reg [⟨(some 31), .move (.t 4), none⟩,
          ⟨(some 32), .lit false 5 1 [(.c (.int .u8 45))], none⟩,
          ⟨(some 33), .append 5 1 1 (.t 31) (.t 32), none⟩,
          ⟨(some 4), .move (.t 33), none⟩])
        .skip))
      (.seq
       (.seq
        (.reg [⟨(some 34), .move (.t 4), none⟩,
          ⟨(some 35), .len .slice (.t 34), none⟩,
          ⟨(some 36), .bin .int .sub (.t 35) (.c (.int .i64 1)), none⟩,
          ⟨(some 5), .move (.c (.int .i64 0)), none⟩,
          ⟨(some 6), .move (.t 36), none⟩])
        (.block 2
         (.loop
          (.seq
           (.seq
            (.reg [⟨(some 37), .move (.t 5), none⟩,
              ⟨(some 38), .move (.t 6), none⟩,
              ⟨(some 39), .bin .int .lss (.t 37) (.t 38), none⟩])
            (.cond (.t 39)
             .skip
             (.exit 2)))
           (.seq
            (.block 3
             (.reg [⟨(some 44), .move (.t 4), none⟩,
               ⟨(some 45), .move (.t 5), none⟩,
               ⟨(some 46), .move (.t 4), none⟩,
               ⟨(some 47), .move (.t 6), none⟩,
               ⟨(some 48), .move (.t 4), none⟩,
               ⟨(some 49), .move (.t 6), none⟩,
               ⟨(some 50), .iaddr 1 (.t 48) (.t 49), none⟩,
               ⟨(some 51), .load none (.t 50), none⟩,
               ⟨(some 52), .move (.t 4), none⟩,
               ⟨(some 53), .move (.t 5), none⟩,
               ⟨(some 54), .iaddr 1 (.t 52) (.t 53), none⟩,
               ⟨(some 55), .load none (.t 54), none⟩,
               ⟨(some 56), .iaddr 1 (.t 44) (.t 45), none⟩,
               ⟨none, .store 1 (.t 56) (.t 51), none⟩,
               ⟨(some 57), .iaddr 1 (.t 46) (.t 47), none⟩,
               ⟨none, .store 1 (.t 57) (.t 55), none⟩]))
            (.reg [⟨(some 40), .move (.t 5), none⟩,
              ⟨(some 41), .bin .int .add (.t 40) (.c (.int .i64 1)), none⟩,
              ⟨(some 42), .move (.t 6), none⟩,
              ⟨(some 43), .bin .int .sub (.t 42) (.c (.int .i64 1)), none⟩,
              ⟨(some 5), .move (.t 41), none⟩,
              ⟨(some 6), .move (.t 43), none⟩]))))))
       (.seq
        (.reg [⟨(some 58), .move (.t 4), none⟩,
          ⟨(some 59), .bstr (.t 58), none⟩,
          ⟨(some 2), .move (.t 59), none⟩])
        .ret))))))))
theorem in132 {args : List AV} {σ : Store} {K : AV → Store → Prop} (hargs : args.length ≤ 60 := by simp) (h : AWP Try.prog Try.f132.ntmps c132 (fun e t s => match e with | .exit _ => False | _ => Res [.slot 2] K t s) (env (argList 0 args)) σ) : ACalls Try.prog 132 args σ K :=
  enter (own := []) Try.func132 (by kernel_rfl) (by kernel_rfl) (by kernel_rfl) hargs h
/-- (*changeling/lift.lifter).later -/
def c89 : ACode :=
(.seq
 (.reg [⟨(some 3), .new 54 (.t 1), none⟩,
   ⟨(some 4), .new 54 (.c (.agg [(.int .i64 0), (.str ⟨#[]⟩), (.int .i64 0), (.int .i64 0), .nils, .nils, .nils, .nils, .nils])), none⟩])
 (.seq
  (.seq
   (.reg [⟨(some 5), .faddr 0 (.t 3), none⟩,
     ⟨(some 6), .load none (.t 5), none⟩])
   (.block 0
    (.seq
     (.reg [⟨(some 8), .bin .int .eql (.t 6) (.c (.int .i64 6)), none⟩,
       ⟨(some 7), .move (.t 8), none⟩])
     (.cond (.t 7)
      (.seq
       (.reg [⟨(some 9), .move (.t 0), none⟩,
         ⟨(some 10), .load (some 9) (.t 3), none⟩,
         ⟨(some 11), .faddr 4 (.t 3), none⟩,
         ⟨(some 12), .load none (.t 11), none⟩,
         ⟨(some 13), .faddr 5 (.t 3), none⟩,
         ⟨(some 14), .load none (.t 13), none⟩,
         ⟨(some 15), .iaddr 9 (.t 14) (.c (.int .i64 0)), none⟩,
         ⟨(some 16), .load (some 9) (.t 15), none⟩,
         ⟨(some 17), .call 87 [(.t 9), (.t 10), (.t 12), (.t 16)], none⟩,
         ⟨none, .store 9 (.t 4) (.t 17), none⟩])
       .ret)
      (.seq
       (.seq
        (.reg [⟨(some 19), .bin .int .eql (.t 6) (.c (.int .i64 8)), none⟩,
          ⟨(some 18), .move (.t 19), none⟩])
        (.cond (.t 18)
         .skip
         (.seq
          (.reg [⟨(some 20), .bin .int .eql (.t 6) (.c (.int .i64 11)), none⟩,
            ⟨(some 18), .move (.t 20), none⟩])
          (.cond (.t 18)
           .skip
           (.reg [⟨(some 21), .bin .int .eql (.t 6) (.c (.int .i64 10)), none⟩,
             ⟨(some 18), .move (.t 21), none⟩])))))
       (.cond (.t 18)
        (.seq
         (.reg [⟨(some 22), .move (.t 0), none⟩,
           ⟨(some 23), .load (some 9) (.t 3), none⟩,
           ⟨(some 24), .load (some 9) (.t 3), none⟩,
           ⟨(some 25), .call 87 [(.t 22), (.t 23), (.c .nils), (.t 24)], none⟩,
           ⟨none, .store 9 (.t 4) (.t 25), none⟩])
         .ret)
        .skip))))))
  (.seq
   (.reg [⟨(some 26), .move (.t 0), none⟩,
     ⟨(some 27), .load (some 9) (.t 3), none⟩,
     ⟨(some 28), .move (.t 0), none⟩,
     ⟨(some 29), .mkfn (.func 89) [(.t 28)] [], none⟩,
     ⟨(some 30), .move (.t 0), none⟩,
     ⟨(some 31), .mkfn (.func 89) [(.t 30)] [], none⟩,
     ⟨(some 32), .call 88 [(.t 26), (.t 27), (.t 29), (.t 31)], none⟩,
     ⟨none, .store 9 (.t 4) (.t 32), none⟩])
   .ret)))
theorem in89 {args : List AV} {σ : Store} {K : AV → Store → Prop} (hargs : args.length ≤ 33 := by simp) (h : AWP Try.prog Try.f89.ntmps c89 (fun e t s => match e with | .exit _ => False | _ => Res [.cell 4 (some 9)] K t s) (env (argList 0 args)) σ) : ACalls Try.prog 89 args σ K :=
  enter (own := []) Try.func89 (by kernel_rfl) (by kernel_rfl) (by kernel_rfl) hargs h
/-- (*changeling/lift.lifter).mapped -/
def c88 : ACode :=
(.seq
 (.reg [⟨(some 5), .new 54 (.t 1), none⟩,
   ⟨(some 8), .new 54 (.c (.agg [(.int .i64 0), (.str ⟨#[]⟩), (.int .i64 0), (.int .i64 0), .nils, .nils, .nils, .nils, .nils])), none⟩])
 (.seq
  (.reg [⟨(some 22), .move (.t 2), none⟩,
    ⟨(some 9), .move (.t 22), none⟩])
  (.seq
   (.seq
    (.reg [⟨(some 23), .faddr 0 (.t 5), none⟩,
      ⟨(some 24), .load none (.t 23), none⟩,
      ⟨(some 25), .bin .int .eql (.t 24) (.c (.int .i64 5)), none⟩])
    (.cond (.t 25)
     (.reg [⟨(some 26), .move (.t 3), none⟩,
       ⟨(some 9), .move (.t 26), none⟩])
     .skip))
   (.seq
    (.reg [⟨(some 10), .move (.c .nils), none⟩])
    (.seq
     (.seq
      (.reg [⟨(some 27), .faddr 5 (.t 5), none⟩,
        ⟨(some 28), .load none (.t 27), none⟩,
        ⟨(some 29), .len .slice (.t 28), none⟩,
        ⟨(some 30), .move (.c (.int .i64 0)), none⟩])
      (.block 0
       (.loop
        (.seq
         (.reg [⟨(some 31), .bin .int .lss (.t 30) (.t 29), none⟩])
         (.seq
          (.cond (.t 31)
           .skip
           (.exit 0))
          (.seq
           (.block 1
            (.seq
             (.reg [⟨(some 32), .iaddr 9 (.t 28) (.t 30), none⟩,
               ⟨(some 33), .load (some 9) (.t 32), none⟩,
               ⟨(some 12), .new 54 (.c (.agg [(.int .i64 0), (.str ⟨#[]⟩), (.int .i64 0), (.int .i64 0), .nils, .nils, .nils, .nils, .nils])), none⟩,
               ⟨none, .store 9 (.t 12) (.t 33), none⟩])
             (.reg [⟨(some 34), .move (.t 10), none⟩,
               ⟨(some 35), .move (.t 9), none⟩,
               ⟨(some 36), .load (some 9) (.t 12), none⟩,
               ⟨(some 37), .callv (.t 35) [(.t 36)], none⟩,
               ⟨(some 38), .lit false 54 9 [(.t 37)], none⟩,
               ⟨(some 39), .append 54 9 160 (.t 34) (.t 38), none⟩,
               ⟨(some 10), .move (.t 39), none⟩])))
           (.reg [⟨(some 40), .bin .int .add (.t 30) (.c (.int .i64 1)), none⟩,
             ⟨(some 30), .move (.t 40), none⟩])))))))
     (.seq
      (.reg [⟨(some 41), .move (.t 10), none⟩,
        ⟨(some 42), .faddr 5 (.t 5), none⟩,
        ⟨none, .store 1 (.t 42) (.t 41), none⟩])
      (.seq
       (.reg [⟨(some 13), .move (.c .nils), none⟩])
       (.seq
        (.seq
         (.reg [⟨(some 43), .faddr 6 (.t 5), none⟩,
           ⟨(some 44), .load none (.t 43), none⟩,
           ⟨(some 45), .len .slice (.t 44), none⟩,
           ⟨(some 46), .move (.c (.int .i64 0)), none⟩])
         (.block 2
          (.loop
           (.seq
            (.reg [⟨(some 47), .bin .int .lss (.t 46) (.t 45), none⟩])
            (.seq
             (.cond (.t 47)
              .skip
              (.exit 2))
             (.seq
              (.block 3
               (.seq
                (.reg [⟨(some 48), .iaddr 13 (.t 44) (.t 46), none⟩,
                  ⟨(some 49), .load (some 13) (.t 48), none⟩,
                  ⟨(some 15), .new 113 (.c (.agg [(.int .i64 0), (.str ⟨#[]⟩), (.int .i64 0), .nils, (.int .i64 0), (.str ⟨#[]⟩), (.int .i64 0), (.int .i64 0), .nils, .nils, .nils, .nils, .nils])), none⟩,
                  ⟨none, .store 13 (.t 15) (.t 49), none⟩])
                (.seq
                 (.reg [⟨(some 50), .move (.t 2), none⟩,
                   ⟨(some 51), .faddr 4 (.t 15), none⟩,
                   ⟨(some 52), .load (some 9) (.t 51), none⟩,
                   ⟨(some 53), .callv (.t 50) [(.t 52)], none⟩,
                   ⟨(some 54), .faddr 4 (.t 15), none⟩,
                   ⟨none, .store 9 (.t 54) (.t 53), none⟩])
                 (.reg [⟨(some 55), .move (.t 13), none⟩,
                   ⟨(some 56), .load (some 13) (.t 15), none⟩,
                   ⟨(some 57), .lit false 113 13 [(.t 56)], none⟩,
                   ⟨(some 58), .append 113 13 216 (.t 55) (.t 57), none⟩,
                   ⟨(some 13), .move (.t 58), none⟩]))))
              (.reg [⟨(some 59), .bin .int .add (.t 46) (.c (.int .i64 1)), none⟩,
                ⟨(some 46), .move (.t 59), none⟩])))))))
        (.seq
         (.reg [⟨(some 60), .move (.t 13), none⟩,
           ⟨(some 61), .faddr 6 (.t 5), none⟩,
           ⟨none, .store 1 (.t 61) (.t 60), none⟩])
         (.seq
          (.reg [⟨(some 16), .move (.c .nils), none⟩])
          (.seq
           (.seq
            (.reg [⟨(some 62), .faddr 7 (.t 5), none⟩,
              ⟨(some 63), .load none (.t 62), none⟩,
              ⟨(some 64), .len .slice (.t 63), none⟩,
              ⟨(some 65), .move (.c (.int .i64 0)), none⟩])
            (.block 4
             (.loop
              (.seq
               (.reg [⟨(some 66), .bin .int .lss (.t 65) (.t 64), none⟩])
               (.seq
                (.cond (.t 66)
                 .skip
                 (.exit 4))
                (.seq
                 (.block 5
                  (.seq
                   (.reg [⟨(some 67), .iaddr 10 (.t 63) (.t 65), none⟩,
                     ⟨(some 68), .load (some 10) (.t 67), none⟩,
                     ⟨(some 18), .new 114 (.c (.agg [(.str ⟨#[]⟩), (.int .i64 0), (.str ⟨#[]⟩), (.int .i64 0), (.int .i64 0), .nils, .nils, .nils, .nils, .nils])), none⟩,
                     ⟨none, .store 10 (.t 18) (.t 68), none⟩])
                   (.seq
                    (.reg [⟨(some 69), .move (.t 3), none⟩,
                      ⟨(some 70), .faddr 1 (.t 18), none⟩,
                      ⟨(some 71), .load (some 9) (.t 70), none⟩,
                      ⟨(some 72), .callv (.t 69) [(.t 71)], none⟩,
                      ⟨(some 73), .faddr 1 (.t 18), none⟩,
                      ⟨none, .store 9 (.t 73) (.t 72), none⟩])
                    (.reg [⟨(some 74), .move (.t 16), none⟩,
                      ⟨(some 75), .load (some 10) (.t 18), none⟩,
                      ⟨(some 76), .lit false 114 10 [(.t 75)], none⟩,
                      ⟨(some 77), .append 114 10 176 (.t 74) (.t 76), none⟩,
                      ⟨(some 16), .move (.t 77), none⟩]))))
                 (.reg [⟨(some 78), .bin .int .add (.t 65) (.c (.int .i64 1)), none⟩,
                   ⟨(some 65), .move (.t 78), none⟩])))))))
           (.seq
            (.reg [⟨(some 79), .move (.t 16), none⟩,
              ⟨(some 80), .faddr 7 (.t 5), none⟩,
              ⟨none, .store 1 (.t 80) (.t 79), none⟩])
            (.seq
             (.reg [⟨(some 19), .move (.c .nils), none⟩])
             (.seq
              (.seq
               (.reg [⟨(some 81), .faddr 8 (.t 5), none⟩,
                 ⟨(some 82), .load none (.t 81), none⟩,
                 ⟨(some 83), .len .slice (.t 82), none⟩,
                 ⟨(some 84), .move (.c (.int .i64 0)), none⟩])
               (.block 6
                (.loop
                 (.seq
                  (.reg [⟨(some 85), .bin .int .lss (.t 84) (.t 83), none⟩])
                  (.seq
                   (.cond (.t 85)
                    .skip
                    (.exit 6))
                   (.seq
                    (.block 7
                     (.seq
                      (.reg [⟨(some 86), .iaddr 10 (.t 82) (.t 84), none⟩,
                        ⟨(some 87), .load (some 10) (.t 86), none⟩,
                        ⟨(some 21), .new 116 (.c (.agg [(.int .i64 0), (.int .i64 0), (.str ⟨#[]⟩), (.int .i64 0), (.int .i64 0), .nils, .nils, .nils, .nils, .nils])), none⟩,
                        ⟨none, .store 10 (.t 21) (.t 87), none⟩])
                      (.seq
                       (.reg [⟨(some 88), .move (.t 2), none⟩,
                         ⟨(some 89), .faddr 1 (.t 21), none⟩,
                         ⟨(some 90), .load (some 9) (.t 89), none⟩,
                         ⟨(some 91), .callv (.t 88) [(.t 90)], none⟩,
                         ⟨(some 92), .faddr 1 (.t 21), none⟩,
                         ⟨none, .store 9 (.t 92) (.t 91), none⟩])
                       (.reg [⟨(some 93), .move (.t 19), none⟩,
                         ⟨(some 94), .load (some 10) (.t 21), none⟩,
                         ⟨(some 95), .lit false 116 10 [(.t 94)], none⟩,
                         ⟨(some 96), .append 116 10 168 (.t 93) (.t 95), none⟩,
                         ⟨(some 19), .move (.t 96), none⟩]))))
                    (.reg [⟨(some 97), .bin .int .add (.t 84) (.c (.int .i64 1)), none⟩,
                      ⟨(some 84), .move (.t 97), none⟩])))))))
              (.seq
               (.reg [⟨(some 98), .move (.t 19), none⟩,
                 ⟨(some 99), .faddr 8 (.t 5), none⟩,
                 ⟨none, .store 1 (.t 99) (.t 98), none⟩])
               (.seq
                (.reg [⟨(some 100), .load (some 9) (.t 5), none⟩,
                  ⟨none, .store 9 (.t 8) (.t 100), none⟩])
                .ret))))))))))))))))
theorem in88 {args : List AV} {σ : Store} {K : AV → Store → Prop} (hargs : args.length ≤ 101 := by simp) (h : AWP Try.prog Try.f88.ntmps c88 (fun e t s => match e with | .exit _ => False | _ => Res [.cell 8 (some 9)] K t s) (env (argList 0 args)) σ) : ACalls Try.prog 88 args σ K :=
  enter (own := []) Try.func88 (by kernel_rfl) (by kernel_rfl) (by kernel_rfl) hargs h
/-- changeling/changelingref01.SameTexts -/
def c29 : ACode :=
(.seq
 (.reg [⟨(some 4), .move (.c (.bool false)), none⟩])
 (.seq
  (.seq
   (.reg [⟨(some 6), .move (.t 0), none⟩,
     ⟨(some 7), .len .slice (.t 6), none⟩,
     ⟨(some 8), .move (.t 1), none⟩,
     ⟨(some 9), .len .slice (.t 8), none⟩,
     ⟨(some 10), .bin .int .neq (.t 7) (.t 9), none⟩])
   (.cond (.t 10)
    (.seq
     (.reg [⟨(some 4), .move (.c (.bool false)), none⟩])
     .ret)
    .skip))
  (.seq
   (.seq
    (.reg [⟨(some 5), .move (.c (.int .i64 0)), none⟩])
    (.block 0
     (.loop
      (.seq
       (.seq
        (.reg [⟨(some 11), .move (.t 5), none⟩,
          ⟨(some 12), .move (.t 0), none⟩,
          ⟨(some 13), .len .slice (.t 12), none⟩,
          ⟨(some 14), .bin .int .lss (.t 11) (.t 13), none⟩])
        (.cond (.t 14)
         .skip
         (.exit 0)))
       (.seq
        (.block 1
         (.seq
          (.reg [⟨(some 17), .move (.t 0), none⟩,
            ⟨(some 18), .move (.t 5), none⟩,
            ⟨(some 19), .iaddr 1 (.t 17) (.t 18), none⟩,
            ⟨(some 20), .load none (.t 19), none⟩,
            ⟨(some 21), .move (.t 1), none⟩,
            ⟨(some 22), .move (.t 5), none⟩,
            ⟨(some 23), .iaddr 1 (.t 21) (.t 22), none⟩,
            ⟨(some 24), .load none (.t 23), none⟩,
            ⟨(some 25), .bin .str .neq (.t 20) (.t 24), none⟩])
          (.cond (.t 25)
           (.seq
            (.reg [⟨(some 4), .move (.c (.bool false)), none⟩])
            .ret)
           .skip)))
        (.reg [⟨(some 15), .move (.t 5), none⟩,
          ⟨(some 16), .bin .int .add (.t 15) (.c (.int .i64 1)), none⟩,
          ⟨(some 5), .move (.t 16), none⟩]))))))
   (.seq
    (.reg [⟨(some 4), .move (.c (.bool true)), none⟩])
    .ret))))
theorem in29 {args : List AV} {σ : Store} {K : AV → Store → Prop} (hargs : args.length ≤ 26 := by simp) (h : AWP Try.prog Try.f29.ntmps c29 (fun e t s => match e with | .exit _ => False | _ => Res [.slot 4] K t s) (env (argList 0 args)) σ) : ACalls Try.prog 29 args σ K :=
  enter (own := []) Try.func29 (by kernel_rfl) (by kernel_rfl) (by kernel_rfl) hargs h
/-- changeling/changelingref15.Defs -/
def c22 : ACode :=
(.seq
 (.reg [⟨(some 2), .move (.c .nils), none⟩])
 (.seq
  (.reg [⟨(some 3), .move (.c .nils), none⟩])
  (.seq
   (.seq
    (.reg [⟨(some 4), .move (.c (.int .i64 0)), none⟩])
    (.block 0
     (.loop
      (.seq
       (.seq
        (.reg [⟨(some 6), .move (.t 4), none⟩,
          ⟨(some 7), .move (.t 0), none⟩,
          ⟨(some 8), .len .slice (.t 7), none⟩,
          ⟨(some 9), .bin .int .lss (.t 6) (.t 8), none⟩])
        (.cond (.t 9)
         .skip
         (.exit 0)))
       (.seq
        (.block 1
         (.seq
          (.draw [] [([⟨(some 12), .move (.t 0), none⟩], []),
            ([⟨(some 13), .move (.t 4), none⟩], []),
            ([⟨(some 14), .iaddr 11 (.t 12) (.t 13), none⟩], []),
            ([⟨(some 15), .faddr 0 (.t 14), none⟩], []),
            ([⟨(some 16), .load none (.t 15), none⟩], []),
            ([⟨(some 17), .move (.t 0), none⟩], []),
            ([⟨(some 18), .move (.t 4), none⟩], []),
            ([⟨(some 19), .iaddr 11 (.t 17) (.t 18), none⟩], []),
            ([⟨(some 20), .faddr 2 (.t 19), none⟩], []),
            ([⟨(some 21), .load (some 9) (.t 20), none⟩], []),
            ([⟨(some 22), .build [(.str ⟨#[]⟩), (.int .i64 0), (.str ⟨#[]⟩), (.int .i64 0), (.int .i64 0), .nils, .nils, .nils, .nils, .nils] [(0, 1, (.t 16)), (1, 9, (.t 21))], none⟩], []),
            ([⟨(some 5), .new 58 (.c (.agg [(.str ⟨#[]⟩), (.int .i64 0), (.str ⟨#[]⟩), (.int .i64 0), (.int .i64 0), .nils, .nils, .nils, .nils, .nils])), none⟩], [⟨(some 14), .iaddr 11 (.t 12) (.t 13), none⟩, ⟨(some 15), .faddr 0 (.t 14), none⟩, ⟨(some 16), .load none (.t 15), none⟩, ⟨(some 19), .iaddr 11 (.t 17) (.t 18), none⟩, ⟨(some 20), .faddr 2 (.t 19), none⟩, ⟨(some 21), .load (some 9) (.t 20), none⟩]),
            ([⟨none, .store 10 (.t 5) (.t 22), none⟩], [])])
          (.seq
           (.seq
            (.reg [⟨(some 23), .move (.t 0), none⟩,
              ⟨(some 24), .move (.t 4), none⟩,
              ⟨(some 25), .iaddr 11 (.t 23) (.t 24), none⟩,
              ⟨(some 26), .faddr 1 (.t 25), none⟩,
              ⟨(some 27), .load none (.t 26), none⟩,
              ⟨(some 28), .len .slice (.t 27), none⟩,
              ⟨(some 29), .bin .int .gtr (.t 28) (.c (.int .i64 0)), none⟩])
            (.cond (.t 29)
             (.reg [⟨(some 30), .move (.t 0), none⟩,
               ⟨(some 31), .move (.t 4), none⟩,
               ⟨(some 32), .iaddr 11 (.t 30) (.t 31), none⟩,
               ⟨(some 33), .faddr 1 (.t 32), none⟩,
               ⟨(some 34), .load none (.t 33), none⟩,
               ⟨(some 35), .move (.t 0), none⟩,
               ⟨(some 36), .move (.t 4), none⟩,
               ⟨(some 37), .iaddr 11 (.t 35) (.t 36), none⟩,
               ⟨(some 38), .faddr 2 (.t 37), none⟩,
               ⟨(some 39), .load (some 9) (.t 38), none⟩,
               ⟨(some 40), .lit false 54 9 [(.t 39)], none⟩,
               ⟨(some 41), .build [(.int .i64 0), (.str ⟨#[]⟩), (.int .i64 0), (.int .i64 0), .nils, .nils, .nils, .nils, .nils] [(0, 1, (.c (.int .i64 6))), (4, 1, (.t 34)), (5, 1, (.t 40))], none⟩,
               ⟨(some 42), .faddr 1 (.t 5), none⟩,
               ⟨none, .store 9 (.t 42) (.t 41), none⟩])
             .skip))
           (.reg [⟨(some 43), .move (.t 3), none⟩,
             ⟨(some 44), .load (some 10) (.t 5), none⟩,
             ⟨(some 45), .lit false 58 10 [(.t 44)], none⟩,
             ⟨(some 46), .append 58 10 176 (.t 43) (.t 45), none⟩,
             ⟨(some 3), .move (.t 46), none⟩]))))
        (.reg [⟨(some 10), .move (.t 4), none⟩,
          ⟨(some 11), .bin .int .add (.t 10) (.c (.int .i64 1)), none⟩,
          ⟨(some 4), .move (.t 11), none⟩]))))))
   (.seq
    (.reg [⟨(some 47), .move (.t 3), none⟩,
      ⟨(some 2), .move (.t 47), none⟩])
    .ret))))
theorem in22 {args : List AV} {σ : Store} {K : AV → Store → Prop} (hargs : args.length ≤ 48 := by simp) (h : AWP Try.prog Try.f22.ntmps c22 (fun e t s => match e with | .exit _ => False | _ => Res [.slot 2] K t s) (env (argList 0 args)) σ) : ACalls Try.prog 22 args σ K :=
  enter (own := []) Try.func22 (by kernel_rfl) (by kernel_rfl) (by kernel_rfl) hargs h
/-- changeling/changelingref14.SameDefs -/
def c24 : ACode :=
(.seq
 (.reg [⟨(some 4), .move (.c (.bool false)), none⟩])
 (.seq
  (.seq
   (.reg [⟨(some 6), .move (.t 0), none⟩,
     ⟨(some 7), .len .slice (.t 6), none⟩,
     ⟨(some 8), .move (.t 1), none⟩,
     ⟨(some 9), .len .slice (.t 8), none⟩,
     ⟨(some 10), .bin .int .neq (.t 7) (.t 9), none⟩])
   (.cond (.t 10)
    (.seq
     (.reg [⟨(some 4), .move (.c (.bool false)), none⟩])
     .ret)
    .skip))
  (.seq
   (.seq
    (.reg [⟨(some 5), .move (.c (.int .i64 0)), none⟩])
    (.block 0
     (.loop
      (.seq
       (.seq
        (.reg [⟨(some 11), .move (.t 5), none⟩,
          ⟨(some 12), .move (.t 0), none⟩,
          ⟨(some 13), .len .slice (.t 12), none⟩,
          ⟨(some 14), .bin .int .lss (.t 11) (.t 13), none⟩])
        (.cond (.t 14)
         .skip
         (.exit 0)))
       (.seq
        (.block 1
         (.seq
          (.reg [⟨(some 17), .move (.t 0), none⟩,
            ⟨(some 18), .move (.t 5), none⟩,
            ⟨(some 19), .iaddr 10 (.t 17) (.t 18), none⟩,
            ⟨(some 20), .faddr 0 (.t 19), none⟩,
            ⟨(some 21), .load none (.t 20), none⟩,
            ⟨(some 22), .move (.t 1), none⟩,
            ⟨(some 23), .move (.t 5), none⟩,
            ⟨(some 24), .iaddr 10 (.t 22) (.t 23), none⟩,
            ⟨(some 25), .faddr 0 (.t 24), none⟩,
            ⟨(some 26), .load none (.t 25), none⟩,
            ⟨(some 27), .bin .str .neq (.t 21) (.t 26), none⟩,
            ⟨(some 28), .move (.t 27), none⟩,
            ⟨(some 29), .move (.t 0), some (28, false)⟩,
            ⟨(some 30), .move (.t 5), some (28, false)⟩,
            ⟨(some 31), .iaddr 10 (.t 29) (.t 30), some (28, false)⟩,
            ⟨(some 32), .faddr 1 (.t 31), some (28, false)⟩,
            ⟨(some 33), .load (some 9) (.t 32), some (28, false)⟩,
            ⟨(some 34), .move (.t 1), some (28, false)⟩,
            ⟨(some 35), .move (.t 5), some (28, false)⟩,
            ⟨(some 36), .iaddr 10 (.t 34) (.t 35), some (28, false)⟩,
            ⟨(some 37), .faddr 1 (.t 36), some (28, false)⟩,
            ⟨(some 38), .load (some 9) (.t 37), some (28, false)⟩,
            ⟨(some 39), .call 30 [(.t 33), (.t 38)], some (28, false)⟩,
            ⟨(some 40), .not (.t 39), some (28, false)⟩,
            ⟨(some 41), .pick (.t 28) (.c (.bool true)) (.t 40), none⟩])
          (.cond (.t 41)
           (.seq
            (.reg [⟨(some 4), .move (.c (.bool false)), none⟩])
            .ret)
           .skip)))
        (.reg [⟨(some 15), .move (.t 5), none⟩,
          ⟨(some 16), .bin .int .add (.t 15) (.c (.int .i64 1)), none⟩,
          ⟨(some 5), .move (.t 16), none⟩]))))))
   (.seq
    (.reg [⟨(some 4), .move (.c (.bool true)), none⟩])
    .ret))))
theorem in24 {args : List AV} {σ : Store} {K : AV → Store → Prop} (hargs : args.length ≤ 42 := by simp) (h : AWP Try.prog Try.f24.ntmps c24 (fun e t s => match e with | .exit _ => False | _ => Res [.slot 4] K t s) (env (argList 0 args)) σ) : ACalls Try.prog 24 args σ K :=
  enter (own := []) Try.func24 (by kernel_rfl) (by kernel_rfl) (by kernel_rfl) hargs h
/-- changeling/changelingref14.Same -/
def c30 : ACode :=
(.seq
 (.reg [⟨(some 2), .new 54 (.t 0), none⟩,
   ⟨(some 3), .new 54 (.t 1), none⟩,
   ⟨(some 4), .move (.c (.bool false)), none⟩])
 (.seq
  (.seq
   (.reg [⟨(some 11), .faddr 0 (.t 2), none⟩,
     ⟨(some 12), .load none (.t 11), none⟩,
     ⟨(some 13), .faddr 0 (.t 3), none⟩,
     ⟨(some 14), .load none (.t 13), none⟩,
     ⟨(some 15), .bin .int .neq (.t 12) (.t 14), none⟩,
     ⟨(some 16), .move (.t 15), none⟩,
     ⟨(some 17), .faddr 1 (.t 2), some (16, false)⟩,
     ⟨(some 18), .load none (.t 17), some (16, false)⟩,
     ⟨(some 19), .faddr 1 (.t 3), some (16, false)⟩,
     ⟨(some 20), .load none (.t 19), some (16, false)⟩,
     ⟨(some 21), .bin .str .neq (.t 18) (.t 20), some (16, false)⟩,
     ⟨(some 22), .pick (.t 16) (.c (.bool true)) (.t 21), none⟩,
     ⟨(some 23), .move (.t 22), none⟩,
     ⟨(some 24), .faddr 2 (.t 2), some (23, false)⟩,
     ⟨(some 25), .load none (.t 24), some (23, false)⟩,
     ⟨(some 26), .faddr 2 (.t 3), some (23, false)⟩,
     ⟨(some 27), .load none (.t 26), some (23, false)⟩,
     ⟨(some 28), .bin .int .neq (.t 25) (.t 27), some (23, false)⟩,
     ⟨(some 29), .pick (.t 23) (.c (.bool true)) (.t 28), none⟩,
     ⟨(some 30), .move (.t 29), none⟩,
     ⟨(some 31), .faddr 3 (.t 2), some (30, false)⟩,
     ⟨(some 32), .load none (.t 31), some (30, false)⟩,
     ⟨(some 33), .faddr 3 (.t 3), some (30, false)⟩,
     ⟨(some 34), .load none (.t 33), some (30, false)⟩,
     ⟨(some 35), .bin .int .neq (.t 32) (.t 34), some (30, false)⟩,
     ⟨(some 36), .pick (.t 30) (.c (.bool true)) (.t 35), none⟩,
     ⟨(some 37), .move (.t 36), none⟩,
     ⟨(some 38), .faddr 4 (.t 2), some (37, false)⟩,
     ⟨(some 39), .load none (.t 38), some (37, false)⟩,
     ⟨(some 40), .faddr 4 (.t 3), some (37, false)⟩,
     ⟨(some 41), .load none (.t 40), some (37, false)⟩,
     ⟨(some 42), .call 29 [(.t 39), (.t 41)], some (37, false)⟩,
     ⟨(some 43), .not (.t 42), some (37, false)⟩,
     ⟨(some 44), .pick (.t 37) (.c (.bool true)) (.t 43), none⟩])
   (.cond (.t 44)
    (.seq
     (.reg [⟨(some 4), .move (.c (.bool false)), none⟩])
     .ret)
    .skip))
  (.seq
   (.seq
    (.reg [⟨(some 45), .faddr 5 (.t 2), none⟩,
      ⟨(some 46), .load none (.t 45), none⟩,
      ⟨(some 47), .len .slice (.t 46), none⟩,
      ⟨(some 48), .faddr 5 (.t 3), none⟩,
      ⟨(some 49), .load none (.t 48), none⟩,
      ⟨(some 50), .len .slice (.t 49), none⟩,
      ⟨(some 51), .bin .int .neq (.t 47) (.t 50), none⟩,
      ⟨(some 52), .move (.t 51), none⟩,
      ⟨(some 53), .faddr 6 (.t 2), some (52, false)⟩,
      ⟨(some 54), .load none (.t 53), some (52, false)⟩,
      ⟨(some 55), .len .slice (.t 54), some (52, false)⟩,
      ⟨(some 56), .faddr 6 (.t 3), some (52, false)⟩,
      ⟨(some 57), .load none (.t 56), some (52, false)⟩,
      ⟨(some 58), .len .slice (.t 57), some (52, false)⟩,
      ⟨(some 59), .bin .int .neq (.t 55) (.t 58), some (52, false)⟩,
      ⟨(some 60), .pick (.t 52) (.c (.bool true)) (.t 59), none⟩,
      ⟨(some 61), .move (.t 60), none⟩,
      ⟨(some 62), .faddr 7 (.t 2), some (61, false)⟩,
      ⟨(some 63), .load none (.t 62), some (61, false)⟩,
      ⟨(some 64), .len .slice (.t 63), some (61, false)⟩,
      ⟨(some 65), .faddr 7 (.t 3), some (61, false)⟩,
      ⟨(some 66), .load none (.t 65), some (61, false)⟩,
      ⟨(some 67), .len .slice (.t 66), some (61, false)⟩,
      ⟨(some 68), .bin .int .neq (.t 64) (.t 67), some (61, false)⟩,
      ⟨(some 69), .pick (.t 61) (.c (.bool true)) (.t 68), none⟩,
      ⟨(some 70), .move (.t 69), none⟩,
      ⟨(some 71), .faddr 8 (.t 2), some (70, false)⟩,
      ⟨(some 72), .load none (.t 71), some (70, false)⟩,
      ⟨(some 73), .len .slice (.t 72), some (70, false)⟩,
      ⟨(some 74), .faddr 8 (.t 3), some (70, false)⟩,
      ⟨(some 75), .load none (.t 74), some (70, false)⟩,
      ⟨(some 76), .len .slice (.t 75), some (70, false)⟩,
      ⟨(some 77), .bin .int .neq (.t 73) (.t 76), some (70, false)⟩,
      ⟨(some 78), .pick (.t 70) (.c (.bool true)) (.t 77), none⟩])
    (.cond (.t 78)
     (.seq
      (.reg [⟨(some 4), .move (.c (.bool false)), none⟩])
      .ret)
     .skip))
   (.seq
    (.seq
     (.reg [⟨(some 5), .move (.c (.int .i64 0)), none⟩])
     (.block 0
      (.loop
       (.seq
        (.seq
         (.reg [⟨(some 79), .move (.t 5), none⟩,
           ⟨(some 80), .faddr 5 (.t 2), none⟩,
           ⟨(some 81), .load none (.t 80), none⟩,
           ⟨(some 82), .len .slice (.t 81), none⟩,
           ⟨(some 83), .bin .int .lss (.t 79) (.t 82), none⟩])
         (.cond (.t 83)
          .skip
          (.exit 0)))
        (.seq
         (.block 1
          (.seq
           (.reg [⟨(some 86), .faddr 5 (.t 2), none⟩,
             ⟨(some 87), .load none (.t 86), none⟩,
             ⟨(some 88), .move (.t 5), none⟩,
             ⟨(some 89), .iaddr 9 (.t 87) (.t 88), none⟩,
             ⟨(some 90), .load (some 9) (.t 89), none⟩,
             ⟨(some 91), .faddr 5 (.t 3), none⟩,
             ⟨(some 92), .load none (.t 91), none⟩,
             ⟨(some 93), .move (.t 5), none⟩,
             ⟨(some 94), .iaddr 9 (.t 92) (.t 93), none⟩,
             ⟨(some 95), .load (some 9) (.t 94), none⟩,
             ⟨(some 96), .call 30 [(.t 90), (.t 95)], none⟩,
             ⟨(some 97), .not (.t 96), none⟩])
           (.cond (.t 97)
            (.seq
             (.reg [⟨(some 4), .move (.c (.bool false)), none⟩])
             .ret)
            .skip)))
         (.reg [⟨(some 84), .move (.t 5), none⟩,
           ⟨(some 85), .bin .int .add (.t 84) (.c (.int .i64 1)), none⟩,
           ⟨(some 5), .move (.t 85), none⟩]))))))
    (.seq
     (.seq
      (.reg [⟨(some 6), .move (.c (.int .i64 0)), none⟩])
      (.block 2
       (.loop
        (.seq
         (.seq
          (.reg [⟨(some 98), .move (.t 6), none⟩,
            ⟨(some 99), .faddr 6 (.t 2), none⟩,
            ⟨(some 100), .load none (.t 99), none⟩,
            ⟨(some 101), .len .slice (.t 100), none⟩,
            ⟨(some 102), .bin .int .lss (.t 98) (.t 101), none⟩])
          (.cond (.t 102)
           .skip
           (.exit 2)))
         (.seq
          (.block 3
           (.seq
            (.draw [7, 8] [([⟨(some 105), .faddr 6 (.t 2), none⟩], []),
              ([⟨(some 106), .load none (.t 105), none⟩], []),
              ([⟨(some 107), .move (.t 6), none⟩], []),
              ([⟨(some 108), .iaddr 13 (.t 106) (.t 107), none⟩], []),
              ([⟨(some 109), .load (some 13) (.t 108), none⟩], []),
              ([⟨(some 110), .faddr 6 (.t 3), none⟩], []),
              ([⟨(some 111), .load none (.t 110), none⟩], []),
              ([⟨(some 112), .move (.t 6), none⟩], []),
              ([⟨(some 113), .iaddr 13 (.t 111) (.t 112), none⟩], []),
              ([⟨(some 114), .load (some 13) (.t 113), none⟩], []),
              ([⟨(some 7), .new 113 (.c (.agg [(.int .i64 0), (.str ⟨#[]⟩), (.int .i64 0), .nils, (.int .i64 0), (.str ⟨#[]⟩), (.int .i64 0), (.int .i64 0), .nils, .nils, .nils, .nils, .nils])), none⟩, ⟨none, .store 13 (.t 7) (.t 109), none⟩], []),
              ([⟨(some 8), .new 113 (.c (.agg [(.int .i64 0), (.str ⟨#[]⟩), (.int .i64 0), .nils, (.int .i64 0), (.str ⟨#[]⟩), (.int .i64 0), (.int .i64 0), .nils, .nils, .nils, .nils, .nils])), none⟩, ⟨none, .store 13 (.t 8) (.t 114), none⟩], [])])
            (.seq
             (.reg [⟨(some 115), .faddr 0 (.t 7), none⟩,
               ⟨(some 116), .load none (.t 115), none⟩,
               ⟨(some 117), .faddr 0 (.t 8), none⟩,
               ⟨(some 118), .load none (.t 117), none⟩,
               ⟨(some 119), .bin .int .neq (.t 116) (.t 118), none⟩,
               ⟨(some 120), .move (.t 119), none⟩,
               ⟨(some 121), .faddr 1 (.t 7), some (120, false)⟩,
               ⟨(some 122), .load none (.t 121), some (120, false)⟩,
               ⟨(some 123), .faddr 1 (.t 8), some (120, false)⟩,
               ⟨(some 124), .load none (.t 123), some (120, false)⟩,
               ⟨(some 125), .bin .str .neq (.t 122) (.t 124), some (120, false)⟩,
               ⟨(some 126), .pick (.t 120) (.c (.bool true)) (.t 125), none⟩,
               ⟨(some 127), .move (.t 126), none⟩,
               ⟨(some 128), .faddr 2 (.t 7), some (127, false)⟩,
               ⟨(some 129), .load none (.t 128), some (127, false)⟩,
               ⟨(some 130), .faddr 2 (.t 8), some (127, false)⟩,
               ⟨(some 131), .load none (.t 130), some (127, false)⟩,
               ⟨(some 132), .bin .int .neq (.t 129) (.t 131), some (127, false)⟩,
               ⟨(some 133), .pick (.t 127) (.c (.bool true)) (.t 132), none⟩,
               ⟨(some 134), .move (.t 133), none⟩,
               ⟨(some 135), .faddr 3 (.t 7), some (134, false)⟩,
               ⟨(some 136), .load none (.t 135), some (134, false)⟩,
               ⟨(some 137), .faddr 3 (.t 8), some (134, false)⟩,
               ⟨(some 138), .load none (.t 137), some (134, false)⟩,
               ⟨(some 139), .call 29 [(.t 136), (.t 138)], some (134, false)⟩,
               ⟨(some 140), .not (.t 139), some (134, false)⟩,
               ⟨(some 141), .pick (.t 134) (.c (.bool true)) (.t 140), none⟩,
               ⟨(some 142), .move (.t 141), none⟩,
               ⟨(some 143), .faddr 4 (.t 7), some (142, false)⟩,
               ⟨(some 144), .load (some 9) (.t 143), some (142, false)⟩,
               ⟨(some 145), .faddr 4 (.t 8), some (142, false)⟩,
               ⟨(some 146), .load (some 9) (.t 145), some (142, false)⟩,
               ⟨(some 147), .call 30 [(.t 144), (.t 146)], some (142, false)⟩,
               ⟨(some 148), .not (.t 147), some (142, false)⟩,
               ⟨(some 149), .pick (.t 142) (.c (.bool true)) (.t 148), none⟩])
             (.cond (.t 149)
              (.seq
               (.reg [⟨(some 4), .move (.c (.bool false)), none⟩])
               .ret)
              .skip))))
          (.reg [⟨(some 103), .move (.t 6), none⟩,
            ⟨(some 104), .bin .int .add (.t 103) (.c (.int .i64 1)), none⟩,
            ⟨(some 6), .move (.t 104), none⟩]))))))
     (.seq
      (.seq
       (.reg [⟨(some 9), .move (.c (.int .i64 0)), none⟩])
       (.block 4
        (.loop
         (.seq
          (.seq
           (.reg [⟨(some 150), .move (.t 9), none⟩,
             ⟨(some 151), .faddr 7 (.t 2), none⟩,
             ⟨(some 152), .load none (.t 151), none⟩,
             ⟨(some 153), .len .slice (.t 152), none⟩,
             ⟨(some 154), .bin .int .lss (.t 150) (.t 153), none⟩])
           (.cond (.t 154)
            .skip
            (.exit 4)))
          (.seq
           (.block 5
            (.seq
             (.reg [⟨(some 157), .faddr 7 (.t 2), none⟩,
               ⟨(some 158), .load none (.t 157), none⟩,
               ⟨(some 159), .move (.t 9), none⟩,
               ⟨(some 160), .iaddr 10 (.t 158) (.t 159), none⟩,
               ⟨(some 161), .faddr 0 (.t 160), none⟩,
               ⟨(some 162), .load none (.t 161), none⟩,
               ⟨(some 163), .faddr 7 (.t 3), none⟩,
               ⟨(some 164), .load none (.t 163), none⟩,
               ⟨(some 165), .move (.t 9), none⟩,
               ⟨(some 166), .iaddr 10 (.t 164) (.t 165), none⟩,
               ⟨(some 167), .faddr 0 (.t 166), none⟩,
               ⟨(some 168), .load none (.t 167), none⟩,
               ⟨(some 169), .bin .str .neq (.t 162) (.t 168), none⟩,
               ⟨(some 170), .move (.t 169), none⟩,
               ⟨(some 171), .faddr 7 (.t 2), some (170, false)⟩,
               ⟨(some 172), .load none (.t 171), some (170, false)⟩,
               ⟨(some 173), .move (.t 9), some (170, false)⟩,
               ⟨(some 174), .iaddr 10 (.t 172) (.t 173), some (170, false)⟩,
               ⟨(some 175), .faddr 1 (.t 174), some (170, false)⟩,
               ⟨(some 176), .load (some 9) (.t 175), some (170, false)⟩,
               ⟨(some 177), .faddr 7 (.t 3), some (170, false)⟩,
               ⟨(some 178), .load none (.t 177), some (170, false)⟩,
               ⟨(some 179), .move (.t 9), some (170, false)⟩,
               ⟨(some 180), .iaddr 10 (.t 178) (.t 179), some (170, false)⟩,
               ⟨(some 181), .faddr 1 (.t 180), some (170, false)⟩,
               ⟨(some 182), .load (some 9) (.t 181), some (170, false)⟩,
               ⟨(some 183), .call 30 [(.t 176), (.t 182)], some (170, false)⟩,
               ⟨(some 184), .not (.t 183), some (170, false)⟩,
               ⟨(some 185), .pick (.t 170) (.c (.bool true)) (.t 184), none⟩])
             (.cond (.t 185)
              (.seq
               (.reg [⟨(some 4), .move (.c (.bool false)), none⟩])
               .ret)
              .skip)))
           (.reg [⟨(some 155), .move (.t 9), none⟩,
             ⟨(some 156), .bin .int .add (.t 155) (.c (.int .i64 1)), none⟩,
             ⟨(some 9), .move (.t 156), none⟩]))))))
      (.seq
       (.seq
        (.reg [⟨(some 10), .move (.c (.int .i64 0)), none⟩])
        (.block 6
         (.loop
          (.seq
           (.seq
            (.reg [⟨(some 186), .move (.t 10), none⟩,
              ⟨(some 187), .faddr 8 (.t 2), none⟩,
              ⟨(some 188), .load none (.t 187), none⟩,
              ⟨(some 189), .len .slice (.t 188), none⟩,
              ⟨(some 190), .bin .int .lss (.t 186) (.t 189), none⟩])
            (.cond (.t 190)
             .skip
             (.exit 6)))
           (.seq
            (.block 7
             (.seq
              (.reg [⟨(some 193), .faddr 8 (.t 2), none⟩,
                ⟨(some 194), .load none (.t 193), none⟩,
                ⟨(some 195), .move (.t 10), none⟩,
                ⟨(some 196), .iaddr 10 (.t 194) (.t 195), none⟩,
                ⟨(some 197), .faddr 0 (.t 196), none⟩,
                ⟨(some 198), .load none (.t 197), none⟩,
                ⟨(some 199), .faddr 8 (.t 3), none⟩,
                ⟨(some 200), .load none (.t 199), none⟩,
                ⟨(some 201), .move (.t 10), none⟩,
                ⟨(some 202), .iaddr 10 (.t 200) (.t 201), none⟩,
                ⟨(some 203), .faddr 0 (.t 202), none⟩,
                ⟨(some 204), .load none (.t 203), none⟩,
                ⟨(some 205), .bin .int .neq (.t 198) (.t 204), none⟩,
                ⟨(some 206), .move (.t 205), none⟩,
                ⟨(some 207), .faddr 8 (.t 2), some (206, false)⟩,
                ⟨(some 208), .load none (.t 207), some (206, false)⟩,
                ⟨(some 209), .move (.t 10), some (206, false)⟩,
                ⟨(some 210), .iaddr 10 (.t 208) (.t 209), some (206, false)⟩,
                ⟨(some 211), .faddr 1 (.t 210), some (206, false)⟩,
                ⟨(some 212), .load (some 9) (.t 211), some (206, false)⟩,
                ⟨(some 213), .faddr 8 (.t 3), some (206, false)⟩,
                ⟨(some 214), .load none (.t 213), some (206, false)⟩,
                ⟨(some 215), .move (.t 10), some (206, false)⟩,
                ⟨(some 216), .iaddr 10 (.t 214) (.t 215), some (206, false)⟩,
                ⟨(some 217), .faddr 1 (.t 216), some (206, false)⟩,
                ⟨(some 218), .load (some 9) (.t 217), some (206, false)⟩,
                ⟨(some 219), .call 30 [(.t 212), (.t 218)], some (206, false)⟩,
                ⟨(some 220), .not (.t 219), some (206, false)⟩,
                ⟨(some 221), .pick (.t 206) (.c (.bool true)) (.t 220), none⟩])
              (.cond (.t 221)
               (.seq
                (.reg [⟨(some 4), .move (.c (.bool false)), none⟩])
                .ret)
               .skip)))
            (.reg [⟨(some 191), .move (.t 10), none⟩,
              ⟨(some 192), .bin .int .add (.t 191) (.c (.int .i64 1)), none⟩,
              ⟨(some 10), .move (.t 192), none⟩]))))))
       (.seq
        (.reg [⟨(some 4), .move (.c (.bool true)), none⟩])
        .ret))))))))
theorem in30 {args : List AV} {σ : Store} {K : AV → Store → Prop} (hargs : args.length ≤ 222 := by simp) (h : AWP Try.prog Try.f30.ntmps c30 (fun e t s => match e with | .exit _ => False | _ => Res [.slot 4] K t s) (env (argList 0 args)) σ) : ACalls Try.prog 30 args σ K :=
  enter (own := []) Try.func30 (by kernel_rfl) (by kernel_rfl) (by kernel_rfl) hargs h
end Go.Proofs.Ytjjbjibbjbbeaaa

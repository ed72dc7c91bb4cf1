/- The resolved code of some functions. -/
import Derived.Test.YtoejjhehpbmgbaaProg
import Derived.Test.YtoejjhehpbmgbaaAL15
import Derived.KernelRfl
set_option linter.unusedVariables false
namespace Go.Proofs.Ytoejjhehpbmgbaa
open Go.AL
/-- changeling/changelinglaw16.HeapFills -/
def c3 : ACode :=
(.seq
 (.reg [⟨(some 4), .move (.c (.bool false)), none⟩])
 (.seq
  (.seq
   (.reg [⟨(some 20), .move (.t 0), none⟩,
     ⟨(some 21), .bin .int .lss (.t 20) (.c (.int .i64 1)), none⟩,
     ⟨(some 22), .move (.t 21), none⟩,
     ⟨(some 23), .move (.t 0), some (22, false)⟩,
     ⟨(some 24), .bin .int .gtr (.t 23) (.c (.int .i64 1000)), some (22, false)⟩,
     ⟨(some 25), .pick (.t 22) (.c (.bool true)) (.t 24), none⟩,
     ⟨(some 26), .move (.t 25), none⟩,
     ⟨(some 27), .move (.t 1), some (26, false)⟩,
     ⟨(some 28), .bin .int .lss (.t 27) (.c (.int .i64 0)), some (26, false)⟩,
     ⟨(some 29), .pick (.t 26) (.c (.bool true)) (.t 28), none⟩,
     ⟨(some 30), .move (.t 29), none⟩,
     ⟨(some 31), .move (.t 1), some (30, false)⟩,
     ⟨(some 32), .move (.t 0), some (30, false)⟩,
     ⟨(some 33), .bin .int .geq (.t 31) (.t 32), some (30, false)⟩,
     ⟨(some 34), .pick (.t 30) (.c (.bool true)) (.t 33), none⟩])
   (.cond (.t 34)
    (.seq
     (.reg [⟨(some 35), .call 12 [], none⟩,
       ⟨(some 4), .move (.t 35), none⟩])
     .ret)
    .skip))
  (.seq
   (.reg [⟨(some 37), .move (.t 0), none⟩,
     ⟨(some 38), .call 13 [(.t 37)], none⟩,
     ⟨(some 36), .move (.t 38), none⟩,
     ⟨(some 39), .extract (.t 36) 0, none⟩,
     ⟨(some 40), .extract (.t 36) 1, none⟩,
     ⟨(some 5), .move (.t 39), none⟩,
     ⟨(some 6), .move (.t 40), none⟩])
   (.seq
    (.seq
     (.reg [⟨(some 41), .move (.t 5), none⟩,
       ⟨(some 42), .nileq .ptr false (.t 41) (.c .nilp), none⟩,
       ⟨(some 43), .move (.t 42), none⟩,
       ⟨(some 44), .move (.t 6), some (43, false)⟩,
       ⟨(some 45), .bin .int .neq (.t 44) (.c (.int .i64 0)), some (43, false)⟩,
       ⟨(some 46), .pick (.t 43) (.c (.bool true)) (.t 45), none⟩])
     (.cond (.t 46)
      (.seq
       (.reg [⟨(some 4), .move (.c (.bool false)), none⟩])
       .ret)
      .skip))
    (.seq
     (.seq
      (.reg [⟨(some 7), .move (.c (.int .i64 0)), none⟩])
      (.block 0
       (.loop
        (.seq
         (.seq
          (.reg [⟨(some 47), .move (.t 7), none⟩,
            ⟨(some 48), .move (.t 0), none⟩,
            ⟨(some 49), .bin .int .lss (.t 47) (.t 48), none⟩])
          (.cond (.t 49)
           .skip
           (.exit 0)))
         (.seq
          (.block 1
           (.seq
            (.reg [⟨(some 53), .move (.t 5), none⟩,
              ⟨(some 54), .move (.t 7), none⟩,
              ⟨(some 55), .build [(.int .i64 0), (.int .i64 0), .nils] [(0, 1, (.c (.int .i64 2))), (1, 1, (.t 54))], none⟩,
              ⟨(some 56), .call 14 [(.t 53), (.t 55)], none⟩,
              ⟨(some 52), .move (.t 56), none⟩,
              ⟨(some 57), .extract (.t 52) 0, none⟩,
              ⟨(some 58), .extract (.t 52) 1, none⟩,
              ⟨(some 8), .move (.t 57), none⟩,
              ⟨(some 9), .move (.t 58), none⟩])
            (.seq
             (.reg [⟨(some 59), .move (.t 8), none⟩,
               ⟨(some 60), .move (.t 7), none⟩,
               ⟨(some 61), .bin .int .neq (.t 59) (.t 60), none⟩,
               ⟨(some 62), .move (.t 61), none⟩,
               ⟨(some 63), .move (.t 9), some (62, false)⟩,
               ⟨(some 64), .bin .int .neq (.t 63) (.c (.int .i64 0)), some (62, false)⟩,
               ⟨(some 65), .pick (.t 62) (.c (.bool true)) (.t 64), none⟩])
             (.cond (.t 65)
              (.seq
               (.reg [⟨(some 4), .move (.c (.bool false)), none⟩])
               .ret)
              .skip))))
          (.reg [⟨(some 50), .move (.t 7), none⟩,
            ⟨(some 51), .bin .int .add (.t 50) (.c (.int .i64 1)), none⟩,
            ⟨(some 7), .move (.t 51), none⟩]))))))
     (.seq
      (.reg [⟨(some 67), .move (.t 5), none⟩,
        ⟨(some 68), .build [(.int .i64 0), (.int .i64 0), .nils] [], none⟩,
        ⟨(some 69), .call 14 [(.t 67), (.t 68)], none⟩,
        ⟨(some 66), .move (.t 69), none⟩,
        ⟨(some 70), .extract (.t 66) 0, none⟩,
        ⟨(some 71), .extract (.t 66) 1, none⟩,
        ⟨(some 10), .move (.t 70), none⟩,
        ⟨(some 11), .move (.t 71), none⟩])
      (.seq
       (.reg [⟨(some 73), .move (.t 5), none⟩,
         ⟨(some 74), .move (.t 1), none⟩,
         ⟨(some 75), .lit false 3 1 [(.t 74)], none⟩,
         ⟨(some 76), .call 15 [(.t 73), (.t 75)], none⟩,
         ⟨(some 72), .move (.t 76), none⟩,
         ⟨(some 77), .extract (.t 72) 0, none⟩,
         ⟨(some 78), .extract (.t 72) 1, none⟩,
         ⟨(some 12), .move (.t 77), none⟩,
         ⟨(some 13), .move (.t 78), none⟩])
       (.seq
        (.seq
         (.reg [⟨(some 79), .move (.t 11), none⟩,
           ⟨(some 80), .bin .int .neq (.t 79) (.c (.int .i64 160)), none⟩,
           ⟨(some 81), .move (.t 80), none⟩,
           ⟨(some 82), .move (.t 13), some (81, false)⟩,
           ⟨(some 83), .bin .int .neq (.t 82) (.c (.int .i64 0)), some (81, false)⟩,
           ⟨(some 84), .pick (.t 81) (.c (.bool true)) (.t 83), none⟩,
           ⟨(some 85), .move (.t 84), none⟩,
           ⟨(some 86), .move (.t 12), some (85, false)⟩,
           ⟨(some 87), .move (.t 0), some (85, false)⟩,
           ⟨(some 88), .bin .int .sub (.t 87) (.c (.int .i64 1)), some (85, false)⟩,
           ⟨(some 89), .bin .int .neq (.t 86) (.t 88), some (85, false)⟩,
           ⟨(some 90), .pick (.t 85) (.c (.bool true)) (.t 89), none⟩])
         (.cond (.t 90)
          (.seq
           (.reg [⟨(some 4), .move (.c (.bool false)), none⟩])
           .ret)
          .skip))
        (.seq
         (.seq
          (.reg [⟨(some 14), .move (.c (.int .i64 0)), none⟩])
          (.block 2
           (.loop
            (.seq
             (.seq
              (.reg [⟨(some 91), .move (.t 14), none⟩,
                ⟨(some 92), .move (.t 0), none⟩,
                ⟨(some 93), .bin .int .sub (.t 92) (.c (.int .i64 1)), none⟩,
                ⟨(some 94), .bin .int .lss (.t 91) (.t 93), none⟩])
              (.cond (.t 94)
               .skip
               (.exit 2)))
             (.seq
              (.block 3
               (.seq
                (.reg [⟨(some 98), .move (.t 5), none⟩,
                  ⟨(some 99), .move (.t 1), none⟩,
                  ⟨(some 100), .lit false 3 1 [(.t 99)], none⟩,
                  ⟨(some 101), .build [(.int .i64 0), (.int .i64 0), .nils] [(0, 1, (.c (.int .i64 5))), (2, 1, (.t 100))], none⟩,
                  ⟨(some 102), .call 14 [(.t 98), (.t 101)], none⟩,
                  ⟨(some 97), .move (.t 102), none⟩,
                  ⟨(some 103), .extract (.t 97) 0, none⟩,
                  ⟨(some 104), .extract (.t 97) 1, none⟩,
                  ⟨(some 15), .move (.t 103), none⟩,
                  ⟨(some 16), .move (.t 104), none⟩])
                (.seq
                 (.reg [⟨(some 105), .move (.t 14), none⟩,
                   ⟨(some 17), .move (.t 105), none⟩])
                 (.seq
                  (.seq
                   (.reg [⟨(some 106), .move (.t 14), none⟩,
                     ⟨(some 107), .move (.t 1), none⟩,
                     ⟨(some 108), .bin .int .geq (.t 106) (.t 107), none⟩])
                   (.cond (.t 108)
                    (.reg [⟨(some 109), .move (.t 14), none⟩,
                      ⟨(some 110), .bin .int .add (.t 109) (.c (.int .i64 1)), none⟩,
                      ⟨(some 17), .move (.t 110), none⟩])
                    .skip))
                  (.seq
                   (.reg [⟨(some 111), .move (.t 15), none⟩,
                     ⟨(some 112), .move (.t 17), none⟩,
                     ⟨(some 113), .bin .int .neq (.t 111) (.t 112), none⟩,
                     ⟨(some 114), .move (.t 113), none⟩,
                     ⟨(some 115), .move (.t 16), some (114, false)⟩,
                     ⟨(some 116), .bin .int .neq (.t 115) (.c (.int .i64 0)), some (114, false)⟩,
                     ⟨(some 117), .pick (.t 114) (.c (.bool true)) (.t 116), none⟩])
                   (.cond (.t 117)
                    (.seq
                     (.reg [⟨(some 4), .move (.c (.bool false)), none⟩])
                     .ret)
                    .skip))))))
              (.reg [⟨(some 95), .move (.t 14), none⟩,
                ⟨(some 96), .bin .int .add (.t 95) (.c (.int .i64 1)), none⟩,
                ⟨(some 14), .move (.t 96), none⟩]))))))
         (.seq
          (.reg [⟨(some 119), .move (.t 5), none⟩,
            ⟨(some 120), .move (.t 1), none⟩,
            ⟨(some 121), .call 16 [(.t 119), (.t 120)], none⟩,
            ⟨(some 118), .move (.t 121), none⟩,
            ⟨(some 122), .extract (.t 118) 0, none⟩,
            ⟨(some 123), .extract (.t 118) 1, none⟩,
            ⟨(some 18), .new 31 (.c (.agg [(.int .i64 0), (.int .i64 0), .nils])), none⟩,
            ⟨none, .store 3 (.t 18) (.t 122), none⟩,
            ⟨(some 19), .move (.t 123), none⟩])
          (.seq
           (.reg [⟨(some 125), .move (.t 5), none⟩,
             ⟨(some 126), .build [(.int .i64 0), (.int .i64 0), .nils] [], none⟩,
             ⟨(some 127), .call 14 [(.t 125), (.t 126)], none⟩,
             ⟨(some 124), .move (.t 127), none⟩,
             ⟨(some 128), .extract (.t 124) 0, none⟩,
             ⟨(some 129), .extract (.t 124) 1, none⟩,
             ⟨(some 11), .move (.t 129), none⟩])
           (.seq
            (.reg [⟨(some 130), .move (.t 19), none⟩,
              ⟨(some 131), .move (.t 130), none⟩,
              ⟨(some 132), .faddr 1 (.t 18), some (131, true)⟩,
              ⟨(some 133), .load none (.t 132), some (131, true)⟩,
              ⟨(some 134), .move (.t 1), some (131, true)⟩,
              ⟨(some 135), .bin .int .eql (.t 133) (.t 134), some (131, true)⟩,
              ⟨(some 136), .pick (.t 131) (.t 135) (.c (.bool false)), none⟩,
              ⟨(some 137), .move (.t 136), none⟩,
              ⟨(some 138), .move (.t 11), some (137, true)⟩,
              ⟨(some 139), .bin .int .eql (.t 138) (.c (.int .i64 160)), some (137, true)⟩,
              ⟨(some 140), .pick (.t 137) (.t 139) (.c (.bool false)), none⟩,
              ⟨(some 141), .move (.t 140), none⟩,
              ⟨(some 142), .call 12 [], some (141, true)⟩,
              ⟨(some 143), .pick (.t 141) (.t 142) (.c (.bool false)), none⟩,
              ⟨(some 4), .move (.t 143), none⟩])
            .ret))))))))))))
theorem in3 {args : List AV} {σ : Store} {K : AV → Store → Prop} (hargs : args.length ≤ 144 := by simp) (h : AWP Try.prog Try.f3.ntmps c3 (fun e t s => match e with | .exit _ => False | _ => Res [.slot 4] K t s) (env (argList 0 args)) σ) : ACalls Try.prog 3 args σ K :=
  enter (own := []) Try.func3 (by kernel_rfl) (by kernel_rfl) (by kernel_rfl) hargs h
/-- changeling/changelinglaw16.HeapTwice -/
def c4 : ACode :=
(.seq
 (.reg [⟨(some 6), .move (.c (.bool false)), none⟩])
 (.seq
  (.seq
   (.reg [⟨(some 12), .move (.t 1), none⟩,
     ⟨(some 13), .call 17 [(.t 12)], none⟩,
     ⟨(some 14), .not (.t 13), none⟩,
     ⟨(some 15), .move (.t 14), none⟩,
     ⟨(some 16), .move (.t 0), some (15, false)⟩,
     ⟨(some 17), .call 18 [(.t 16)], some (15, false)⟩,
     ⟨(some 18), .not (.t 17), some (15, false)⟩,
     ⟨(some 19), .pick (.t 15) (.c (.bool true)) (.t 18), none⟩])
   (.cond (.t 19)
    (.seq
     (.reg [⟨(some 20), .call 12 [], none⟩,
       ⟨(some 6), .move (.t 20), none⟩])
     .ret)
    .skip))
  (.seq
   (.reg [⟨(some 21), .move (.t 0), none⟩,
     ⟨(some 22), .move (.t 1), none⟩,
     ⟨(some 23), .call 19 [(.t 21), (.t 22)], none⟩,
     ⟨(some 7), .move (.t 23), none⟩])
   (.seq
    (.seq
     (.reg [⟨(some 24), .move (.t 7), none⟩,
       ⟨(some 25), .nileq .ptr false (.t 24) (.c .nilp), none⟩])
     (.cond (.t 25)
      (.seq
       (.reg [⟨(some 6), .move (.c (.bool false)), none⟩])
       .ret)
      .skip))
    (.seq
     (.reg [⟨(some 27), .move (.t 7), none⟩,
       ⟨(some 28), .move (.t 2), none⟩,
       ⟨(some 29), .call 15 [(.t 27), (.t 28)], none⟩,
       ⟨(some 26), .move (.t 29), none⟩,
       ⟨(some 30), .extract (.t 26) 0, none⟩,
       ⟨(some 31), .extract (.t 26) 1, none⟩,
       ⟨(some 8), .move (.t 30), none⟩,
       ⟨(some 9), .move (.t 31), none⟩])
     (.seq
      (.reg [⟨(some 33), .move (.t 7), none⟩,
        ⟨(some 34), .move (.t 2), none⟩,
        ⟨(some 35), .call 15 [(.t 33), (.t 34)], none⟩,
        ⟨(some 32), .move (.t 35), none⟩,
        ⟨(some 36), .extract (.t 32) 0, none⟩,
        ⟨(some 37), .extract (.t 32) 1, none⟩,
        ⟨(some 10), .move (.t 36), none⟩,
        ⟨(some 11), .move (.t 37), none⟩])
      (.seq
       (.reg [⟨(some 38), .move (.t 9), none⟩,
         ⟨(some 39), .move (.t 11), none⟩,
         ⟨(some 40), .bin .int .eql (.t 38) (.t 39), none⟩,
         ⟨(some 41), .move (.t 40), none⟩,
         ⟨(some 42), .move (.t 10), some (41, true)⟩,
         ⟨(some 43), .bin .int .eql (.t 42) (.c (.int .i64 0)), some (41, true)⟩,
         ⟨(some 44), .pick (.t 41) (.t 43) (.c (.bool false)), none⟩,
         ⟨(some 45), .move (.t 44), none⟩,
         ⟨(some 46), .call 12 [], some (45, true)⟩,
         ⟨(some 47), .pick (.t 45) (.t 46) (.c (.bool false)), none⟩,
         ⟨(some 6), .move (.t 47), none⟩])
       .ret)))))))
theorem in4 {args : List AV} {σ : Store} {K : AV → Store → Prop} (hargs : args.length ≤ 48 := by simp) (h : AWP Try.prog Try.f4.ntmps c4 (fun e t s => match e with | .exit _ => False | _ => Res [.slot 6] K t s) (env (argList 0 args)) σ) : ACalls Try.prog 4 args σ K :=
  enter (own := []) Try.func4 (by kernel_rfl) (by kernel_rfl) (by kernel_rfl) hargs h
/-- changeling/changelinglaw16.HeapKeeps -/
def c6 : ACode :=
(.seq
 (.reg [⟨(some 6), .move (.c (.bool false)), none⟩])
 (.seq
  (.seq
   (.reg [⟨(some 23), .move (.t 1), none⟩,
     ⟨(some 24), .call 17 [(.t 23)], none⟩,
     ⟨(some 25), .not (.t 24), none⟩,
     ⟨(some 26), .move (.t 25), none⟩,
     ⟨(some 27), .move (.t 0), some (26, false)⟩,
     ⟨(some 28), .call 18 [(.t 27)], some (26, false)⟩,
     ⟨(some 29), .not (.t 28), some (26, false)⟩,
     ⟨(some 30), .pick (.t 26) (.c (.bool true)) (.t 29), none⟩])
   (.cond (.t 30)
    (.seq
     (.reg [⟨(some 31), .call 12 [], none⟩,
       ⟨(some 6), .move (.t 31), none⟩])
     .ret)
    .skip))
  (.seq
   (.reg [⟨(some 32), .move (.t 0), none⟩,
     ⟨(some 33), .move (.t 1), none⟩,
     ⟨(some 34), .call 19 [(.t 32), (.t 33)], none⟩,
     ⟨(some 7), .move (.t 34), none⟩])
   (.seq
    (.seq
     (.reg [⟨(some 35), .move (.t 7), none⟩,
       ⟨(some 36), .nileq .ptr false (.t 35) (.c .nilp), none⟩])
     (.cond (.t 36)
      (.seq
       (.reg [⟨(some 6), .move (.c (.bool false)), none⟩])
       .ret)
      .skip))
    (.seq
     (.reg [⟨(some 38), .move (.t 7), none⟩,
       ⟨(some 39), .move (.t 2), none⟩,
       ⟨(some 40), .call 16 [(.t 38), (.t 39)], none⟩,
       ⟨(some 37), .move (.t 40), none⟩,
       ⟨(some 41), .extract (.t 37) 0, none⟩,
       ⟨(some 42), .extract (.t 37) 1, none⟩,
       ⟨(some 8), .new 31 (.c (.agg [(.int .i64 0), (.int .i64 0), .nils])), none⟩,
       ⟨none, .store 3 (.t 8) (.t 41), none⟩,
       ⟨(some 9), .move (.t 42), none⟩])
     (.seq
      (.seq
       (.reg [⟨(some 43), .move (.t 9), none⟩,
         ⟨(some 44), .not (.t 43), none⟩])
       (.cond (.t 44)
        (.seq
         (.reg [⟨(some 46), .move (.t 7), none⟩,
           ⟨(some 47), .move (.t 2), none⟩,
           ⟨(some 48), .lit false 3 1 [(.t 47)], none⟩,
           ⟨(some 49), .call 15 [(.t 46), (.t 48)], none⟩,
           ⟨(some 45), .move (.t 49), none⟩,
           ⟨(some 50), .extract (.t 45) 0, none⟩,
           ⟨(some 51), .extract (.t 45) 1, none⟩,
           ⟨(some 10), .move (.t 50), none⟩,
           ⟨(some 11), .move (.t 51), none⟩])
         (.seq
          (.reg [⟨(some 52), .move (.t 10), none⟩,
            ⟨(some 53), .bin .int .eql (.t 52) (.c (.int .i64 0)), none⟩,
            ⟨(some 54), .move (.t 53), none⟩,
            ⟨(some 55), .move (.t 11), some (54, true)⟩,
            ⟨(some 56), .bin .int .eql (.t 55) (.c (.int .i64 161)), some (54, true)⟩,
            ⟨(some 57), .pick (.t 54) (.t 56) (.c (.bool false)), none⟩,
            ⟨(some 58), .move (.t 57), none⟩,
            ⟨(some 59), .call 12 [], some (58, true)⟩,
            ⟨(some 60), .pick (.t 58) (.t 59) (.c (.bool false)), none⟩,
            ⟨(some 6), .move (.t 60), none⟩])
          .ret))
        .skip))
      (.seq
       (.reg [⟨(some 61), .move (.t 7), none⟩,
         ⟨(some 62), .move (.t 2), none⟩,
         ⟨(some 63), .call 25 [(.t 61), (.t 62)], none⟩,
         ⟨(some 12), .move (.t 63), none⟩])
       (.seq
        (.reg [⟨(some 13), .move (.c .nils), none⟩])
        (.seq
         (.seq
          (.reg [⟨(some 14), .move (.c (.int .i64 0)), none⟩])
          (.block 0
           (.loop
            (.seq
             (.seq
              (.reg [⟨(some 64), .move (.t 14), none⟩,
                ⟨(some 65), .move (.t 12), none⟩,
                ⟨(some 66), .len .slice (.t 65), none⟩,
                ⟨(some 67), .bin .int .lss (.t 64) (.t 66), none⟩])
              (.cond (.t 67)
               .skip
               (.exit 0)))
             (.seq
              (.block 1
               (.seq
                (.reg [⟨(some 71), .move (.t 7), none⟩,
                  ⟨(some 72), .move (.t 12), none⟩,
                  ⟨(some 73), .move (.t 14), none⟩,
                  ⟨(some 74), .iaddr 1 (.t 72) (.t 73), none⟩,
                  ⟨(some 75), .load none (.t 74), none⟩,
                  ⟨(some 76), .call 16 [(.t 71), (.t 75)], none⟩,
                  ⟨(some 70), .move (.t 76), none⟩,
                  ⟨(some 77), .extract (.t 70) 0, none⟩,
                  ⟨(some 78), .extract (.t 70) 1, none⟩,
                  ⟨(some 15), .new 31 (.c (.agg [(.int .i64 0), (.int .i64 0), .nils])), none⟩,
                  ⟨none, .store 3 (.t 15) (.t 77), none⟩,
                  ⟨(some 16), .move (.t 78), none⟩])
                (.reg [⟨(some 79), .move (.t 13), none⟩,
                  ⟨(some 80), .load (some 3) (.t 15), none⟩,
                  ⟨(some 81), .lit false 31 3 [(.t 80)], none⟩,
                  ⟨(some 82), .append 31 3 40 (.t 79) (.t 81), none⟩,
                  ⟨(some 13), .move (.t 82), none⟩])))
              (.reg [⟨(some 68), .move (.t 14), none⟩,
                ⟨(some 69), .bin .int .add (.t 68) (.c (.int .i64 1)), none⟩,
                ⟨(some 14), .move (.t 69), none⟩]))))))
         (.seq
          (.reg [⟨(some 83), .move (.t 7), none⟩,
            ⟨(some 84), .call 21 [(.t 83)], none⟩,
            ⟨(some 17), .move (.t 84), none⟩])
          (.seq
           (.reg [⟨(some 86), .move (.t 7), none⟩,
             ⟨(some 87), .move (.t 2), none⟩,
             ⟨(some 88), .lit false 3 1 [(.t 87)], none⟩,
             ⟨(some 89), .call 15 [(.t 86), (.t 88)], none⟩,
             ⟨(some 85), .move (.t 89), none⟩,
             ⟨(some 90), .extract (.t 85) 0, none⟩,
             ⟨(some 91), .extract (.t 85) 1, none⟩,
             ⟨(some 18), .move (.t 90), none⟩,
             ⟨(some 19), .move (.t 91), none⟩])
           (.seq
            (.seq
             (.reg [⟨(some 92), .move (.t 19), none⟩,
               ⟨(some 93), .bin .int .neq (.t 92) (.c (.int .i64 0)), none⟩,
               ⟨(some 94), .move (.t 93), none⟩,
               ⟨(some 95), .move (.t 18), some (94, false)⟩,
               ⟨(some 96), .move (.t 17), some (94, false)⟩,
               ⟨(some 97), .move (.t 12), some (94, false)⟩,
               ⟨(some 98), .len .slice (.t 97), some (94, false)⟩,
               ⟨(some 99), .bin .int .sub (.t 96) (.t 98), some (94, false)⟩,
               ⟨(some 100), .bin .int .neq (.t 95) (.t 99), some (94, false)⟩,
               ⟨(some 101), .pick (.t 94) (.c (.bool true)) (.t 100), none⟩,
               ⟨(some 102), .move (.t 101), none⟩,
               ⟨(some 103), .move (.t 7), some (102, false)⟩,
               ⟨(some 104), .call 21 [(.t 103)], some (102, false)⟩,
               ⟨(some 105), .move (.t 12), some (102, false)⟩,
               ⟨(some 106), .len .slice (.t 105), some (102, false)⟩,
               ⟨(some 107), .bin .int .neq (.t 104) (.t 106), some (102, false)⟩,
               ⟨(some 108), .pick (.t 102) (.c (.bool true)) (.t 107), none⟩])
             (.cond (.t 108)
              (.seq
               (.reg [⟨(some 6), .move (.c (.bool false)), none⟩])
               .ret)
              .skip))
            (.seq
             (.seq
              (.reg [⟨(some 20), .move (.c (.int .i64 0)), none⟩])
              (.block 2
               (.loop
                (.seq
                 (.seq
                  (.reg [⟨(some 109), .move (.t 20), none⟩,
                    ⟨(some 110), .move (.t 12), none⟩,
                    ⟨(some 111), .len .slice (.t 110), none⟩,
                    ⟨(some 112), .bin .int .lss (.t 109) (.t 111), none⟩])
                  (.cond (.t 112)
                   .skip
                   (.exit 2)))
                 (.seq
                  (.block 3
                   (.seq
                    (.reg [⟨(some 116), .move (.t 7), none⟩,
                      ⟨(some 117), .move (.t 12), none⟩,
                      ⟨(some 118), .move (.t 20), none⟩,
                      ⟨(some 119), .iaddr 1 (.t 117) (.t 118), none⟩,
                      ⟨(some 120), .load none (.t 119), none⟩,
                      ⟨(some 121), .call 16 [(.t 116), (.t 120)], none⟩,
                      ⟨(some 115), .move (.t 121), none⟩,
                      ⟨(some 122), .extract (.t 115) 0, none⟩,
                      ⟨(some 123), .extract (.t 115) 1, none⟩,
                      ⟨(some 21), .new 31 (.c (.agg [(.int .i64 0), (.int .i64 0), .nils])), none⟩,
                      ⟨none, .store 3 (.t 21) (.t 122), none⟩,
                      ⟨(some 22), .move (.t 123), none⟩])
                    (.seq
                     (.reg [⟨(some 124), .move (.t 22), none⟩,
                       ⟨(some 125), .not (.t 124), none⟩,
                       ⟨(some 126), .move (.t 125), none⟩,
                       ⟨(some 127), .load (some 3) (.t 21), some (126, false)⟩,
                       ⟨(some 128), .move (.t 13), some (126, false)⟩,
                       ⟨(some 129), .move (.t 20), some (126, false)⟩,
                       ⟨(some 130), .iaddr 3 (.t 128) (.t 129), some (126, false)⟩,
                       ⟨(some 131), .load (some 3) (.t 130), some (126, false)⟩,
                       ⟨(some 132), .call 26 [(.t 127), (.t 131)], some (126, false)⟩,
                       ⟨(some 133), .not (.t 132), some (126, false)⟩,
                       ⟨(some 134), .pick (.t 126) (.c (.bool true)) (.t 133), none⟩])
                     (.cond (.t 134)
                      (.seq
                       (.reg [⟨(some 6), .move (.c (.bool false)), none⟩])
                       .ret)
                      .skip))))
                  (.reg [⟨(some 113), .move (.t 20), none⟩,
                    ⟨(some 114), .bin .int .add (.t 113) (.c (.int .i64 1)), none⟩,
                    ⟨(some 20), .move (.t 114), none⟩]))))))
             (.seq
              (.reg [⟨(some 135), .call 12 [], none⟩,
                ⟨(some 6), .move (.t 135), none⟩])
              .ret))))))))))))))
theorem in6 {args : List AV} {σ : Store} {K : AV → Store → Prop} (hargs : args.length ≤ 136 := by simp) (h : AWP Try.prog Try.f6.ntmps c6 (fun e t s => match e with | .exit _ => False | _ => Res [.slot 6] K t s) (env (argList 0 args)) σ) : ACalls Try.prog 6 args σ K :=
  enter (own := []) Try.func6 (by kernel_rfl) (by kernel_rfl) (by kernel_rfl) hargs h
/-- changeling/changelinglaw16.HeapPoints -/
def c7 : ACode :=
(.seq
 (.reg [⟨(some 4), .move (.c (.bool false)), none⟩])
 (.seq
  (.seq
   (.reg [⟨(some 13), .move (.t 1), none⟩,
     ⟨(some 14), .call 17 [(.t 13)], none⟩,
     ⟨(some 15), .not (.t 14), none⟩,
     ⟨(some 16), .move (.t 15), none⟩,
     ⟨(some 17), .move (.t 0), some (16, false)⟩,
     ⟨(some 18), .bin .int .lss (.t 17) (.c (.int .i64 1)), some (16, false)⟩,
     ⟨(some 19), .pick (.t 16) (.c (.bool true)) (.t 18), none⟩,
     ⟨(some 20), .move (.t 19), none⟩,
     ⟨(some 21), .move (.t 0), some (20, false)⟩,
     ⟨(some 22), .bin .int .gtr (.t 21) (.c (.int .i64 1000)), some (20, false)⟩,
     ⟨(some 23), .pick (.t 20) (.c (.bool true)) (.t 22), none⟩])
   (.cond (.t 23)
    (.seq
     (.reg [⟨(some 24), .call 12 [], none⟩,
       ⟨(some 4), .move (.t 24), none⟩])
     .ret)
    .skip))
  (.seq
   (.reg [⟨(some 25), .move (.t 0), none⟩,
     ⟨(some 26), .move (.t 1), none⟩,
     ⟨(some 27), .call 19 [(.t 25), (.t 26)], none⟩,
     ⟨(some 5), .move (.t 27), none⟩])
   (.seq
    (.seq
     (.reg [⟨(some 28), .move (.t 5), none⟩,
       ⟨(some 29), .nileq .ptr false (.t 28) (.c .nilp), none⟩])
     (.cond (.t 29)
      (.seq
       (.reg [⟨(some 4), .move (.c (.bool false)), none⟩])
       .ret)
      .skip))
    (.seq
     (.reg [⟨(some 6), .move (.c (.int .i64 0)), none⟩])
     (.seq
      (.seq
       (.reg [⟨(some 7), .move (.c (.int .i64 0)), none⟩])
       (.block 0
        (.loop
         (.seq
          (.seq
           (.reg [⟨(some 30), .move (.t 7), none⟩,
             ⟨(some 31), .move (.t 0), none⟩,
             ⟨(some 32), .bin .int .lss (.t 30) (.t 31), none⟩])
           (.cond (.t 32)
            .skip
            (.exit 0)))
          (.seq
           (.block 1
            (.seq
             (.reg [⟨(some 36), .move (.t 5), none⟩,
               ⟨(some 37), .move (.t 7), none⟩,
               ⟨(some 38), .call 16 [(.t 36), (.t 37)], none⟩,
               ⟨(some 35), .move (.t 38), none⟩,
               ⟨(some 39), .extract (.t 35) 0, none⟩,
               ⟨(some 40), .extract (.t 35) 1, none⟩,
               ⟨(some 8), .new 31 (.c (.agg [(.int .i64 0), (.int .i64 0), .nils])), none⟩,
               ⟨none, .store 3 (.t 8) (.t 39), none⟩,
               ⟨(some 9), .move (.t 40), none⟩])
             (.seq
              (.seq
               (.reg [⟨(some 41), .move (.t 9), none⟩])
               (.cond (.t 41)
                (.reg [⟨(some 42), .move (.t 6), none⟩,
                  ⟨(some 43), .bin .int .add (.t 42) (.c (.int .i64 1)), none⟩,
                  ⟨(some 6), .move (.t 43), none⟩])
                .skip))
              (.seq
               (.reg [⟨(some 10), .move (.c (.int .i64 0)), none⟩])
               (.block 2
                (.loop
                 (.seq
                  (.seq
                   (.reg [⟨(some 44), .move (.t 10), none⟩,
                     ⟨(some 45), .faddr 2 (.t 8), none⟩,
                     ⟨(some 46), .load none (.t 45), none⟩,
                     ⟨(some 47), .len .slice (.t 46), none⟩,
                     ⟨(some 48), .bin .int .lss (.t 44) (.t 47), none⟩])
                   (.cond (.t 48)
                    .skip
                    (.exit 2)))
                  (.seq
                   (.block 3
                    (.seq
                     (.reg [⟨(some 52), .move (.t 5), none⟩,
                       ⟨(some 53), .faddr 2 (.t 8), none⟩,
                       ⟨(some 54), .load none (.t 53), none⟩,
                       ⟨(some 55), .move (.t 10), none⟩,
                       ⟨(some 56), .iaddr 1 (.t 54) (.t 55), none⟩,
                       ⟨(some 57), .load none (.t 56), none⟩,
                       ⟨(some 58), .call 16 [(.t 52), (.t 57)], none⟩,
                       ⟨(some 51), .move (.t 58), none⟩,
                       ⟨(some 59), .extract (.t 51) 0, none⟩,
                       ⟨(some 60), .extract (.t 51) 1, none⟩,
                       ⟨(some 11), .new 31 (.c (.agg [(.int .i64 0), (.int .i64 0), .nils])), none⟩,
                       ⟨none, .store 3 (.t 11) (.t 59), none⟩,
                       ⟨(some 12), .move (.t 60), none⟩])
                     (.seq
                      (.reg [⟨(some 61), .move (.t 12), none⟩,
                        ⟨(some 62), .not (.t 61), none⟩])
                      (.cond (.t 62)
                       (.seq
                        (.reg [⟨(some 4), .move (.c (.bool false)), none⟩])
                        .ret)
                       .skip))))
                   (.reg [⟨(some 49), .move (.t 10), none⟩,
                     ⟨(some 50), .bin .int .add (.t 49) (.c (.int .i64 1)), none⟩,
                     ⟨(some 10), .move (.t 50), none⟩])))))))))
           (.reg [⟨(some 33), .move (.t 7), none⟩,
             ⟨(some 34), .bin .int .add (.t 33) (.c (.int .i64 1)), none⟩,
             ⟨(some 7), .move (.t 34), none⟩]))))))
      (.seq
       (.reg [⟨(some 63), .move (.t 6), none⟩,
         ⟨(some 64), .move (.t 5), none⟩,
         ⟨(some 65), .call 21 [(.t 64)], none⟩,
         ⟨(some 66), .bin .int .eql (.t 63) (.t 65), none⟩,
         ⟨(some 67), .move (.t 66), none⟩,
         ⟨(some 68), .call 12 [], some (67, true)⟩,
         ⟨(some 69), .pick (.t 67) (.t 68) (.c (.bool false)), none⟩,
         ⟨(some 4), .move (.t 69), none⟩])
       .ret)))))))
theorem in7 {args : List AV} {σ : Store} {K : AV → Store → Prop} (hargs : args.length ≤ 70 := by simp) (h : AWP Try.prog Try.f7.ntmps c7 (fun e t s => match e with | .exit _ => False | _ => Res [.slot 4] K t s) (env (argList 0 args)) σ) : ACalls Try.prog 7 args σ K :=
  enter (own := []) Try.func7 (by kernel_rfl) (by kernel_rfl) (by kernel_rfl) hargs h
/-- changeling/changelinglaw16.HeapOwn -/
def c8 : ACode :=
(.seq
 (.reg [⟨(some 1), .new 31 (.t 0), none⟩,
   ⟨(some 2), .move (.c (.bool false)), none⟩])
 (.seq
  (.reg [⟨(some 23), .call 13 [(.c (.int .i64 4))], none⟩,
    ⟨(some 22), .move (.t 23), none⟩,
    ⟨(some 24), .extract (.t 22) 0, none⟩,
    ⟨(some 25), .extract (.t 22) 1, none⟩,
    ⟨(some 3), .move (.t 24), none⟩,
    ⟨(some 4), .move (.t 25), none⟩])
  (.seq
   (.seq
    (.reg [⟨(some 26), .move (.t 3), none⟩,
      ⟨(some 27), .nileq .ptr false (.t 26) (.c .nilp), none⟩,
      ⟨(some 28), .move (.t 27), none⟩,
      ⟨(some 29), .move (.t 4), some (28, false)⟩,
      ⟨(some 30), .bin .int .neq (.t 29) (.c (.int .i64 0)), some (28, false)⟩,
      ⟨(some 31), .pick (.t 28) (.c (.bool true)) (.t 30), none⟩,
      ⟨(some 32), .move (.t 31), none⟩,
      ⟨(some 33), .faddr 2 (.t 1), some (32, false)⟩,
      ⟨(some 34), .load none (.t 33), some (32, false)⟩,
      ⟨(some 35), .len .slice (.t 34), some (32, false)⟩,
      ⟨(some 36), .bin .int .gtr (.t 35) (.c (.int .i64 100)), some (32, false)⟩,
      ⟨(some 37), .pick (.t 32) (.c (.bool true)) (.t 36), none⟩])
    (.cond (.t 37)
     (.seq
      (.reg [⟨(some 38), .move (.t 3), none⟩,
        ⟨(some 39), .nileq .ptr true (.t 38) (.c .nilp), none⟩,
        ⟨(some 40), .move (.t 39), none⟩,
        ⟨(some 41), .call 12 [], some (40, true)⟩,
        ⟨(some 42), .pick (.t 40) (.t 41) (.c (.bool false)), none⟩,
        ⟨(some 2), .move (.t 42), none⟩])
      .ret)
     .skip))
   (.seq
    (.reg [⟨(some 43), .move (.t 3), none⟩,
      ⟨(some 44), .build [(.int .i64 0), (.int .i64 0), .nils] [], none⟩,
      ⟨(some 45), .call 14 [(.t 43), (.t 44)], none⟩])
    (.seq
     (.reg [⟨(some 46), .faddr 2 (.t 1), none⟩,
       ⟨(some 47), .load none (.t 46), none⟩,
       ⟨(some 48), .len .slice (.t 47), none⟩,
       ⟨(some 49), .mkslice 3 1 8 [(.int .i64 0)] (.t 48) (.t 48), none⟩,
       ⟨(some 5), .move (.t 49), none⟩])
     (.seq
      (.reg [⟨(some 51), .move (.t 3), none⟩,
        ⟨(some 52), .faddr 0 (.t 1), none⟩,
        ⟨(some 53), .load none (.t 52), none⟩,
        ⟨(some 54), .faddr 1 (.t 1), none⟩,
        ⟨(some 55), .load none (.t 54), none⟩,
        ⟨(some 56), .move (.t 5), none⟩,
        ⟨(some 57), .build [(.int .i64 0), (.int .i64 0), .nils] [(0, 1, (.t 53)), (1, 1, (.t 55)), (2, 1, (.t 56))], none⟩,
        ⟨(some 58), .call 14 [(.t 51), (.t 57)], none⟩,
        ⟨(some 50), .move (.t 58), none⟩,
        ⟨(some 59), .extract (.t 50) 0, none⟩,
        ⟨(some 60), .extract (.t 50) 1, none⟩,
        ⟨(some 6), .move (.t 59), none⟩,
        ⟨(some 7), .move (.t 60), none⟩])
      (.seq
       (.seq
        (.reg [⟨(some 61), .move (.t 6), none⟩,
          ⟨(some 62), .bin .int .neq (.t 61) (.c (.int .i64 1)), none⟩,
          ⟨(some 63), .move (.t 62), none⟩,
          ⟨(some 64), .move (.t 7), some (63, false)⟩,
          ⟨(some 65), .bin .int .neq (.t 64) (.c (.int .i64 0)), some (63, false)⟩,
          ⟨(some 66), .pick (.t 63) (.c (.bool true)) (.t 65), none⟩])
        (.cond (.t 66)
         (.seq
          (.reg [⟨(some 2), .move (.c (.bool false)), none⟩])
          .ret)
         .skip))
       (.seq
        (.seq
         (.reg [⟨(some 8), .move (.c (.int .i64 0)), none⟩])
         (.block 0
          (.loop
           (.seq
            (.seq
             (.reg [⟨(some 67), .move (.t 8), none⟩,
               ⟨(some 68), .move (.t 5), none⟩,
               ⟨(some 69), .len .slice (.t 68), none⟩,
               ⟨(some 70), .bin .int .lss (.t 67) (.t 69), none⟩])
             (.cond (.t 70)
              .skip
              (.exit 0)))
            (.seq
             (.block 1
              (.reg [⟨(some 73), .move (.t 5), none⟩,
                ⟨(some 74), .move (.t 8), none⟩,
                ⟨(some 75), .iaddr 1 (.t 73) (.t 74), none⟩,
                ⟨none, .store 1 (.t 75) (.c (.int .i64 9)), none⟩]))
             (.reg [⟨(some 71), .move (.t 8), none⟩,
               ⟨(some 72), .bin .int .add (.t 71) (.c (.int .i64 1)), none⟩,
               ⟨(some 8), .move (.t 72), none⟩]))))))
        (.seq
         (.reg [⟨(some 77), .move (.t 3), none⟩,
           ⟨(some 78), .call 16 [(.t 77), (.c (.int .i64 1))], none⟩,
           ⟨(some 76), .move (.t 78), none⟩,
           ⟨(some 79), .extract (.t 76) 0, none⟩,
           ⟨(some 80), .extract (.t 76) 1, none⟩,
           ⟨(some 9), .new 31 (.c (.agg [(.int .i64 0), (.int .i64 0), .nils])), none⟩,
           ⟨none, .store 3 (.t 9) (.t 79), none⟩,
           ⟨(some 10), .move (.t 80), none⟩])
         (.seq
          (.seq
           (.reg [⟨(some 11), .move (.c (.int .i64 0)), none⟩])
           (.block 2
            (.loop
             (.seq
              (.seq
               (.reg [⟨(some 81), .move (.t 11), none⟩,
                 ⟨(some 82), .faddr 2 (.t 9), none⟩,
                 ⟨(some 83), .load none (.t 82), none⟩,
                 ⟨(some 84), .len .slice (.t 83), none⟩,
                 ⟨(some 85), .bin .int .lss (.t 81) (.t 84), none⟩])
               (.cond (.t 85)
                .skip
                (.exit 2)))
              (.seq
               (.block 3
                (.reg [⟨(some 88), .faddr 2 (.t 9), none⟩,
                  ⟨(some 89), .load none (.t 88), none⟩,
                  ⟨(some 90), .move (.t 11), none⟩,
                  ⟨(some 91), .iaddr 1 (.t 89) (.t 90), none⟩,
                  ⟨none, .store 1 (.t 91) (.c (.int .i64 9)), none⟩]))
               (.reg [⟨(some 86), .move (.t 11), none⟩,
                 ⟨(some 87), .bin .int .add (.t 86) (.c (.int .i64 1)), none⟩,
                 ⟨(some 11), .move (.t 87), none⟩]))))))
          (.seq
           (.reg [⟨(some 93), .move (.t 3), none⟩,
             ⟨(some 94), .call 16 [(.t 93), (.c (.int .i64 1))], none⟩,
             ⟨(some 92), .move (.t 94), none⟩,
             ⟨(some 95), .extract (.t 92) 0, none⟩,
             ⟨(some 96), .extract (.t 92) 1, none⟩,
             ⟨(some 12), .new 31 (.c (.agg [(.int .i64 0), (.int .i64 0), .nils])), none⟩,
             ⟨none, .store 3 (.t 12) (.t 95), none⟩,
             ⟨(some 13), .move (.t 96), none⟩])
           (.seq
            (.seq
             (.reg [⟨(some 14), .move (.c (.int .i64 0)), none⟩])
             (.block 4
              (.loop
               (.seq
                (.seq
                 (.reg [⟨(some 97), .move (.t 14), none⟩,
                   ⟨(some 98), .faddr 2 (.t 12), none⟩,
                   ⟨(some 99), .load none (.t 98), none⟩,
                   ⟨(some 100), .len .slice (.t 99), none⟩,
                   ⟨(some 101), .bin .int .lss (.t 97) (.t 100), none⟩])
                 (.cond (.t 101)
                  .skip
                  (.exit 4)))
                (.seq
                 (.block 5
                  (.seq
                   (.reg [⟨(some 104), .faddr 2 (.t 12), none⟩,
                     ⟨(some 105), .load none (.t 104), none⟩,
                     ⟨(some 106), .move (.t 14), none⟩,
                     ⟨(some 107), .iaddr 1 (.t 105) (.t 106), none⟩,
                     ⟨(some 108), .load none (.t 107), none⟩,
                     ⟨(some 109), .bin .int .neq (.t 108) (.c (.int .i64 0)), none⟩])
                   (.cond (.t 109)
                    (.seq
                     (.reg [⟨(some 2), .move (.c (.bool false)), none⟩])
                     .ret)
                    .skip)))
                 (.reg [⟨(some 102), .move (.t 14), none⟩,
                   ⟨(some 103), .bin .int .add (.t 102) (.c (.int .i64 1)), none⟩,
                   ⟨(some 14), .move (.t 103), none⟩]))))))
            (.seq
             (.reg [⟨(some 15), .move (.c .nilp), none⟩])
             (.seq
              (.reg [⟨(some 111), .move (.t 15), none⟩,
                ⟨(some 112), .load (some 3) (.t 1), none⟩,
                ⟨(some 113), .call 14 [(.t 111), (.t 112)], none⟩,
                ⟨(some 110), .move (.t 113), none⟩,
                ⟨(some 114), .extract (.t 110) 0, none⟩,
                ⟨(some 115), .extract (.t 110) 1, none⟩,
                ⟨(some 16), .move (.t 114), none⟩,
                ⟨(some 17), .move (.t 115), none⟩])
              (.seq
               (.reg [⟨(some 117), .move (.t 15), none⟩,
                 ⟨(some 118), .faddr 2 (.t 1), none⟩,
                 ⟨(some 119), .load none (.t 118), none⟩,
                 ⟨(some 120), .call 15 [(.t 117), (.t 119)], none⟩,
                 ⟨(some 116), .move (.t 120), none⟩,
                 ⟨(some 121), .extract (.t 116) 0, none⟩,
                 ⟨(some 122), .extract (.t 116) 1, none⟩,
                 ⟨(some 18), .move (.t 121), none⟩,
                 ⟨(some 19), .move (.t 122), none⟩])
               (.seq
                (.reg [⟨(some 124), .move (.t 15), none⟩,
                  ⟨(some 125), .call 16 [(.t 124), (.c (.int .i64 0))], none⟩,
                  ⟨(some 123), .move (.t 125), none⟩,
                  ⟨(some 126), .extract (.t 123) 0, none⟩,
                  ⟨(some 127), .extract (.t 123) 1, none⟩,
                  ⟨(some 20), .new 31 (.c (.agg [(.int .i64 0), (.int .i64 0), .nils])), none⟩,
                  ⟨none, .store 3 (.t 20) (.t 126), none⟩,
                  ⟨(some 21), .move (.t 127), none⟩])
                (.seq
                 (.reg [⟨(some 128), .move (.t 13), none⟩,
                   ⟨(some 129), .move (.t 128), none⟩,
                   ⟨(some 130), .faddr 2 (.t 12), some (129, true)⟩,
                   ⟨(some 131), .load none (.t 130), some (129, true)⟩,
                   ⟨(some 132), .len .slice (.t 131), some (129, true)⟩,
                   ⟨(some 133), .faddr 2 (.t 1), some (129, true)⟩,
                   ⟨(some 134), .load none (.t 133), some (129, true)⟩,
                   ⟨(some 135), .len .slice (.t 134), some (129, true)⟩,
                   ⟨(some 136), .bin .int .eql (.t 132) (.t 135), some (129, true)⟩,
                   ⟨(some 137), .pick (.t 129) (.t 136) (.c (.bool false)), none⟩,
                   ⟨(some 138), .move (.t 137), none⟩,
                   ⟨(some 139), .faddr 1 (.t 12), some (138, true)⟩,
                   ⟨(some 140), .load none (.t 139), some (138, true)⟩,
                   ⟨(some 141), .faddr 1 (.t 1), some (138, true)⟩,
                   ⟨(some 142), .load none (.t 141), some (138, true)⟩,
                   ⟨(some 143), .bin .int .eql (.t 140) (.t 142), some (138, true)⟩,
                   ⟨(some 144), .pick (.t 138) (.t 143) (.c (.bool false)), none⟩,
                   ⟨(some 145), .move (.t 144), none⟩,
                   ⟨(some 146), .move (.t 17), some (145, true)⟩,
                   ⟨(some 147), .bin .int .eql (.t 146) (.c (.int .i64 3)), some (145, true)⟩,
                   ⟨(some 148), .pick (.t 145) (.t 147) (.c (.bool false)), none⟩,
                   ⟨(some 149), .move (.t 148), none⟩,
                   ⟨(some 150), .move (.t 19), some (149, true)⟩,
                   ⟨(some 151), .bin .int .eql (.t 150) (.c (.int .i64 3)), some (149, true)⟩,
                   ⟨(some 152), .pick (.t 149) (.t 151) (.c (.bool false)), none⟩,
                   ⟨(some 153), .move (.t 152), none⟩,
                   ⟨(some 154), .move (.t 15), some (153, true)⟩,
                   ⟨(some 155), .load (some 3) (.t 1), some (153, true)⟩,
                   ⟨(some 156), .call 27 [(.t 154), (.c (.int .i64 0)), (.t 155)], some (153, true)⟩,
                   ⟨(some 157), .bin .int .eql (.t 156) (.c (.int .i64 3)), some (153, true)⟩,
                   ⟨(some 158), .pick (.t 153) (.t 157) (.c (.bool false)), none⟩,
                   ⟨(some 159), .move (.t 158), none⟩,
                   ⟨(some 160), .move (.t 21), some (159, true)⟩,
                   ⟨(some 161), .not (.t 160), some (159, true)⟩,
                   ⟨(some 162), .pick (.t 159) (.t 161) (.c (.bool false)), none⟩,
                   ⟨(some 163), .move (.t 162), none⟩,
                   ⟨(some 164), .move (.t 15), some (163, true)⟩,
                   ⟨(some 165), .call 21 [(.t 164)], some (163, true)⟩,
                   ⟨(some 166), .move (.t 15), some (163, true)⟩,
                   ⟨(some 167), .call 22 [(.t 166)], some (163, true)⟩,
                   ⟨(some 168), .bin .int .add (.t 165) (.t 167), some (163, true)⟩,
                   ⟨(some 169), .move (.t 15), some (163, true)⟩,
                   ⟨(some 170), .call 23 [(.t 169)], some (163, true)⟩,
                   ⟨(some 171), .bin .int .add (.t 168) (.t 170), some (163, true)⟩,
                   ⟨(some 172), .bin .int .eql (.t 171) (.c (.int .i64 0)), some (163, true)⟩,
                   ⟨(some 173), .pick (.t 163) (.t 172) (.c (.bool false)), none⟩,
                   ⟨(some 174), .move (.t 173), none⟩,
                   ⟨(some 175), .call 12 [], some (174, true)⟩,
                   ⟨(some 176), .pick (.t 174) (.t 175) (.c (.bool false)), none⟩,
                   ⟨(some 2), .move (.t 176), none⟩])
                 .ret)))))))))))))))))
theorem in8 {args : List AV} {σ : Store} {K : AV → Store → Prop} (hargs : args.length ≤ 177 := by simp) (h : AWP Try.prog Try.f8.ntmps c8 (fun e t s => match e with | .exit _ => False | _ => Res [.slot 2] K t s) (env (argList 0 args)) σ) : ACalls Try.prog 8 args σ K :=
  enter (own := []) Try.func8 (by kernel_rfl) (by kernel_rfl) (by kernel_rfl) hargs h
/-- changeling/changelinglaw16.known -/
def c12 : ACode :=
(.seq
 (.reg [⟨(some 0), .move (.c (.bool false)), none⟩])
 (.seq
  (.reg [⟨(some 14), .call 13 [(.c (.int .i64 2))], none⟩,
    ⟨(some 13), .move (.t 14), none⟩,
    ⟨(some 15), .extract (.t 13) 0, none⟩,
    ⟨(some 16), .extract (.t 13) 1, none⟩,
    ⟨(some 1), .move (.t 15), none⟩,
    ⟨(some 2), .move (.t 16), none⟩])
  (.seq
   (.seq
    (.reg [⟨(some 17), .move (.t 1), none⟩,
      ⟨(some 18), .nileq .ptr false (.t 17) (.c .nilp), none⟩,
      ⟨(some 19), .move (.t 18), none⟩,
      ⟨(some 20), .move (.t 2), some (19, false)⟩,
      ⟨(some 21), .bin .int .neq (.t 20) (.c (.int .i64 0)), some (19, false)⟩,
      ⟨(some 22), .pick (.t 19) (.c (.bool true)) (.t 21), none⟩])
    (.cond (.t 22)
     (.seq
      (.reg [⟨(some 0), .move (.c (.bool false)), none⟩])
      .ret)
     .skip))
   (.seq
    (.reg [⟨(some 24), .move (.t 1), none⟩,
      ⟨(some 25), .build [(.int .i64 0), (.int .i64 0), .nils] [(0, 1, (.c (.int .i64 1)))], none⟩,
      ⟨(some 26), .call 14 [(.t 24), (.t 25)], none⟩,
      ⟨(some 23), .move (.t 26), none⟩,
      ⟨(some 27), .extract (.t 23) 0, none⟩,
      ⟨(some 28), .extract (.t 23) 1, none⟩,
      ⟨(some 3), .move (.t 27), none⟩,
      ⟨(some 4), .move (.t 28), none⟩])
    (.seq
     (.reg [⟨(some 30), .move (.t 1), none⟩,
       ⟨(some 31), .build [(.int .i64 0), (.int .i64 0), .nils] [(0, 1, (.c (.int .i64 2)))], none⟩,
       ⟨(some 32), .call 14 [(.t 30), (.t 31)], none⟩,
       ⟨(some 29), .move (.t 32), none⟩,
       ⟨(some 33), .extract (.t 29) 0, none⟩,
       ⟨(some 34), .extract (.t 29) 1, none⟩,
       ⟨(some 5), .move (.t 33), none⟩,
       ⟨(some 6), .move (.t 34), none⟩])
     (.seq
      (.reg [⟨(some 36), .move (.t 1), none⟩,
        ⟨(some 37), .build [(.int .i64 0), (.int .i64 0), .nils] [], none⟩,
        ⟨(some 38), .call 14 [(.t 36), (.t 37)], none⟩,
        ⟨(some 35), .move (.t 38), none⟩,
        ⟨(some 39), .extract (.t 35) 0, none⟩,
        ⟨(some 40), .extract (.t 35) 1, none⟩,
        ⟨(some 7), .move (.t 39), none⟩,
        ⟨(some 8), .move (.t 40), none⟩])
      (.seq
       (.reg [⟨(some 42), .move (.t 1), none⟩,
         ⟨(some 43), .lit false 3 1 [(.c (.int .i64 1))], none⟩,
         ⟨(some 44), .call 15 [(.t 42), (.t 43)], none⟩,
         ⟨(some 41), .move (.t 44), none⟩,
         ⟨(some 45), .extract (.t 41) 0, none⟩,
         ⟨(some 46), .extract (.t 41) 1, none⟩,
         ⟨(some 9), .move (.t 45), none⟩,
         ⟨(some 10), .move (.t 46), none⟩])
       (.seq
        (.reg [⟨(some 48), .move (.t 1), none⟩,
          ⟨(some 49), .build [(.int .i64 0), (.int .i64 0), .nils] [(0, 1, (.c (.int .i64 3)))], none⟩,
          ⟨(some 50), .call 14 [(.t 48), (.t 49)], none⟩,
          ⟨(some 47), .move (.t 50), none⟩,
          ⟨(some 51), .extract (.t 47) 0, none⟩,
          ⟨(some 52), .extract (.t 47) 1, none⟩,
          ⟨(some 11), .move (.t 51), none⟩,
          ⟨(some 12), .move (.t 52), none⟩])
        (.seq
         (.reg [⟨(some 53), .move (.t 3), none⟩,
           ⟨(some 54), .bin .int .eql (.t 53) (.c (.int .i64 0)), none⟩,
           ⟨(some 55), .move (.t 54), none⟩,
           ⟨(some 56), .move (.t 4), some (55, true)⟩,
           ⟨(some 57), .bin .int .eql (.t 56) (.c (.int .i64 0)), some (55, true)⟩,
           ⟨(some 58), .pick (.t 55) (.t 57) (.c (.bool false)), none⟩,
           ⟨(some 59), .move (.t 58), none⟩,
           ⟨(some 60), .move (.t 5), some (59, true)⟩,
           ⟨(some 61), .bin .int .eql (.t 60) (.c (.int .i64 1)), some (59, true)⟩,
           ⟨(some 62), .pick (.t 59) (.t 61) (.c (.bool false)), none⟩,
           ⟨(some 63), .move (.t 62), none⟩,
           ⟨(some 64), .move (.t 6), some (63, true)⟩,
           ⟨(some 65), .bin .int .eql (.t 64) (.c (.int .i64 0)), some (63, true)⟩,
           ⟨(some 66), .pick (.t 63) (.t 65) (.c (.bool false)), none⟩,
           ⟨(some 67), .move (.t 66), none⟩,
           ⟨(some 68), .move (.t 8), some (67, true)⟩,
           ⟨(some 69), .bin .int .eql (.t 68) (.c (.int .i64 160)), some (67, true)⟩,
           ⟨(some 70), .pick (.t 67) (.t 69) (.c (.bool false)), none⟩,
           ⟨(some 71), .move (.t 70), none⟩,
           ⟨(some 72), .move (.t 9), some (71, true)⟩,
           ⟨(some 73), .bin .int .eql (.t 72) (.c (.int .i64 1)), some (71, true)⟩,
           ⟨(some 74), .pick (.t 71) (.t 73) (.c (.bool false)), none⟩,
           ⟨(some 75), .move (.t 74), none⟩,
           ⟨(some 76), .move (.t 10), some (75, true)⟩,
           ⟨(some 77), .bin .int .eql (.t 76) (.c (.int .i64 0)), some (75, true)⟩,
           ⟨(some 78), .pick (.t 75) (.t 77) (.c (.bool false)), none⟩,
           ⟨(some 79), .move (.t 78), none⟩,
           ⟨(some 80), .move (.t 11), some (79, true)⟩,
           ⟨(some 81), .bin .int .eql (.t 80) (.c (.int .i64 0)), some (79, true)⟩,
           ⟨(some 82), .pick (.t 79) (.t 81) (.c (.bool false)), none⟩,
           ⟨(some 83), .move (.t 82), none⟩,
           ⟨(some 84), .move (.t 12), some (83, true)⟩,
           ⟨(some 85), .bin .int .eql (.t 84) (.c (.int .i64 0)), some (83, true)⟩,
           ⟨(some 86), .pick (.t 83) (.t 85) (.c (.bool false)), none⟩,
           ⟨(some 87), .move (.t 86), none⟩,
           ⟨(some 88), .move (.t 1), some (87, true)⟩,
           ⟨(some 89), .call 21 [(.t 88)], some (87, true)⟩,
           ⟨(some 90), .bin .int .eql (.t 89) (.c (.int .i64 2)), some (87, true)⟩,
           ⟨(some 91), .pick (.t 87) (.t 90) (.c (.bool false)), none⟩,
           ⟨(some 92), .move (.t 91), none⟩,
           ⟨(some 93), .move (.t 1), some (92, true)⟩,
           ⟨(some 94), .call 22 [(.t 93)], some (92, true)⟩,
           ⟨(some 95), .bin .int .eql (.t 94) (.c (.int .i64 2)), some (92, true)⟩,
           ⟨(some 96), .pick (.t 92) (.t 95) (.c (.bool false)), none⟩,
           ⟨(some 97), .move (.t 96), none⟩,
           ⟨(some 98), .move (.t 1), some (97, true)⟩,
           ⟨(some 99), .call 23 [(.t 98)], some (97, true)⟩,
           ⟨(some 100), .bin .int .eql (.t 99) (.c (.int .i64 3)), some (97, true)⟩,
           ⟨(some 101), .pick (.t 97) (.t 100) (.c (.bool false)), none⟩,
           ⟨(some 0), .move (.t 101), none⟩])
         .ret)))))))))
theorem in12 {args : List AV} {σ : Store} {K : AV → Store → Prop} (hargs : args.length ≤ 102 := by simp) (h : AWP Try.prog Try.f12.ntmps c12 (fun e t s => match e with | .exit _ => False | _ => Res [.slot 0] K t s) (env (argList 0 args)) σ) : ACalls Try.prog 12 args σ K :=
  enter (own := []) Try.func12 (by kernel_rfl) (by kernel_rfl) (by kernel_rfl) hargs h
/-- changeling/heap.New -/
def c13 : ACode :=
(.seq
 (.reg [⟨(some 2), .move (.c .nilp), none⟩,
   ⟨(some 3), .move (.c (.int .i64 0)), none⟩])
 (.seq
  (.seq
   (.reg [⟨(some 4), .move (.t 0), none⟩,
     ⟨(some 5), .bin .int .lss (.t 4) (.c (.int .i64 1)), none⟩,
     ⟨(some 6), .move (.t 5), none⟩,
     ⟨(some 7), .move (.t 0), some (6, false)⟩,
     ⟨(some 8), .bin .int .gtr (.t 7) (.c (.int .i64 16777216)), some (6, false)⟩,
     ⟨(some 9), .pick (.t 6) (.c (.bool true)) (.t 8), none⟩])
   (.cond (.t 9)
    (.seq
     (.reg [⟨(some 2), .move (.c .nilp), none⟩,
       ⟨(some 3), .move (.c (.int .i64 1)), none⟩])
     .ret)
    .skip))
  (.seq
   (.reg [⟨(some 10), .move (.t 0), none⟩,
     ⟨(some 11), .build [(.int .i64 0), .nils, .nils, (.int .i64 0), (.int .i64 0)] [(0, 1, (.t 10))], none⟩,
     ⟨(some 12), .new 91 (.t 11), none⟩,
     ⟨(some 2), .move (.t 12), none⟩,
     ⟨(some 3), .move (.c (.int .i64 0)), none⟩])
   .ret)))
theorem in13 {args : List AV} {σ : Store} {K : AV → Store → Prop} (hargs : args.length ≤ 13 := by simp) (h : AWP Try.prog Try.f13.ntmps c13 (fun e t s => match e with | .exit _ => False | _ => Res [.slot 2, .slot 3] K t s) (env (argList 0 args)) σ) : ACalls Try.prog 13 args σ K :=
  enter (own := []) Try.func13 (by kernel_rfl) (by kernel_rfl) (by kernel_rfl) hargs h
/-- (*changeling/heap.Heap).Alloc -/
def c14 : ACode :=
(.seq
 (.reg [⟨(some 3), .new 31 (.t 1), none⟩,
   ⟨(some 4), .move (.c (.int .i64 0)), none⟩,
   ⟨(some 5), .move (.c (.int .i64 0)), none⟩])
 (.seq
  (.block 0
   (.seq
    (.reg [⟨(some 10), .move (.t 0), none⟩,
      ⟨(some 11), .call 37 [(.t 10)], none⟩,
      ⟨(some 12), .not (.t 11), none⟩,
      ⟨(some 9), .move (.t 12), none⟩])
    (.cond (.t 9)
     (.seq
      (.reg [⟨(some 4), .move (.c (.int .i64 0)), none⟩,
        ⟨(some 5), .move (.c (.int .i64 3)), none⟩])
      .ret)
     (.seq
      (.reg [⟨(some 14), .move (.t 0), none⟩,
        ⟨(some 15), .faddr 2 (.t 3), none⟩,
        ⟨(some 16), .load none (.t 15), none⟩,
        ⟨(some 17), .call 38 [(.t 14), (.t 16)], none⟩,
        ⟨(some 18), .not (.t 17), none⟩,
        ⟨(some 13), .move (.t 18), none⟩])
      (.cond (.t 13)
       (.seq
        (.reg [⟨(some 4), .move (.c (.int .i64 0)), none⟩,
          ⟨(some 5), .move (.c (.int .i64 161)), none⟩])
        .ret)
       (.seq
        (.reg [⟨(some 20), .move (.t 0), none⟩,
          ⟨(some 21), .nilck (.t 20), none⟩,
          ⟨(some 22), .faddr 3 (.t 21), none⟩,
          ⟨(some 23), .load none (.t 22), none⟩,
          ⟨(some 24), .move (.t 0), none⟩,
          ⟨(some 25), .nilck (.t 24), none⟩,
          ⟨(some 26), .faddr 0 (.t 25), none⟩,
          ⟨(some 27), .load none (.t 26), none⟩,
          ⟨(some 28), .bin .int .geq (.t 23) (.t 27), none⟩,
          ⟨(some 19), .move (.t 28), none⟩])
        (.cond (.t 19)
         (.seq
          (.reg [⟨(some 4), .move (.c (.int .i64 0)), none⟩,
            ⟨(some 5), .move (.c (.int .i64 160)), none⟩])
          .ret)
         .skip)))))))
  (.seq
   (.reg [⟨(some 29), .move (.t 0), none⟩,
     ⟨(some 30), .nilck (.t 29), none⟩,
     ⟨(some 31), .faddr 3 (.t 30), none⟩,
     ⟨(some 32), .load none (.t 31), none⟩,
     ⟨(some 33), .bin .int .add (.t 32) (.c (.int .i64 1)), none⟩,
     ⟨(some 34), .nilck (.t 29), none⟩,
     ⟨(some 35), .faddr 3 (.t 34), none⟩,
     ⟨none, .store 1 (.t 35) (.t 33), none⟩])
   (.seq
    (.reg [⟨(some 36), .move (.t 0), none⟩,
      ⟨(some 37), .nilck (.t 36), none⟩,
      ⟨(some 38), .faddr 4 (.t 37), none⟩,
      ⟨(some 39), .load none (.t 38), none⟩,
      ⟨(some 40), .bin .int .add (.t 39) (.c (.int .i64 1)), none⟩,
      ⟨(some 41), .nilck (.t 36), none⟩,
      ⟨(some 42), .faddr 4 (.t 41), none⟩,
      ⟨none, .store 1 (.t 42) (.t 40), none⟩])
    (.seq
     (.reg [⟨(some 43), .load (some 3) (.t 3), none⟩,
       ⟨(some 44), .call 39 [(.t 43)], none⟩,
       ⟨(some 45), .build [(.int .i64 0), (.int .i64 0), .nils, (.bool false), (.bool false)] [(0, 3, (.t 44)), (3, 1, (.c (.bool true)))], none⟩,
       ⟨(some 6), .new 95 (.c (.agg [(.int .i64 0), (.int .i64 0), .nils, (.bool false), (.bool false)])), none⟩,
       ⟨none, .store 5 (.t 6) (.t 45), none⟩])
     (.seq
      (.seq
       (.reg [⟨(some 46), .move (.t 0), none⟩,
         ⟨(some 47), .nilck (.t 46), none⟩,
         ⟨(some 48), .faddr 2 (.t 47), none⟩,
         ⟨(some 49), .load none (.t 48), none⟩,
         ⟨(some 50), .len .slice (.t 49), none⟩,
         ⟨(some 7), .move (.t 50), none⟩])
       (.seq
        (.reg [⟨(some 51), .move (.t 7), none⟩,
          ⟨(some 52), .bin .int .gtr (.t 51) (.c (.int .i64 0)), none⟩])
        (.cond (.t 52)
         (.seq
          (.reg [⟨(some 53), .move (.t 0), none⟩,
            ⟨(some 54), .nilck (.t 53), none⟩,
            ⟨(some 55), .faddr 2 (.t 54), none⟩,
            ⟨(some 56), .load none (.t 55), none⟩,
            ⟨(some 57), .move (.t 7), none⟩,
            ⟨(some 58), .bin .int .sub (.t 57) (.c (.int .i64 1)), none⟩,
            ⟨(some 59), .iaddr 1 (.t 56) (.t 58), none⟩,
            ⟨(some 60), .load none (.t 59), none⟩,
            ⟨(some 8), .move (.t 60), none⟩])
          (.seq
           (.reg [⟨(some 61), .move (.t 0), none⟩,
             ⟨(some 62), .move (.t 0), none⟩,
             ⟨(some 63), .nilck (.t 62), none⟩,
             ⟨(some 64), .faddr 2 (.t 63), none⟩,
             ⟨(some 65), .load none (.t 64), none⟩,
             ⟨(some 66), .move (.t 7), none⟩,
             ⟨(some 67), .bin .int .sub (.t 66) (.c (.int .i64 1)), none⟩,
             ⟨(some 68), .cut .slice 1 (.t 65) none (some (.t 67)), none⟩,
             ⟨(some 69), .nilck (.t 61), none⟩,
             ⟨(some 70), .faddr 2 (.t 69), none⟩,
             ⟨none, .store 1 (.t 70) (.t 68), none⟩])
           (.seq
            (.reg [⟨(some 71), .move (.t 0), none⟩,
              ⟨(some 72), .nilck (.t 71), none⟩,
              ⟨(some 73), .faddr 1 (.t 72), none⟩,
              ⟨(some 74), .load none (.t 73), none⟩,
              ⟨(some 75), .move (.t 8), none⟩,
              ⟨(some 76), .load (some 5) (.t 6), none⟩,
              ⟨(some 77), .iaddr 5 (.t 74) (.t 75), none⟩,
              ⟨none, .store 5 (.t 77) (.t 76), none⟩])
            (.seq
             (.reg [⟨(some 78), .move (.t 8), none⟩,
               ⟨(some 4), .move (.t 78), none⟩,
               ⟨(some 5), .move (.c (.int .i64 0)), none⟩])
             .ret))))
         .skip)))
      (.seq
       (.reg [⟨(some 79), .move (.t 0), none⟩,
         ⟨(some 80), .move (.t 0), none⟩,
         ⟨(some 81), .nilck (.t 80), none⟩,
         ⟨(some 82), .faddr 1 (.t 81), none⟩,
         ⟨(some 83), .load none (.t 82), none⟩,
         ⟨(some 84), .load (some 5) (.t 6), none⟩,
         ⟨(some 85), .lit false 95 5 [(.t 84)], none⟩,
         ⟨(some 86), .append 95 5 48 (.t 83) (.t 85), none⟩,
         ⟨(some 87), .nilck (.t 79), none⟩,
         ⟨(some 88), .faddr 1 (.t 87), none⟩,
         ⟨none, .store 1 (.t 88) (.t 86), none⟩])
       (.seq
        (.reg [⟨(some 89), .move (.t 0), none⟩,
          ⟨(some 90), .nilck (.t 89), none⟩,
          ⟨(some 91), .faddr 1 (.t 90), none⟩,
          ⟨(some 92), .load none (.t 91), none⟩,
          ⟨(some 93), .len .slice (.t 92), none⟩,
          ⟨(some 94), .bin .int .sub (.t 93) (.c (.int .i64 1)), none⟩,
          ⟨(some 4), .move (.t 94), none⟩,
          ⟨(some 5), .move (.c (.int .i64 0)), none⟩])
        .ret))))))))
theorem in14 {args : List AV} {σ : Store} {K : AV → Store → Prop} (hargs : args.length ≤ 95 := by simp) (h : AWP Try.prog Try.f14.ntmps c14 (fun e t s => match e with | .exit _ => False | _ => Res [.slot 4, .slot 5] K t s) (env (argList 0 args)) σ) : ACalls Try.prog 14 args σ K :=
  enter (own := []) Try.func14 (by kernel_rfl) (by kernel_rfl) (by kernel_rfl) hargs h
/-- (*changeling/heap.Heap).Collect -/
def c15 : ACode :=
(.seq
 (.reg [⟨(some 4), .move (.c (.int .i64 0)), none⟩,
   ⟨(some 5), .move (.c (.int .i64 0)), none⟩])
 (.seq
  (.block 0
   (.seq
    (.reg [⟨(some 7), .move (.t 0), none⟩,
      ⟨(some 8), .call 37 [(.t 7)], none⟩,
      ⟨(some 9), .not (.t 8), none⟩,
      ⟨(some 6), .move (.t 9), none⟩])
    (.cond (.t 6)
     (.seq
      (.reg [⟨(some 4), .move (.c (.int .i64 0)), none⟩,
        ⟨(some 5), .move (.c (.int .i64 3)), none⟩])
      .ret)
     (.seq
      (.reg [⟨(some 11), .move (.t 0), none⟩,
        ⟨(some 12), .move (.t 1), none⟩,
        ⟨(some 13), .call 38 [(.t 11), (.t 12)], none⟩,
        ⟨(some 14), .not (.t 13), none⟩,
        ⟨(some 10), .move (.t 14), none⟩])
      (.cond (.t 10)
       (.seq
        (.reg [⟨(some 4), .move (.c (.int .i64 0)), none⟩,
          ⟨(some 5), .move (.c (.int .i64 161)), none⟩])
        .ret)
       .skip)))))
  (.seq
   (.reg [⟨(some 15), .move (.t 0), none⟩,
     ⟨(some 16), .move (.t 1), none⟩,
     ⟨(some 17), .call 40 [(.t 15), (.t 16)], none⟩])
   (.seq
    (.reg [⟨(some 18), .move (.t 0), none⟩,
      ⟨(some 19), .call 41 [(.t 18)], none⟩,
      ⟨(some 4), .move (.t 19), none⟩,
      ⟨(some 5), .move (.c (.int .i64 0)), none⟩])
    .ret))))
theorem in15 {args : List AV} {σ : Store} {K : AV → Store → Prop} (hargs : args.length ≤ 20 := by simp) (h : AWP Try.prog Try.f15.ntmps c15 (fun e t s => match e with | .exit _ => False | _ => Res [.slot 4, .slot 5] K t s) (env (argList 0 args)) σ) : ACalls Try.prog 15 args σ K :=
  enter (own := []) Try.func15 (by kernel_rfl) (by kernel_rfl) (by kernel_rfl) hargs h
/-- (*changeling/heap.Heap).Get -/
def c16 : ACode :=
(.seq
 (.reg [⟨(some 4), .new 31 (.c (.agg [(.int .i64 0), (.int .i64 0), .nils])), none⟩,
   ⟨(some 5), .move (.c (.bool false)), none⟩])
 (.seq
  (.seq
   (.reg [⟨(some 6), .move (.t 0), none⟩,
     ⟨(some 7), .call 37 [(.t 6)], none⟩,
     ⟨(some 8), .not (.t 7), none⟩,
     ⟨(some 9), .move (.t 8), none⟩,
     ⟨(some 10), .move (.t 0), some (9, false)⟩,
     ⟨(some 11), .move (.t 1), some (9, false)⟩,
     ⟨(some 12), .call 42 [(.t 10), (.t 11)], some (9, false)⟩,
     ⟨(some 13), .not (.t 12), some (9, false)⟩,
     ⟨(some 14), .pick (.t 9) (.c (.bool true)) (.t 13), none⟩])
   (.cond (.t 14)
    (.seq
     (.reg [⟨(some 15), .build [(.int .i64 0), (.int .i64 0), .nils] [], none⟩,
       ⟨none, .store 3 (.t 4) (.t 15), none⟩,
       ⟨(some 5), .move (.c (.bool false)), none⟩])
     .ret)
    .skip))
  (.seq
   (.reg [⟨(some 16), .move (.t 0), none⟩,
     ⟨(some 17), .nilck (.t 16), none⟩,
     ⟨(some 18), .faddr 1 (.t 17), none⟩,
     ⟨(some 19), .load none (.t 18), none⟩,
     ⟨(some 20), .move (.t 1), none⟩,
     ⟨(some 21), .iaddr 5 (.t 19) (.t 20), none⟩,
     ⟨(some 22), .faddr 0 (.t 21), none⟩,
     ⟨(some 23), .load (some 3) (.t 22), none⟩,
     ⟨(some 24), .call 39 [(.t 23)], none⟩,
     ⟨none, .store 3 (.t 4) (.t 24), none⟩,
     ⟨(some 5), .move (.c (.bool true)), none⟩])
   .ret)))
theorem in16 {args : List AV} {σ : Store} {K : AV → Store → Prop} (hargs : args.length ≤ 25 := by simp) (h : AWP Try.prog Try.f16.ntmps c16 (fun e t s => match e with | .exit _ => False | _ => Res [.cell 4 (some 3), .slot 5] K t s) (env (argList 0 args)) σ) : ACalls Try.prog 16 args σ K :=
  enter (own := []) Try.func16 (by kernel_rfl) (by kernel_rfl) (by kernel_rfl) hargs h
/-- changeling/changelinglaw16.few -/
def c17 : ACode :=
(.seq
 (.reg [⟨(some 2), .move (.c (.bool false)), none⟩])
 (.seq
  (.seq
   (.reg [⟨(some 4), .move (.t 0), none⟩,
     ⟨(some 5), .len .slice (.t 4), none⟩,
     ⟨(some 6), .bin .int .gtr (.t 5) (.c (.int .i64 400)), none⟩])
   (.cond (.t 6)
    (.seq
     (.reg [⟨(some 2), .move (.c (.bool false)), none⟩])
     .ret)
    .skip))
  (.seq
   (.seq
    (.reg [⟨(some 3), .move (.c (.int .i64 0)), none⟩])
    (.block 0
     (.loop
      (.seq
       (.seq
        (.reg [⟨(some 7), .move (.t 3), none⟩,
          ⟨(some 8), .move (.t 0), none⟩,
          ⟨(some 9), .len .slice (.t 8), none⟩,
          ⟨(some 10), .bin .int .lss (.t 7) (.t 9), none⟩])
        (.cond (.t 10)
         .skip
         (.exit 0)))
       (.seq
        (.block 1
         (.seq
          (.reg [⟨(some 13), .move (.t 0), none⟩,
            ⟨(some 14), .move (.t 3), none⟩,
            ⟨(some 15), .iaddr 5 (.t 13) (.t 14), none⟩,
            ⟨(some 16), .faddr 2 (.t 15), none⟩,
            ⟨(some 17), .faddr 2 (.t 16), none⟩,
            ⟨(some 18), .load none (.t 17), none⟩,
            ⟨(some 19), .len .slice (.t 18), none⟩,
            ⟨(some 20), .bin .int .gtr (.t 19) (.c (.int .i64 20)), none⟩])
          (.cond (.t 20)
           (.seq
            (.reg [⟨(some 2), .move (.c (.bool false)), none⟩])
            .ret)
           .skip)))
        (.reg [⟨(some 11), .move (.t 3), none⟩,
          ⟨(some 12), .bin .int .add (.t 11) (.c (.int .i64 1)), none⟩,
          ⟨(some 3), .move (.t 12), none⟩]))))))
   (.seq
    (.reg [⟨(some 2), .move (.c (.bool true)), none⟩])
    .ret))))
theorem in17 {args : List AV} {σ : Store} {K : AV → Store → Prop} (hargs : args.length ≤ 21 := by simp) (h : AWP Try.prog Try.f17.ntmps c17 (fun e t s => match e with | .exit _ => False | _ => Res [.slot 2] K t s) (env (argList 0 args)) σ) : ACalls Try.prog 17 args σ K :=
  enter (own := []) Try.func17 (by kernel_rfl) (by kernel_rfl) (by kernel_rfl) hargs h
/-- changeling/changelingref16.Right -/
def c18 : ACode :=
(.seq
 (.reg [⟨(some 2), .move (.c (.bool false)), none⟩])
 (.seq
  (.reg [⟨(some 3), .move (.t 0), none⟩,
    ⟨(some 4), .bin .int .geq (.t 3) (.c (.int .i64 1)), none⟩,
    ⟨(some 5), .move (.t 4), none⟩,
    ⟨(some 6), .move (.t 0), some (5, true)⟩,
    ⟨(some 7), .bin .int .leq (.t 6) (.c (.int .i64 16777216)), some (5, true)⟩,
    ⟨(some 8), .pick (.t 5) (.t 7) (.c (.bool false)), none⟩,
    ⟨(some 2), .move (.t 8), none⟩])
  .ret))
theorem in18 {args : List AV} {σ : Store} {K : AV → Store → Prop} (hargs : args.length ≤ 9 := by simp) (h : AWP Try.prog Try.f18.ntmps c18 (fun e t s => match e with | .exit _ => False | _ => Res [.slot 2] K t s) (env (argList 0 args)) σ) : ACalls Try.prog 18 args σ K :=
  enter (own := []) Try.func18 (by kernel_rfl) (by kernel_rfl) (by kernel_rfl) hargs h
/-- changeling/changelinglaw16.played -/
def c19 : ACode :=
(.seq
 (.reg [⟨(some 4), .move (.c .nilp), none⟩])
 (.seq
  (.reg [⟨(some 9), .move (.t 0), none⟩,
    ⟨(some 10), .call 13 [(.t 9)], none⟩,
    ⟨(some 8), .move (.t 10), none⟩,
    ⟨(some 11), .extract (.t 8) 0, none⟩,
    ⟨(some 12), .extract (.t 8) 1, none⟩,
    ⟨(some 5), .move (.t 11), none⟩,
    ⟨(some 6), .move (.t 12), none⟩])
  (.seq
   (.seq
    (.reg [⟨(some 13), .move (.t 6), none⟩,
      ⟨(some 14), .bin .int .neq (.t 13) (.c (.int .i64 0)), none⟩,
      ⟨(some 15), .move (.t 14), none⟩,
      ⟨(some 16), .move (.t 5), some (15, false)⟩,
      ⟨(some 17), .nileq .ptr false (.t 16) (.c .nilp), some (15, false)⟩,
      ⟨(some 18), .pick (.t 15) (.c (.bool true)) (.t 17), none⟩])
    (.cond (.t 18)
     (.seq
      (.reg [⟨(some 4), .move (.c .nilp), none⟩])
      .ret)
     .skip))
   (.seq
    (.seq
     (.reg [⟨(some 7), .move (.c (.int .i64 0)), none⟩])
     (.block 0
      (.loop
       (.seq
        (.seq
         (.reg [⟨(some 19), .move (.t 7), none⟩,
           ⟨(some 20), .move (.t 1), none⟩,
           ⟨(some 21), .len .slice (.t 20), none⟩,
           ⟨(some 22), .bin .int .lss (.t 19) (.t 21), none⟩])
         (.cond (.t 22)
          .skip
          (.exit 0)))
        (.seq
         (.block 1
          (.seq
           (.reg [⟨(some 25), .move (.t 1), none⟩,
             ⟨(some 26), .move (.t 7), none⟩,
             ⟨(some 27), .iaddr 5 (.t 25) (.t 26), none⟩,
             ⟨(some 28), .faddr 0 (.t 27), none⟩,
             ⟨(some 29), .load none (.t 28), none⟩])
           (.block 2
            (.seq
             (.reg [⟨(some 31), .bin .int .eql (.t 29) (.c (.int .i64 1)), none⟩,
               ⟨(some 30), .move (.t 31), none⟩])
             (.cond (.t 30)
              (.reg [⟨(some 32), .move (.t 5), none⟩,
                ⟨(some 33), .move (.t 1), none⟩,
                ⟨(some 34), .move (.t 7), none⟩,
                ⟨(some 35), .iaddr 5 (.t 33) (.t 34), none⟩,
                ⟨(some 36), .faddr 2 (.t 35), none⟩,
                ⟨(some 37), .load (some 3) (.t 36), none⟩,
                ⟨(some 38), .call 14 [(.t 32), (.t 37)], none⟩])
              (.seq
               (.reg [⟨(some 40), .bin .int .eql (.t 29) (.c (.int .i64 2)), none⟩,
                 ⟨(some 39), .move (.t 40), none⟩])
               (.cond (.t 39)
                (.reg [⟨(some 41), .move (.t 5), none⟩,
                  ⟨(some 42), .move (.t 1), none⟩,
                  ⟨(some 43), .move (.t 7), none⟩,
                  ⟨(some 44), .iaddr 5 (.t 42) (.t 43), none⟩,
                  ⟨(some 45), .faddr 1 (.t 44), none⟩,
                  ⟨(some 46), .load none (.t 45), none⟩,
                  ⟨(some 47), .move (.t 1), none⟩,
                  ⟨(some 48), .move (.t 7), none⟩,
                  ⟨(some 49), .iaddr 5 (.t 47) (.t 48), none⟩,
                  ⟨(some 50), .faddr 2 (.t 49), none⟩,
                  ⟨(some 51), .load (some 3) (.t 50), none⟩,
                  ⟨(some 52), .call 27 [(.t 41), (.t 46), (.t 51)], none⟩])
                (.seq
                 (.reg [⟨(some 54), .bin .int .eql (.t 29) (.c (.int .i64 4)), none⟩,
                   ⟨(some 53), .move (.t 54), none⟩])
                 (.cond (.t 53)
                  (.reg [⟨(some 55), .move (.t 5), none⟩,
                    ⟨(some 56), .move (.t 1), none⟩,
                    ⟨(some 57), .move (.t 7), none⟩,
                    ⟨(some 58), .iaddr 5 (.t 56) (.t 57), none⟩,
                    ⟨(some 59), .faddr 2 (.t 58), none⟩,
                    ⟨(some 60), .faddr 2 (.t 59), none⟩,
                    ⟨(some 61), .load none (.t 60), none⟩,
                    ⟨(some 62), .call 15 [(.t 55), (.t 61)], none⟩])
                  .skip)))))))))
         (.reg [⟨(some 23), .move (.t 7), none⟩,
           ⟨(some 24), .bin .int .add (.t 23) (.c (.int .i64 1)), none⟩,
           ⟨(some 7), .move (.t 24), none⟩]))))))
    (.seq
     (.reg [⟨(some 63), .move (.t 5), none⟩,
       ⟨(some 4), .move (.t 63), none⟩])
     .ret)))))
theorem in19 {args : List AV} {σ : Store} {K : AV → Store → Prop} (hargs : args.length ≤ 64 := by simp) (h : AWP Try.prog Try.f19.ntmps c19 (fun e t s => match e with | .exit _ => False | _ => Res [.slot 4] K t s) (env (argList 0 args)) σ) : ACalls Try.prog 19 args σ K :=
  enter (own := []) Try.func19 (by kernel_rfl) (by kernel_rfl) (by kernel_rfl) hargs h
/-- changeling/changelinglaw16.step -/
def c20 : ACode :=
(.seq
 (.reg [⟨(some 4), .new 43 (.t 1), none⟩,
   ⟨(some 5), .new 47 (.t 2), none⟩,
   ⟨(some 6), .new 43 (.c (.agg [(.int .i64 0), .nils, (.int .i64 0)])), none⟩,
   ⟨(some 7), .move (.c (.bool false)), none⟩])
 (.seq
  (.seq
   (.reg [⟨(some 21), .faddr 0 (.t 5), none⟩,
     ⟨(some 22), .load none (.t 21), none⟩])
   (.block 0
    (.seq
     (.reg [⟨(some 24), .bin .int .eql (.t 22) (.c (.int .i64 1)), none⟩,
       ⟨(some 23), .move (.t 24), none⟩])
     (.cond (.t 23)
      (.seq
       (.reg [⟨(some 26), .move (.t 0), none⟩,
         ⟨(some 27), .faddr 2 (.t 5), none⟩,
         ⟨(some 28), .load (some 3) (.t 27), none⟩,
         ⟨(some 29), .call 14 [(.t 26), (.t 28)], none⟩,
         ⟨(some 25), .move (.t 29), none⟩,
         ⟨(some 30), .extract (.t 25) 0, none⟩,
         ⟨(some 31), .extract (.t 25) 1, none⟩,
         ⟨(some 8), .move (.t 30), none⟩,
         ⟨(some 9), .move (.t 31), none⟩])
       (.seq
        (.reg [⟨(some 33), .load (some 3) (.t 4), none⟩,
          ⟨(some 34), .faddr 2 (.t 5), none⟩,
          ⟨(some 35), .load (some 3) (.t 34), none⟩,
          ⟨(some 36), .call 43 [(.t 33), (.t 35)], none⟩,
          ⟨(some 32), .move (.t 36), none⟩,
          ⟨(some 37), .extract (.t 32) 0, none⟩,
          ⟨(some 38), .extract (.t 32) 1, none⟩,
          ⟨(some 39), .extract (.t 32) 2, none⟩,
          ⟨(some 10), .new 43 (.c (.agg [(.int .i64 0), .nils, (.int .i64 0)])), none⟩,
          ⟨none, .store 3 (.t 10) (.t 37), none⟩,
          ⟨(some 11), .move (.t 38), none⟩,
          ⟨(some 12), .move (.t 39), none⟩])
        (.seq
         (.draw [] [([⟨(some 40), .load (some 3) (.t 10), none⟩], []),
           ([⟨(some 41), .move (.t 8), none⟩], []),
           ([⟨(some 42), .move (.t 11), none⟩], []),
           ([⟨(some 43), .bin .int .eql (.t 41) (.t 42), none⟩], []),
           ([⟨(some 44), .move (.t 43), none⟩], []),
           ([⟨(some 45), .move (.t 9), some (44, true)⟩], []),
           ([⟨(some 46), .move (.t 12), some (44, true)⟩], []),
           ([⟨(some 47), .bin .int .eql (.t 45) (.t 46), some (44, true)⟩], []),
           ([⟨(some 48), .pick (.t 44) (.t 47) (.c (.bool false)), none⟩], []),
           ([⟨(some 49), .move (.t 48), none⟩], []),
           ([⟨(some 50), .move (.t 0), some (49, true)⟩], []),
           ([⟨(some 51), .load (some 3) (.t 10), some (49, true)⟩], []),
           ([⟨(some 52), .move (.t 8), some (49, true)⟩], []),
           ([⟨(some 53), .call 24 [(.t 50), (.t 51), (.t 52)], some (49, true)⟩], [⟨(some 40), .load (some 3) (.t 10), none⟩]),
           ([⟨(some 54), .pick (.t 49) (.t 53) (.c (.bool false)), none⟩], []),
           ([⟨none, .store 3 (.t 6) (.t 40), none⟩], []),
           ([⟨(some 7), .move (.t 54), none⟩], [])])
         .ret)))
      (.seq
       (.reg [⟨(some 56), .bin .int .eql (.t 22) (.c (.int .i64 2)), none⟩,
         ⟨(some 55), .move (.t 56), none⟩])
       (.cond (.t 55)
        (.seq
         (.reg [⟨(some 57), .move (.t 0), none⟩,
           ⟨(some 58), .faddr 1 (.t 5), none⟩,
           ⟨(some 59), .load none (.t 58), none⟩,
           ⟨(some 60), .faddr 2 (.t 5), none⟩,
           ⟨(some 61), .load (some 3) (.t 60), none⟩,
           ⟨(some 62), .call 27 [(.t 57), (.t 59), (.t 61)], none⟩,
           ⟨(some 13), .move (.t 62), none⟩])
         (.seq
          (.reg [⟨(some 64), .load (some 3) (.t 4), none⟩,
            ⟨(some 65), .faddr 1 (.t 5), none⟩,
            ⟨(some 66), .load none (.t 65), none⟩,
            ⟨(some 67), .faddr 2 (.t 5), none⟩,
            ⟨(some 68), .load (some 3) (.t 67), none⟩,
            ⟨(some 69), .call 44 [(.t 64), (.t 66), (.t 68)], none⟩,
            ⟨(some 63), .move (.t 69), none⟩,
            ⟨(some 70), .extract (.t 63) 0, none⟩,
            ⟨(some 71), .extract (.t 63) 1, none⟩,
            ⟨(some 14), .new 43 (.c (.agg [(.int .i64 0), .nils, (.int .i64 0)])), none⟩,
            ⟨none, .store 3 (.t 14) (.t 70), none⟩,
            ⟨(some 15), .move (.t 71), none⟩])
          (.seq
           (.draw [] [([⟨(some 72), .load (some 3) (.t 14), none⟩], []),
             ([⟨(some 73), .move (.t 13), none⟩], []),
             ([⟨(some 74), .move (.t 15), none⟩], []),
             ([⟨(some 75), .bin .int .eql (.t 73) (.t 74), none⟩], []),
             ([⟨(some 76), .move (.t 75), none⟩], []),
             ([⟨(some 77), .move (.t 0), some (76, true)⟩], []),
             ([⟨(some 78), .load (some 3) (.t 14), some (76, true)⟩], []),
             ([⟨(some 79), .faddr 1 (.t 5), some (76, true)⟩], []),
             ([⟨(some 80), .load none (.t 79), some (76, true)⟩], []),
             ([⟨(some 81), .call 24 [(.t 77), (.t 78), (.t 80)], some (76, true)⟩], [⟨(some 72), .load (some 3) (.t 14), none⟩]),
             ([⟨(some 82), .pick (.t 76) (.t 81) (.c (.bool false)), none⟩], []),
             ([⟨none, .store 3 (.t 6) (.t 72), none⟩], []),
             ([⟨(some 7), .move (.t 82), none⟩], [])])
           .ret)))
        (.seq
         (.reg [⟨(some 84), .bin .int .eql (.t 22) (.c (.int .i64 3)), none⟩,
           ⟨(some 83), .move (.t 84), none⟩])
         (.cond (.t 83)
          (.seq
           (.draw [] [([⟨(some 85), .load (some 3) (.t 4), none⟩], []),
             ([⟨(some 86), .move (.t 0), none⟩], []),
             ([⟨(some 87), .load (some 3) (.t 4), none⟩], []),
             ([⟨(some 88), .faddr 1 (.t 5), none⟩], []),
             ([⟨(some 89), .load none (.t 88), none⟩], []),
             ([⟨(some 90), .call 24 [(.t 86), (.t 87), (.t 89)], none⟩], [⟨(some 85), .load (some 3) (.t 4), none⟩]),
             ([⟨none, .store 3 (.t 6) (.t 85), none⟩], []),
             ([⟨(some 7), .move (.t 90), none⟩], [])])
           .ret)
          (.seq
           (.reg [⟨(some 92), .bin .int .eql (.t 22) (.c (.int .i64 4)), none⟩,
             ⟨(some 91), .move (.t 92), none⟩])
           (.cond (.t 91)
            (.seq
             (.reg [⟨(some 94), .move (.t 0), none⟩,
               ⟨(some 95), .faddr 2 (.t 5), none⟩,
               ⟨(some 96), .faddr 2 (.t 95), none⟩,
               ⟨(some 97), .load none (.t 96), none⟩,
               ⟨(some 98), .call 15 [(.t 94), (.t 97)], none⟩,
               ⟨(some 93), .move (.t 98), none⟩,
               ⟨(some 99), .extract (.t 93) 0, none⟩,
               ⟨(some 100), .extract (.t 93) 1, none⟩,
               ⟨(some 16), .move (.t 99), none⟩,
               ⟨(some 17), .move (.t 100), none⟩])
             (.seq
              (.reg [⟨(some 102), .load (some 3) (.t 4), none⟩,
                ⟨(some 103), .faddr 2 (.t 5), none⟩,
                ⟨(some 104), .faddr 2 (.t 103), none⟩,
                ⟨(some 105), .load none (.t 104), none⟩,
                ⟨(some 106), .call 45 [(.t 102), (.t 105)], none⟩,
                ⟨(some 101), .move (.t 106), none⟩,
                ⟨(some 107), .extract (.t 101) 0, none⟩,
                ⟨(some 108), .extract (.t 101) 1, none⟩,
                ⟨(some 109), .extract (.t 101) 2, none⟩,
                ⟨(some 18), .new 43 (.c (.agg [(.int .i64 0), .nils, (.int .i64 0)])), none⟩,
                ⟨none, .store 3 (.t 18) (.t 107), none⟩,
                ⟨(some 19), .move (.t 108), none⟩,
                ⟨(some 20), .move (.t 109), none⟩])
              (.seq
               (.reg [⟨(some 110), .load (some 3) (.t 18), none⟩,
                 ⟨(some 111), .move (.t 16), none⟩,
                 ⟨(some 112), .move (.t 19), none⟩,
                 ⟨(some 113), .bin .int .eql (.t 111) (.t 112), none⟩,
                 ⟨(some 114), .move (.t 113), none⟩,
                 ⟨(some 115), .move (.t 17), some (114, true)⟩,
                 ⟨(some 116), .move (.t 20), some (114, true)⟩,
                 ⟨(some 117), .bin .int .eql (.t 115) (.t 116), some (114, true)⟩,
                 ⟨(some 118), .pick (.t 114) (.t 117) (.c (.bool false)), none⟩,
                 ⟨none, .store 3 (.t 6) (.t 110), none⟩,
                 ⟨(some 7), .move (.t 118), none⟩])
               .ret)))
            .skip))))))))))
  (.seq
   (.reg [⟨(some 119), .load (some 3) (.t 4), none⟩,
     ⟨none, .store 3 (.t 6) (.t 119), none⟩,
     ⟨(some 7), .move (.c (.bool true)), none⟩])
   .ret)))
theorem in20 {args : List AV} {σ : Store} {K : AV → Store → Prop} (hargs : args.length ≤ 120 := by simp) (h : AWP Try.prog Try.f20.ntmps c20 (fun e t s => match e with | .exit _ => False | _ => Res [.cell 6 (some 3), .slot 7] K t s) (env (argList 0 args)) σ) : ACalls Try.prog 20 args σ K :=
  enter (own := []) Try.func20 (by kernel_rfl) (by kernel_rfl) (by kernel_rfl) hargs h
/-- (*changeling/heap.Heap).Live -/
def c21 : ACode :=
(.seq
 (.reg [⟨(some 2), .move (.c (.int .i64 0)), none⟩])
 (.seq
  (.seq
   (.reg [⟨(some 3), .move (.t 0), none⟩,
     ⟨(some 4), .call 37 [(.t 3)], none⟩,
     ⟨(some 5), .not (.t 4), none⟩])
   (.cond (.t 5)
    (.seq
     (.reg [⟨(some 2), .move (.c (.int .i64 0)), none⟩])
     .ret)
    .skip))
  (.seq
   (.reg [⟨(some 6), .move (.t 0), none⟩,
     ⟨(some 7), .nilck (.t 6), none⟩,
     ⟨(some 8), .faddr 3 (.t 7), none⟩,
     ⟨(some 9), .load none (.t 8), none⟩,
     ⟨(some 2), .move (.t 9), none⟩])
   .ret)))
theorem in21 {args : List AV} {σ : Store} {K : AV → Store → Prop} (hargs : args.length ≤ 10 := by simp) (h : AWP Try.prog Try.f21.ntmps c21 (fun e t s => match e with | .exit _ => False | _ => Res [.slot 2] K t s) (env (argList 0 args)) σ) : ACalls Try.prog 21 args σ K :=
  enter (own := []) Try.func21 (by kernel_rfl) (by kernel_rfl) (by kernel_rfl) hargs h
/-- (*changeling/heap.Heap).Cap -/
def c22 : ACode :=
(.seq
 (.reg [⟨(some 2), .move (.c (.int .i64 0)), none⟩])
 (.seq
  (.seq
   (.reg [⟨(some 3), .move (.t 0), none⟩,
     ⟨(some 4), .call 37 [(.t 3)], none⟩,
     ⟨(some 5), .not (.t 4), none⟩])
   (.cond (.t 5)
    (.seq
     (.reg [⟨(some 2), .move (.c (.int .i64 0)), none⟩])
     .ret)
    .skip))
  (.seq
   (.reg [⟨(some 6), .move (.t 0), none⟩,
     ⟨(some 7), .nilck (.t 6), none⟩,
     ⟨(some 8), .faddr 0 (.t 7), none⟩,
     ⟨(some 9), .load none (.t 8), none⟩,
     ⟨(some 2), .move (.t 9), none⟩])
   .ret)))
theorem in22 {args : List AV} {σ : Store} {K : AV → Store → Prop} (hargs : args.length ≤ 10 := by simp) (h : AWP Try.prog Try.f22.ntmps c22 (fun e t s => match e with | .exit _ => False | _ => Res [.slot 2] K t s) (env (argList 0 args)) σ) : ACalls Try.prog 22 args σ K :=
  enter (own := []) Try.func22 (by kernel_rfl) (by kernel_rfl) (by kernel_rfl) hargs h
/-- (*changeling/heap.Heap).Allocs -/
def c23 : ACode :=
(.seq
 (.reg [⟨(some 2), .move (.c (.int .i64 0)), none⟩])
 (.seq
  (.seq
   (.reg [⟨(some 3), .move (.t 0), none⟩,
     ⟨(some 4), .call 37 [(.t 3)], none⟩,
     ⟨(some 5), .not (.t 4), none⟩])
   (.cond (.t 5)
    (.seq
     (.reg [⟨(some 2), .move (.c (.int .i64 0)), none⟩])
     .ret)
    .skip))
  (.seq
   (.reg [⟨(some 6), .move (.t 0), none⟩,
     ⟨(some 7), .nilck (.t 6), none⟩,
     ⟨(some 8), .faddr 4 (.t 7), none⟩,
     ⟨(some 9), .load none (.t 8), none⟩,
     ⟨(some 2), .move (.t 9), none⟩])
   .ret)))
theorem in23 {args : List AV} {σ : Store} {K : AV → Store → Prop} (hargs : args.length ≤ 10 := by simp) (h : AWP Try.prog Try.f23.ntmps c23 (fun e t s => match e with | .exit _ => False | _ => Res [.slot 2] K t s) (env (argList 0 args)) σ) : ACalls Try.prog 23 args σ K :=
  enter (own := []) Try.func23 (by kernel_rfl) (by kernel_rfl) (by kernel_rfl) hargs h
/-- changeling/changelinglaw16.same -/
def c24 : ACode :=
(.seq
 (.reg [⟨(some 4), .new 43 (.t 1), none⟩,
   ⟨(some 6), .move (.c (.bool false)), none⟩])
 (.seq
  (.reg [⟨(some 12), .move (.t 0), none⟩,
    ⟨(some 13), .move (.t 2), none⟩,
    ⟨(some 14), .call 16 [(.t 12), (.t 13)], none⟩,
    ⟨(some 11), .move (.t 14), none⟩,
    ⟨(some 15), .extract (.t 11) 0, none⟩,
    ⟨(some 16), .extract (.t 11) 1, none⟩,
    ⟨(some 7), .new 31 (.c (.agg [(.int .i64 0), (.int .i64 0), .nils])), none⟩,
    ⟨none, .store 3 (.t 7) (.t 15), none⟩,
    ⟨(some 8), .move (.t 16), none⟩])
  (.seq
   (.reg [⟨(some 18), .load (some 3) (.t 4), none⟩,
     ⟨(some 19), .move (.t 2), none⟩,
     ⟨(some 20), .call 46 [(.t 18), (.t 19)], none⟩,
     ⟨(some 17), .move (.t 20), none⟩,
     ⟨(some 21), .extract (.t 17) 0, none⟩,
     ⟨(some 22), .extract (.t 17) 1, none⟩,
     ⟨(some 9), .new 31 (.c (.agg [(.int .i64 0), (.int .i64 0), .nils])), none⟩,
     ⟨none, .store 3 (.t 9) (.t 21), none⟩,
     ⟨(some 10), .move (.t 22), none⟩])
   (.seq
    (.reg [⟨(some 23), .move (.t 8), none⟩,
      ⟨(some 24), .move (.t 10), none⟩,
      ⟨(some 25), .bin .bool .eql (.t 23) (.t 24), none⟩,
      ⟨(some 26), .move (.t 25), none⟩,
      ⟨(some 27), .load (some 3) (.t 7), some (26, true)⟩,
      ⟨(some 28), .load (some 3) (.t 9), some (26, true)⟩,
      ⟨(some 29), .call 26 [(.t 27), (.t 28)], some (26, true)⟩,
      ⟨(some 30), .pick (.t 26) (.t 29) (.c (.bool false)), none⟩,
      ⟨(some 6), .move (.t 30), none⟩])
    .ret))))
theorem in24 {args : List AV} {σ : Store} {K : AV → Store → Prop} (hargs : args.length ≤ 31 := by simp) (h : AWP Try.prog Try.f24.ntmps c24 (fun e t s => match e with | .exit _ => False | _ => Res [.slot 6] K t s) (env (argList 0 args)) σ) : ACalls Try.prog 24 args σ K :=
  enter (own := []) Try.func24 (by kernel_rfl) (by kernel_rfl) (by kernel_rfl) hargs h
/-- changeling/changelinglaw16.reached -/
def c25 : ACode :=
(.seq
 (.reg [⟨(some 4), .move (.c .nils), none⟩])
 (.seq
  (.reg [⟨(some 12), .move (.t 1), none⟩,
    ⟨(some 13), .lit true 3 1 [(.t 12)], none⟩,
    ⟨(some 5), .move (.t 13), none⟩])
  (.seq
   (.seq
    (.reg [⟨(some 6), .move (.c (.int .i64 0)), none⟩])
    (.block 0
     (.loop
      (.seq
       (.seq
        (.reg [⟨(some 14), .move (.t 6), none⟩,
          ⟨(some 15), .move (.t 5), none⟩,
          ⟨(some 16), .len .slice (.t 15), none⟩,
          ⟨(some 17), .bin .int .lss (.t 14) (.t 16), none⟩,
          ⟨(some 18), .move (.t 17), none⟩,
          ⟨(some 19), .move (.t 5), some (18, true)⟩,
          ⟨(some 20), .len .slice (.t 19), some (18, true)⟩,
          ⟨(some 21), .bin .int .lss (.t 20) (.c (.int .i64 2000)), some (18, true)⟩,
          ⟨(some 22), .pick (.t 18) (.t 21) (.c (.bool false)), none⟩])
        (.cond (.t 22)
         .skip
         (.exit 0)))
       (.seq
        (.block 1
         (.seq
          (.reg [⟨(some 26), .move (.t 0), none⟩,
            ⟨(some 27), .move (.t 5), none⟩,
            ⟨(some 28), .move (.t 6), none⟩,
            ⟨(some 29), .iaddr 1 (.t 27) (.t 28), none⟩,
            ⟨(some 30), .load none (.t 29), none⟩,
            ⟨(some 31), .call 16 [(.t 26), (.t 30)], none⟩,
            ⟨(some 25), .move (.t 31), none⟩,
            ⟨(some 32), .extract (.t 25) 0, none⟩,
            ⟨(some 33), .extract (.t 25) 1, none⟩,
            ⟨(some 7), .new 31 (.c (.agg [(.int .i64 0), (.int .i64 0), .nils])), none⟩,
            ⟨none, .store 3 (.t 7) (.t 32), none⟩,
            ⟨(some 8), .move (.t 33), none⟩])
          (.seq
           (.reg [⟨(some 9), .move (.c (.int .i64 0)), none⟩])
           (.block 2
            (.loop
             (.seq
              (.seq
               (.reg [⟨(some 34), .move (.t 9), none⟩,
                 ⟨(some 35), .faddr 2 (.t 7), none⟩,
                 ⟨(some 36), .load none (.t 35), none⟩,
                 ⟨(some 37), .len .slice (.t 36), none⟩,
                 ⟨(some 38), .bin .int .lss (.t 34) (.t 37), none⟩])
               (.cond (.t 38)
                .skip
                (.exit 2)))
              (.seq
               (.block 3
                (.seq
                 (.reg [⟨(some 10), .move (.c (.bool false)), none⟩])
                 (.seq
                  (.seq
                   (.reg [⟨(some 11), .move (.c (.int .i64 0)), none⟩])
                   (.block 4
                    (.loop
                     (.seq
                      (.seq
                       (.reg [⟨(some 41), .move (.t 11), none⟩,
                         ⟨(some 42), .move (.t 5), none⟩,
                         ⟨(some 43), .len .slice (.t 42), none⟩,
                         ⟨(some 44), .bin .int .lss (.t 41) (.t 43), none⟩])
                       (.cond (.t 44)
                        .skip
                        (.exit 4)))
                      (.seq
                       (.block 5
                        (.reg [⟨(some 47), .move (.t 10), none⟩,
                          ⟨(some 48), .move (.t 47), none⟩,
                          ⟨(some 49), .move (.t 5), some (48, false)⟩,
                          ⟨(some 50), .move (.t 11), some (48, false)⟩,
                          ⟨(some 51), .iaddr 1 (.t 49) (.t 50), some (48, false)⟩,
                          ⟨(some 52), .load none (.t 51), some (48, false)⟩,
                          ⟨(some 53), .faddr 2 (.t 7), some (48, false)⟩,
                          ⟨(some 54), .load none (.t 53), some (48, false)⟩,
                          ⟨(some 55), .move (.t 9), some (48, false)⟩,
                          ⟨(some 56), .iaddr 1 (.t 54) (.t 55), some (48, false)⟩,
                          ⟨(some 57), .load none (.t 56), some (48, false)⟩,
                          ⟨(some 58), .bin .int .eql (.t 52) (.t 57), some (48, false)⟩,
                          ⟨(some 59), .pick (.t 48) (.c (.bool true)) (.t 58), none⟩,
                          ⟨(some 10), .move (.t 59), none⟩]))
                       (.reg [⟨(some 45), .move (.t 11), none⟩,
                         ⟨(some 46), .bin .int .add (.t 45) (.c (.int .i64 1)), none⟩,
                         ⟨(some 11), .move (.t 46), none⟩]))))))
                  (.seq
                   (.reg [⟨(some 60), .move (.t 10), none⟩,
                     ⟨(some 61), .not (.t 60), none⟩])
                   (.cond (.t 61)
                    (.reg [⟨(some 62), .move (.t 5), none⟩,
                      ⟨(some 63), .faddr 2 (.t 7), none⟩,
                      ⟨(some 64), .load none (.t 63), none⟩,
                      ⟨(some 65), .move (.t 9), none⟩,
                      ⟨(some 66), .iaddr 1 (.t 64) (.t 65), none⟩,
                      ⟨(some 67), .load none (.t 66), none⟩,
                      ⟨(some 68), .lit false 3 1 [(.t 67)], none⟩,
                      ⟨(some 69), .append 3 1 8 (.t 62) (.t 68), none⟩,
                      ⟨(some 5), .move (.t 69), none⟩])
                    .skip)))))
               (.reg [⟨(some 39), .move (.t 9), none⟩,
                 ⟨(some 40), .bin .int .add (.t 39) (.c (.int .i64 1)), none⟩,
                 ⟨(some 9), .move (.t 40), none⟩]))))))))
        (.reg [⟨(some 23), .move (.t 6), none⟩,
          ⟨(some 24), .bin .int .add (.t 23) (.c (.int .i64 1)), none⟩,
          ⟨(some 6), .move (.t 24), none⟩]))))))
   (.seq
    (.reg [⟨(some 70), .move (.t 5), none⟩,
      ⟨(some 4), .move (.t 70), none⟩])
    .ret))))
theorem in25 {args : List AV} {σ : Store} {K : AV → Store → Prop} (hargs : args.length ≤ 71 := by simp) (h : AWP Try.prog Try.f25.ntmps c25 (fun e t s => match e with | .exit _ => False | _ => Res [.slot 4] K t s) (env (argList 0 args)) σ) : ACalls Try.prog 25 args σ K :=
  enter (own := [13]) Try.func25 (by kernel_rfl) (by kernel_rfl) (by kernel_rfl) hargs h
/-- changeling/changelingref16.Same -/
def c26 : ACode :=
(.seq
 (.reg [⟨(some 2), .new 31 (.t 0), none⟩,
   ⟨(some 3), .new 31 (.t 1), none⟩,
   ⟨(some 4), .move (.c (.bool false)), none⟩])
 (.seq
  (.reg [⟨(some 5), .faddr 0 (.t 2), none⟩,
    ⟨(some 6), .load none (.t 5), none⟩,
    ⟨(some 7), .faddr 0 (.t 3), none⟩,
    ⟨(some 8), .load none (.t 7), none⟩,
    ⟨(some 9), .bin .int .eql (.t 6) (.t 8), none⟩,
    ⟨(some 10), .move (.t 9), none⟩,
    ⟨(some 11), .faddr 1 (.t 2), some (10, true)⟩,
    ⟨(some 12), .load none (.t 11), some (10, true)⟩,
    ⟨(some 13), .faddr 1 (.t 3), some (10, true)⟩,
    ⟨(some 14), .load none (.t 13), some (10, true)⟩,
    ⟨(some 15), .bin .int .eql (.t 12) (.t 14), some (10, true)⟩,
    ⟨(some 16), .pick (.t 10) (.t 15) (.c (.bool false)), none⟩,
    ⟨(some 17), .move (.t 16), none⟩,
    ⟨(some 18), .faddr 2 (.t 2), some (17, true)⟩,
    ⟨(some 19), .load none (.t 18), some (17, true)⟩,
    ⟨(some 20), .faddr 2 (.t 3), some (17, true)⟩,
    ⟨(some 21), .load none (.t 20), some (17, true)⟩,
    ⟨(some 22), .call 47 [(.t 19), (.t 21)], some (17, true)⟩,
    ⟨(some 23), .pick (.t 17) (.t 22) (.c (.bool false)), none⟩,
    ⟨(some 4), .move (.t 23), none⟩])
  .ret))
theorem in26 {args : List AV} {σ : Store} {K : AV → Store → Prop} (hargs : args.length ≤ 24 := by simp) (h : AWP Try.prog Try.f26.ntmps c26 (fun e t s => match e with | .exit _ => False | _ => Res [.slot 4] K t s) (env (argList 0 args)) σ) : ACalls Try.prog 26 args σ K :=
  enter (own := []) Try.func26 (by kernel_rfl) (by kernel_rfl) (by kernel_rfl) hargs h
/-- (*changeling/heap.Heap).Set -/
def c27 : ACode :=
(.seq
 (.reg [⟨(some 5), .new 31 (.t 2), none⟩,
   ⟨(some 6), .move (.c (.int .i64 0)), none⟩])
 (.seq
  (.block 0
   (.seq
    (.reg [⟨(some 8), .move (.t 0), none⟩,
      ⟨(some 9), .call 37 [(.t 8)], none⟩,
      ⟨(some 10), .not (.t 9), none⟩,
      ⟨(some 7), .move (.t 10), none⟩])
    (.cond (.t 7)
     (.seq
      (.reg [⟨(some 6), .move (.c (.int .i64 3)), none⟩])
      .ret)
     (.seq
      (.reg [⟨(some 12), .move (.t 0), none⟩,
        ⟨(some 13), .move (.t 1), none⟩,
        ⟨(some 14), .call 42 [(.t 12), (.t 13)], none⟩,
        ⟨(some 15), .not (.t 14), none⟩,
        ⟨(some 16), .move (.t 15), none⟩,
        ⟨(some 17), .move (.t 0), some (16, false)⟩,
        ⟨(some 18), .faddr 2 (.t 5), some (16, false)⟩,
        ⟨(some 19), .load none (.t 18), some (16, false)⟩,
        ⟨(some 20), .call 38 [(.t 17), (.t 19)], some (16, false)⟩,
        ⟨(some 21), .not (.t 20), some (16, false)⟩,
        ⟨(some 22), .pick (.t 16) (.c (.bool true)) (.t 21), none⟩,
        ⟨(some 11), .move (.t 22), none⟩])
      (.cond (.t 11)
       (.seq
        (.reg [⟨(some 6), .move (.c (.int .i64 161)), none⟩])
        .ret)
       .skip)))))
  (.seq
   (.draw [] [([⟨(some 23), .move (.t 0), none⟩], []),
     ([⟨(some 24), .nilck (.t 23), none⟩], []),
     ([⟨(some 25), .faddr 1 (.t 24), none⟩], []),
     ([⟨(some 26), .load none (.t 25), none⟩], []),
     ([⟨(some 27), .move (.t 1), none⟩], []),
     ([⟨(some 28), .load (some 3) (.t 5), none⟩], []),
     ([⟨(some 29), .call 39 [(.t 28)], none⟩], [⟨(some 25), .faddr 1 (.t 24), none⟩, ⟨(some 26), .load none (.t 25), none⟩]),
     ([⟨(some 30), .iaddr 5 (.t 26) (.t 27), none⟩], []),
     ([⟨(some 31), .faddr 0 (.t 30), none⟩], []),
     ([⟨none, .store 3 (.t 31) (.t 29), none⟩], [])])
   (.seq
    (.reg [⟨(some 6), .move (.c (.int .i64 0)), none⟩])
    .ret))))
theorem in27 {args : List AV} {σ : Store} {K : AV → Store → Prop} (hargs : args.length ≤ 32 := by simp) (h : AWP Try.prog Try.f27.ntmps c27 (fun e t s => match e with | .exit _ => False | _ => Res [.slot 6] K t s) (env (argList 0 args)) σ) : ACalls Try.prog 27 args σ K :=
  enter (own := []) Try.func27 (by kernel_rfl) (by kernel_rfl) (by kernel_rfl) hargs h
/-- (*changeling/heap.Heap).made -/
def c37 : ACode :=
(.seq
 (.reg [⟨(some 2), .move (.c (.bool false)), none⟩])
 (.seq
  (.reg [⟨(some 3), .move (.t 0), none⟩,
    ⟨(some 4), .nileq .ptr true (.t 3) (.c .nilp), none⟩,
    ⟨(some 5), .move (.t 4), none⟩,
    ⟨(some 6), .move (.t 0), some (5, true)⟩,
    ⟨(some 7), .nilck (.t 6), some (5, true)⟩,
    ⟨(some 8), .faddr 0 (.t 7), some (5, true)⟩,
    ⟨(some 9), .load none (.t 8), some (5, true)⟩,
    ⟨(some 10), .bin .int .gtr (.t 9) (.c (.int .i64 0)), some (5, true)⟩,
    ⟨(some 11), .pick (.t 5) (.t 10) (.c (.bool false)), none⟩,
    ⟨(some 2), .move (.t 11), none⟩])
  .ret))
theorem in37 {args : List AV} {σ : Store} {K : AV → Store → Prop} (hargs : args.length ≤ 12 := by simp) (h : AWP Try.prog Try.f37.ntmps c37 (fun e t s => match e with | .exit _ => False | _ => Res [.slot 2] K t s) (env (argList 0 args)) σ) : ACalls Try.prog 37 args σ K :=
  enter (own := []) Try.func37 (by kernel_rfl) (by kernel_rfl) (by kernel_rfl) hargs h
/-- (*changeling/heap.Heap).all -/
def c38 : ACode :=
(.seq
 (.reg [⟨(some 4), .move (.c (.bool false)), none⟩])
 (.seq
  (.seq
   (.reg [⟨(some 7), .move (.t 1), none⟩,
     ⟨(some 8), .len .slice (.t 7), none⟩,
     ⟨(some 9), .move (.c (.int .i64 0)), none⟩])
   (.block 0
    (.loop
     (.seq
      (.reg [⟨(some 10), .bin .int .lss (.t 9) (.t 8), none⟩])
      (.seq
       (.cond (.t 10)
        .skip
        (.exit 0))
       (.seq
        (.block 1
         (.seq
          (.reg [⟨(some 11), .iaddr 1 (.t 7) (.t 9), none⟩,
            ⟨(some 12), .load none (.t 11), none⟩,
            ⟨(some 6), .move (.t 12), none⟩])
          (.seq
           (.reg [⟨(some 13), .move (.t 0), none⟩,
             ⟨(some 14), .move (.t 6), none⟩,
             ⟨(some 15), .call 42 [(.t 13), (.t 14)], none⟩,
             ⟨(some 16), .not (.t 15), none⟩])
           (.cond (.t 16)
            (.seq
             (.reg [⟨(some 4), .move (.c (.bool false)), none⟩])
             .ret)
            .skip))))
        (.reg [⟨(some 17), .bin .int .add (.t 9) (.c (.int .i64 1)), none⟩,
          ⟨(some 9), .move (.t 17), none⟩])))))))
  (.seq
   (.reg [⟨(some 4), .move (.c (.bool true)), none⟩])
   .ret)))
theorem in38 {args : List AV} {σ : Store} {K : AV → Store → Prop} (hargs : args.length ≤ 18 := by simp) (h : AWP Try.prog Try.f38.ntmps c38 (fun e t s => match e with | .exit _ => False | _ => Res [.slot 4] K t s) (env (argList 0 args)) σ) : ACalls Try.prog 38 args σ K :=
  enter (own := []) Try.func38 (by kernel_rfl) (by kernel_rfl) (by kernel_rfl) hargs h
/-- changeling/heap.own -/
def c39 : ACode :=
(.seq
 (.reg [⟨(some 1), .new 31 (.t 0), none⟩,
   ⟨(some 2), .new 31 (.c (.agg [(.int .i64 0), (.int .i64 0), .nils])), none⟩])
 (.seq
  (.reg [⟨(some 3), .move (.c .nils), none⟩])
  (.seq
   (.reg [⟨(some 4), .move (.t 3), none⟩,
     ⟨(some 5), .faddr 2 (.t 1), none⟩,
     ⟨(some 6), .load none (.t 5), none⟩,
     ⟨(some 7), .append 3 1 8 (.t 4) (.t 6), none⟩,
     ⟨(some 3), .move (.t 7), none⟩])
   (.seq
    (.reg [⟨(some 8), .move (.t 3), none⟩,
      ⟨(some 9), .faddr 2 (.t 1), none⟩,
      ⟨none, .store 1 (.t 9) (.t 8), none⟩])
    (.seq
     (.reg [⟨(some 10), .load (some 3) (.t 1), none⟩,
       ⟨none, .store 3 (.t 2) (.t 10), none⟩])
     .ret)))))
theorem in39 {args : List AV} {σ : Store} {K : AV → Store → Prop} (hargs : args.length ≤ 11 := by simp) (h : AWP Try.prog Try.f39.ntmps c39 (fun e t s => match e with | .exit _ => False | _ => Res [.cell 2 (some 3)] K t s) (env (argList 0 args)) σ) : ACalls Try.prog 39 args σ K :=
  enter (own := []) Try.func39 (by kernel_rfl) (by kernel_rfl) (by kernel_rfl) hargs h
/-- (*changeling/heap.Heap).mark -/
def c40 : ACode :=
(.scope
 (.seq
  (.reg [⟨(some 4), .move (.c .nils), none⟩])
  (.seq
   (.reg [⟨(some 8), .move (.t 4), none⟩,
     ⟨(some 9), .move (.t 1), none⟩,
     ⟨(some 10), .append 3 1 8 (.t 8) (.t 9), none⟩,
     ⟨(some 4), .move (.t 10), none⟩])
   (.seq
    .skip
    (.block 0
     (.loop
      (.seq
       (.seq
        (.reg [⟨(some 11), .move (.t 4), none⟩,
          ⟨(some 12), .len .slice (.t 11), none⟩,
          ⟨(some 13), .bin .int .gtr (.t 12) (.c (.int .i64 0)), none⟩])
        (.cond (.t 13)
         .skip
         (.exit 0)))
       (.block 1
        (.seq
         (.reg [⟨(some 14), .move (.t 4), none⟩,
           ⟨(some 15), .move (.t 4), none⟩,
           ⟨(some 16), .len .slice (.t 15), none⟩,
           ⟨(some 17), .bin .int .sub (.t 16) (.c (.int .i64 1)), none⟩,
           ⟨(some 18), .iaddr 1 (.t 14) (.t 17), none⟩,
           ⟨(some 19), .load none (.t 18), none⟩,
           ⟨(some 5), .move (.t 19), none⟩])
         (.seq
          (.reg [⟨(some 20), .move (.t 4), none⟩,
            ⟨(some 21), .move (.t 4), none⟩,
            ⟨(some 22), .len .slice (.t 21), none⟩,
            ⟨(some 23), .bin .int .sub (.t 22) (.c (.int .i64 1)), none⟩,
            ⟨(some 24), .cut .slice 1 (.t 20) none (some (.t 23)), none⟩,
            ⟨(some 4), .move (.t 24), none⟩])
          (.seq
           (.seq
            (.reg [⟨(some 25), .move (.t 0), none⟩,
              ⟨(some 26), .nilck (.t 25), none⟩,
              ⟨(some 27), .faddr 1 (.t 26), none⟩,
              ⟨(some 28), .load none (.t 27), none⟩,
              ⟨(some 29), .move (.t 5), none⟩,
              ⟨(some 30), .iaddr 5 (.t 28) (.t 29), none⟩,
              ⟨(some 31), .faddr 4 (.t 30), none⟩,
              ⟨(some 32), .load none (.t 31), none⟩])
            (.cond (.t 32)
             (.exit 1)
             .skip))
           (.seq
            (.reg [⟨(some 33), .move (.t 0), none⟩,
              ⟨(some 34), .nilck (.t 33), none⟩,
              ⟨(some 35), .faddr 1 (.t 34), none⟩,
              ⟨(some 36), .load none (.t 35), none⟩,
              ⟨(some 37), .move (.t 5), none⟩,
              ⟨(some 38), .iaddr 5 (.t 36) (.t 37), none⟩,
              ⟨(some 39), .faddr 4 (.t 38), none⟩,
              ⟨none, .store 1 (.t 39) (.c (.bool true)), none⟩])
            (.seq
             (.reg [⟨(some 40), .move (.t 0), none⟩,
               ⟨(some 41), .nilck (.t 40), none⟩,
               ⟨(some 42), .faddr 1 (.t 41), none⟩,
               ⟨(some 43), .load none (.t 42), none⟩,
               ⟨(some 44), .move (.t 5), none⟩,
               ⟨(some 45), .iaddr 5 (.t 43) (.t 44), none⟩,
               ⟨(some 46), .faddr 0 (.t 45), none⟩,
               ⟨(some 47), .faddr 2 (.t 46), none⟩,
               ⟨(some 48), .load none (.t 47), none⟩,
               ⟨(some 49), .len .slice (.t 48), none⟩,
               ⟨(some 50), .move (.c (.int .i64 0)), none⟩])
             (.block 2
              (.loop
               (.seq
                (.reg [⟨(some 51), .bin .int .lss (.t 50) (.t 49), none⟩])
                (.seq
                 (.cond (.t 51)
                  .skip
                  (.exit 2))
                 (.seq
                  (.block 3
                   (.seq
                    (.reg [⟨(some 52), .iaddr 1 (.t 48) (.t 50), none⟩,
                      ⟨(some 53), .load none (.t 52), none⟩,
                      ⟨(some 7), .move (.t 53), none⟩])
                    (.seq
                     (.reg [⟨(some 54), .move (.t 0), none⟩,
                       ⟨(some 55), .nilck (.t 54), none⟩,
                       ⟨(some 56), .faddr 1 (.t 55), none⟩,
                       ⟨(some 57), .load none (.t 56), none⟩,
                       ⟨(some 58), .move (.t 7), none⟩,
                       ⟨(some 59), .iaddr 5 (.t 57) (.t 58), none⟩,
                       ⟨(some 60), .faddr 4 (.t 59), none⟩,
                       ⟨(some 61), .load none (.t 60), none⟩,
                       ⟨(some 62), .not (.t 61), none⟩])
                     (.cond (.t 62)
                      (.reg [⟨(some 63), .move (.t 4), none⟩,
                        ⟨(some 64), .move (.t 7), none⟩,
                        ⟨(some 65), .lit false 3 1 [(.t 64)], none⟩,
                        ⟨(some 66), .append 3 1 8 (.t 63) (.t 65), none⟩,
                        ⟨(some 4), .move (.t 66), none⟩])
                      .skip))))
                  (.reg [⟨(some 67), .bin .int .add (.t 50) (.c (.int .i64 1)), none⟩,
                    ⟨(some 50), .move (.t 67), none⟩])))))))))))))))))))
theorem in40 {args : List AV} {σ : Store} {K : AV → Store → Prop} (hargs : args.length ≤ 68 := by simp) (h : AWP Try.prog Try.f40.ntmps c40 (fun e t s => match e with | .exit _ => False | _ => Res [] K t s) (env (argList 0 args)) σ) : ACalls Try.prog 40 args σ K :=
  enter (own := []) Try.func40 (by kernel_rfl) (by kernel_rfl) (by kernel_rfl) hargs h
/-- (*changeling/heap.Heap).sweep -/
def c41 : ACode :=
(.seq
 (.reg [⟨(some 2), .move (.c (.int .i64 0)), none⟩])
 (.seq
  (.reg [⟨(some 3), .move (.c (.int .i64 0)), none⟩])
  (.seq
   (.reg [⟨(some 4), .move (.c .nils), none⟩])
   (.seq
    (.seq
     (.reg [⟨(some 7), .move (.t 0), none⟩,
       ⟨(some 8), .nilck (.t 7), none⟩,
       ⟨(some 9), .faddr 1 (.t 8), none⟩,
       ⟨(some 10), .load none (.t 9), none⟩,
       ⟨(some 11), .len .slice (.t 10), none⟩,
       ⟨(some 12), .bin .int .sub (.t 11) (.c (.int .i64 1)), none⟩,
       ⟨(some 5), .move (.t 12), none⟩])
     (.block 0
      (.loop
       (.seq
        (.seq
         (.reg [⟨(some 13), .move (.t 5), none⟩,
           ⟨(some 14), .bin .int .geq (.t 13) (.c (.int .i64 0)), none⟩])
         (.cond (.t 14)
          .skip
          (.exit 0)))
        (.seq
         (.block 1
          (.seq
           (.reg [⟨(some 17), .move (.t 0), none⟩,
             ⟨(some 18), .nilck (.t 17), none⟩,
             ⟨(some 19), .faddr 1 (.t 18), none⟩,
             ⟨(some 20), .load none (.t 19), none⟩,
             ⟨(some 21), .move (.t 5), none⟩,
             ⟨(some 22), .iaddr 5 (.t 20) (.t 21), none⟩,
             ⟨(some 6), .move (.t 22), none⟩])
           (.seq
            (.seq
             (.reg [⟨(some 23), .move (.t 6), none⟩,
               ⟨(some 24), .nilck (.t 23), none⟩,
               ⟨(some 25), .faddr 3 (.t 24), none⟩,
               ⟨(some 26), .load none (.t 25), none⟩,
               ⟨(some 27), .move (.t 26), none⟩,
               ⟨(some 28), .move (.t 6), some (27, true)⟩,
               ⟨(some 29), .nilck (.t 28), some (27, true)⟩,
               ⟨(some 30), .faddr 4 (.t 29), some (27, true)⟩,
               ⟨(some 31), .load none (.t 30), some (27, true)⟩,
               ⟨(some 32), .not (.t 31), some (27, true)⟩,
               ⟨(some 33), .pick (.t 27) (.t 32) (.c (.bool false)), none⟩])
             (.cond (.t 33)
              (.seq
               (.reg [⟨(some 34), .move (.t 6), none⟩,
                 ⟨(some 35), .build [(.int .i64 0), (.int .i64 0), .nils, (.bool false), (.bool false)] [], none⟩,
                 ⟨(some 36), .nilck (.t 34), none⟩,
                 ⟨none, .store 5 (.t 36) (.t 35), none⟩])
               (.reg [⟨(some 37), .move (.t 3), none⟩,
                 ⟨(some 38), .bin .int .add (.t 37) (.c (.int .i64 1)), none⟩,
                 ⟨(some 3), .move (.t 38), none⟩]))
              .skip))
            (.seq
             (.reg [⟨(some 39), .move (.t 6), none⟩,
               ⟨(some 40), .nilck (.t 39), none⟩,
               ⟨(some 41), .faddr 4 (.t 40), none⟩,
               ⟨none, .store 1 (.t 41) (.c (.bool false)), none⟩])
             (.seq
              (.reg [⟨(some 42), .move (.t 6), none⟩,
                ⟨(some 43), .nilck (.t 42), none⟩,
                ⟨(some 44), .faddr 3 (.t 43), none⟩,
                ⟨(some 45), .load none (.t 44), none⟩,
                ⟨(some 46), .not (.t 45), none⟩])
              (.cond (.t 46)
               (.reg [⟨(some 47), .move (.t 4), none⟩,
                 ⟨(some 48), .move (.t 5), none⟩,
                 ⟨(some 49), .lit false 3 1 [(.t 48)], none⟩,
                 ⟨(some 50), .append 3 1 8 (.t 47) (.t 49), none⟩,
                 ⟨(some 4), .move (.t 50), none⟩])
               .skip))))))
         (.reg [⟨(some 15), .move (.t 5), none⟩,
           ⟨(some 16), .bin .int .sub (.t 15) (.c (.int .i64 1)), none⟩,
           ⟨(some 5), .move (.t 16), none⟩]))))))
    (.seq
     (.reg [⟨(some 51), .move (.t 0), none⟩,
       ⟨(some 52), .move (.t 4), none⟩,
       ⟨(some 53), .nilck (.t 51), none⟩,
       ⟨(some 54), .faddr 2 (.t 53), none⟩,
       ⟨none, .store 1 (.t 54) (.t 52), none⟩])
     (.seq
      (.reg [⟨(some 55), .move (.t 0), none⟩,
        ⟨(some 56), .nilck (.t 55), none⟩,
        ⟨(some 57), .faddr 3 (.t 56), none⟩,
        ⟨(some 58), .load none (.t 57), none⟩,
        ⟨(some 59), .move (.t 3), none⟩,
        ⟨(some 60), .bin .int .sub (.t 58) (.t 59), none⟩,
        ⟨(some 61), .nilck (.t 55), none⟩,
        ⟨(some 62), .faddr 3 (.t 61), none⟩,
        ⟨none, .store 1 (.t 62) (.t 60), none⟩])
      (.seq
       (.reg [⟨(some 63), .move (.t 3), none⟩,
         ⟨(some 2), .move (.t 63), none⟩])
       .ret)))))))
theorem in41 {args : List AV} {σ : Store} {K : AV → Store → Prop} (hargs : args.length ≤ 64 := by simp) (h : AWP Try.prog Try.f41.ntmps c41 (fun e t s => match e with | .exit _ => False | _ => Res [.slot 2] K t s) (env (argList 0 args)) σ) : ACalls Try.prog 41 args σ K :=
  enter (own := []) Try.func41 (by kernel_rfl) (by kernel_rfl) (by kernel_rfl) hargs h
/-- (*changeling/heap.Heap).has -/
def c42 : ACode :=
(.seq
 (.reg [⟨(some 4), .move (.c (.bool false)), none⟩])
 (.seq
  (.reg [⟨(some 5), .move (.t 1), none⟩,
    ⟨(some 6), .bin .int .geq (.t 5) (.c (.int .i64 0)), none⟩,
    ⟨(some 7), .move (.t 6), none⟩,
    ⟨(some 8), .move (.t 1), some (7, true)⟩,
    ⟨(some 9), .move (.t 0), some (7, true)⟩,
    ⟨(some 10), .nilck (.t 9), some (7, true)⟩,
    ⟨(some 11), .faddr 1 (.t 10), some (7, true)⟩,
    ⟨(some 12), .load none (.t 11), some (7, true)⟩,
    ⟨(some 13), .len .slice (.t 12), some (7, true)⟩,
    ⟨(some 14), .bin .int .lss (.t 8) (.t 13), some (7, true)⟩,
    ⟨(some 15), .pick (.t 7) (.t 14) (.c (.bool false)), none⟩,
    ⟨(some 16), .move (.t 15), none⟩,
    ⟨(some 17), .move (.t 0), some (16, true)⟩,
    ⟨(some 18), .nilck (.t 17), some (16, true)⟩,
    ⟨(some 19), .faddr 1 (.t 18), some (16, true)⟩,
    ⟨(some 20), .load none (.t 19), some (16, true)⟩,
    ⟨(some 21), .move (.t 1), some (16, true)⟩,
    ⟨(some 22), .iaddr 5 (.t 20) (.t 21), some (16, true)⟩,
    ⟨(some 23), .faddr 3 (.t 22), some (16, true)⟩,
    ⟨(some 24), .load none (.t 23), some (16, true)⟩,
    ⟨(some 25), .pick (.t 16) (.t 24) (.c (.bool false)), none⟩,
    ⟨(some 4), .move (.t 25), none⟩])
  .ret))
theorem in42 {args : List AV} {σ : Store} {K : AV → Store → Prop} (hargs : args.length ≤ 26 := by simp) (h : AWP Try.prog Try.f42.ntmps c42 (fun e t s => match e with | .exit _ => False | _ => Res [.slot 4] K t s) (env (argList 0 args)) σ) : ACalls Try.prog 42 args σ K :=
  enter (own := []) Try.func42 (by kernel_rfl) (by kernel_rfl) (by kernel_rfl) hargs h
/-- changeling/changelingref16.Alloc -/
def c43 : ACode :=
(.seq
 (.reg [⟨(some 2), .new 43 (.t 0), none⟩,
   ⟨(some 3), .new 31 (.t 1), none⟩,
   ⟨(some 4), .new 43 (.c (.agg [(.int .i64 0), .nils, (.int .i64 0)])), none⟩,
   ⟨(some 5), .move (.c (.int .i64 0)), none⟩,
   ⟨(some 6), .move (.c (.int .i64 0)), none⟩])
 (.seq
  (.seq
   (.reg [⟨(some 10), .load (some 3) (.t 2), none⟩,
     ⟨(some 11), .faddr 2 (.t 3), none⟩,
     ⟨(some 12), .load none (.t 11), none⟩,
     ⟨(some 13), .call 53 [(.t 10), (.t 12)], none⟩,
     ⟨(some 14), .not (.t 13), none⟩])
   (.cond (.t 14)
    (.seq
     (.reg [⟨(some 15), .load (some 3) (.t 2), none⟩,
       ⟨none, .store 3 (.t 4) (.t 15), none⟩,
       ⟨(some 5), .move (.c (.int .i64 0)), none⟩,
       ⟨(some 6), .move (.c (.int .i64 161)), none⟩])
     .ret)
    .skip))
  (.seq
   (.seq
    (.reg [⟨(some 16), .faddr 1 (.t 2), none⟩,
      ⟨(some 17), .load none (.t 16), none⟩,
      ⟨(some 18), .len .slice (.t 17), none⟩,
      ⟨(some 19), .faddr 0 (.t 2), none⟩,
      ⟨(some 20), .load none (.t 19), none⟩,
      ⟨(some 21), .bin .int .geq (.t 18) (.t 20), none⟩])
    (.cond (.t 21)
     (.seq
      (.reg [⟨(some 22), .load (some 3) (.t 2), none⟩,
        ⟨none, .store 3 (.t 4) (.t 22), none⟩,
        ⟨(some 5), .move (.c (.int .i64 0)), none⟩,
        ⟨(some 6), .move (.c (.int .i64 160)), none⟩])
      .ret)
     .skip))
   (.seq
    (.reg [⟨(some 7), .move (.c (.int .i64 0)), none⟩])
    (.seq
     (.block 0
      (.loop
       (.seq
        (.seq
         (.reg [⟨(some 23), .load (some 3) (.t 2), none⟩,
           ⟨(some 24), .move (.t 7), none⟩,
           ⟨(some 25), .call 54 [(.t 23), (.t 24)], none⟩,
           ⟨(some 26), .bin .int .geq (.t 25) (.c (.int .i64 0)), none⟩])
         (.cond (.t 26)
          .skip
          (.exit 0)))
        (.block 1
         (.reg [⟨(some 27), .move (.t 7), none⟩,
           ⟨(some 28), .bin .int .add (.t 27) (.c (.int .i64 1)), none⟩,
           ⟨(some 7), .move (.t 28), none⟩])))))
     (.seq
      (.reg [⟨(some 8), .move (.c .nils), none⟩])
      (.seq
       (.seq
        (.reg [⟨(some 9), .move (.c (.int .i64 0)), none⟩])
        (.block 2
         (.loop
          (.seq
           (.seq
            (.reg [⟨(some 29), .move (.t 9), none⟩,
              ⟨(some 30), .faddr 1 (.t 2), none⟩,
              ⟨(some 31), .load none (.t 30), none⟩,
              ⟨(some 32), .len .slice (.t 31), none⟩,
              ⟨(some 33), .bin .int .lss (.t 29) (.t 32), none⟩])
            (.cond (.t 33)
             .skip
             (.exit 2)))
           (.seq
            (.block 3
             (.reg [⟨(some 36), .move (.t 8), none⟩,
               ⟨(some 37), .faddr 1 (.t 2), none⟩,
               ⟨(some 38), .load none (.t 37), none⟩,
               ⟨(some 39), .move (.t 9), none⟩,
               ⟨(some 40), .iaddr 4 (.t 38) (.t 39), none⟩,
               ⟨(some 41), .load (some 4) (.t 40), none⟩,
               ⟨(some 42), .lit false 51 4 [(.t 41)], none⟩,
               ⟨(some 43), .append 51 4 48 (.t 36) (.t 42), none⟩,
               ⟨(some 8), .move (.t 43), none⟩]))
            (.reg [⟨(some 34), .move (.t 9), none⟩,
              ⟨(some 35), .bin .int .add (.t 34) (.c (.int .i64 1)), none⟩,
              ⟨(some 9), .move (.t 35), none⟩]))))))
       (.seq
        (.reg [⟨(some 44), .move (.t 8), none⟩,
          ⟨(some 45), .move (.t 7), none⟩,
          ⟨(some 46), .load (some 3) (.t 3), none⟩,
          ⟨(some 47), .build [(.int .i64 0), (.int .i64 0), (.int .i64 0), .nils] [(0, 1, (.t 45)), (1, 3, (.t 46))], none⟩,
          ⟨(some 48), .lit false 51 4 [(.t 47)], none⟩,
          ⟨(some 49), .append 51 4 48 (.t 44) (.t 48), none⟩,
          ⟨(some 50), .faddr 1 (.t 2), none⟩,
          ⟨none, .store 1 (.t 50) (.t 49), none⟩])
        (.seq
         (.reg [⟨(some 51), .faddr 2 (.t 2), none⟩,
           ⟨(some 52), .load none (.t 51), none⟩,
           ⟨(some 53), .bin .int .add (.t 52) (.c (.int .i64 1)), none⟩,
           ⟨(some 54), .faddr 2 (.t 2), none⟩,
           ⟨none, .store 1 (.t 54) (.t 53), none⟩])
         (.seq
          (.reg [⟨(some 55), .load (some 3) (.t 2), none⟩,
            ⟨(some 56), .move (.t 7), none⟩,
            ⟨none, .store 3 (.t 4) (.t 55), none⟩,
            ⟨(some 5), .move (.t 56), none⟩,
            ⟨(some 6), .move (.c (.int .i64 0)), none⟩])
          .ret))))))))))
theorem in43 {args : List AV} {σ : Store} {K : AV → Store → Prop} (hargs : args.length ≤ 57 := by simp) (h : AWP Try.prog Try.f43.ntmps c43 (fun e t s => match e with | .exit _ => False | _ => Res [.cell 4 (some 3), .slot 5, .slot 6] K t s) (env (argList 0 args)) σ) : ACalls Try.prog 43 args σ K :=
  enter (own := []) Try.func43 (by kernel_rfl) (by kernel_rfl) (by kernel_rfl) hargs h
/-- changeling/changelingref16.Set -/
def c44 : ACode :=
(.seq
 (.reg [⟨(some 3), .new 43 (.t 0), none⟩,
   ⟨(some 5), .new 31 (.t 2), none⟩,
   ⟨(some 6), .new 43 (.c (.agg [(.int .i64 0), .nils, (.int .i64 0)])), none⟩,
   ⟨(some 7), .move (.c (.int .i64 0)), none⟩])
 (.seq
  (.reg [⟨(some 11), .load (some 3) (.t 3), none⟩,
    ⟨(some 12), .move (.t 1), none⟩,
    ⟨(some 13), .call 54 [(.t 11), (.t 12)], none⟩,
    ⟨(some 8), .move (.t 13), none⟩])
  (.seq
   (.seq
    (.reg [⟨(some 14), .move (.t 8), none⟩,
      ⟨(some 15), .bin .int .lss (.t 14) (.c (.int .i64 0)), none⟩,
      ⟨(some 16), .move (.t 15), none⟩,
      ⟨(some 17), .load (some 3) (.t 3), some (16, false)⟩,
      ⟨(some 18), .faddr 2 (.t 5), some (16, false)⟩,
      ⟨(some 19), .load none (.t 18), some (16, false)⟩,
      ⟨(some 20), .call 53 [(.t 17), (.t 19)], some (16, false)⟩,
      ⟨(some 21), .not (.t 20), some (16, false)⟩,
      ⟨(some 22), .pick (.t 16) (.c (.bool true)) (.t 21), none⟩])
    (.cond (.t 22)
     (.seq
      (.reg [⟨(some 23), .load (some 3) (.t 3), none⟩,
        ⟨none, .store 3 (.t 6) (.t 23), none⟩,
        ⟨(some 7), .move (.c (.int .i64 161)), none⟩])
      .ret)
     .skip))
   (.seq
    (.reg [⟨(some 9), .move (.c .nils), none⟩])
    (.seq
     (.seq
      (.reg [⟨(some 10), .move (.c (.int .i64 0)), none⟩])
      (.block 0
       (.loop
        (.seq
         (.seq
          (.reg [⟨(some 24), .move (.t 10), none⟩,
            ⟨(some 25), .faddr 1 (.t 3), none⟩,
            ⟨(some 26), .load none (.t 25), none⟩,
            ⟨(some 27), .len .slice (.t 26), none⟩,
            ⟨(some 28), .bin .int .lss (.t 24) (.t 27), none⟩])
          (.cond (.t 28)
           .skip
           (.exit 0)))
         (.seq
          (.block 1
           (.seq
            (.reg [⟨(some 31), .move (.t 10), none⟩,
              ⟨(some 32), .move (.t 8), none⟩,
              ⟨(some 33), .bin .int .eql (.t 31) (.t 32), none⟩])
            (.cond (.t 33)
             (.reg [⟨(some 34), .move (.t 9), none⟩,
               ⟨(some 35), .move (.t 1), none⟩,
               ⟨(some 36), .load (some 3) (.t 5), none⟩,
               ⟨(some 37), .build [(.int .i64 0), (.int .i64 0), (.int .i64 0), .nils] [(0, 1, (.t 35)), (1, 3, (.t 36))], none⟩,
               ⟨(some 38), .lit false 51 4 [(.t 37)], none⟩,
               ⟨(some 39), .append 51 4 48 (.t 34) (.t 38), none⟩,
               ⟨(some 9), .move (.t 39), none⟩])
             (.reg [⟨(some 40), .move (.t 9), none⟩,
               ⟨(some 41), .faddr 1 (.t 3), none⟩,
               ⟨(some 42), .load none (.t 41), none⟩,
               ⟨(some 43), .move (.t 10), none⟩,
               ⟨(some 44), .iaddr 4 (.t 42) (.t 43), none⟩,
               ⟨(some 45), .load (some 4) (.t 44), none⟩,
               ⟨(some 46), .lit false 51 4 [(.t 45)], none⟩,
               ⟨(some 47), .append 51 4 48 (.t 40) (.t 46), none⟩,
               ⟨(some 9), .move (.t 47), none⟩]))))
          (.reg [⟨(some 29), .move (.t 10), none⟩,
            ⟨(some 30), .bin .int .add (.t 29) (.c (.int .i64 1)), none⟩,
            ⟨(some 10), .move (.t 30), none⟩]))))))
     (.seq
      (.reg [⟨(some 48), .move (.t 9), none⟩,
        ⟨(some 49), .faddr 1 (.t 3), none⟩,
        ⟨none, .store 1 (.t 49) (.t 48), none⟩])
      (.seq
       (.reg [⟨(some 50), .load (some 3) (.t 3), none⟩,
         ⟨none, .store 3 (.t 6) (.t 50), none⟩,
         ⟨(some 7), .move (.c (.int .i64 0)), none⟩])
       .ret)))))))
theorem in44 {args : List AV} {σ : Store} {K : AV → Store → Prop} (hargs : args.length ≤ 51 := by simp) (h : AWP Try.prog Try.f44.ntmps c44 (fun e t s => match e with | .exit _ => False | _ => Res [.cell 6 (some 3), .slot 7] K t s) (env (argList 0 args)) σ) : ACalls Try.prog 44 args σ K :=
  enter (own := []) Try.func44 (by kernel_rfl) (by kernel_rfl) (by kernel_rfl) hargs h
/-- changeling/changelingref16.Get -/
def c46 : ACode :=
(.seq
 (.reg [⟨(some 2), .new 43 (.t 0), none⟩,
   ⟨(some 4), .new 31 (.c (.agg [(.int .i64 0), (.int .i64 0), .nils])), none⟩,
   ⟨(some 5), .move (.c (.bool false)), none⟩])
 (.seq
  (.reg [⟨(some 7), .load (some 3) (.t 2), none⟩,
    ⟨(some 8), .move (.t 1), none⟩,
    ⟨(some 9), .call 54 [(.t 7), (.t 8)], none⟩,
    ⟨(some 6), .move (.t 9), none⟩])
  (.seq
   (.seq
    (.reg [⟨(some 10), .move (.t 6), none⟩,
      ⟨(some 11), .bin .int .lss (.t 10) (.c (.int .i64 0)), none⟩])
    (.cond (.t 11)
     (.seq
      (.reg [⟨(some 12), .build [(.int .i64 0), (.int .i64 0), .nils] [], none⟩,
        ⟨none, .store 3 (.t 4) (.t 12), none⟩,
        ⟨(some 5), .move (.c (.bool false)), none⟩])
      .ret)
     .skip))
   (.seq
    (.reg [⟨(some 13), .faddr 1 (.t 2), none⟩,
      ⟨(some 14), .load none (.t 13), none⟩,
      ⟨(some 15), .move (.t 6), none⟩,
      ⟨(some 16), .iaddr 4 (.t 14) (.t 15), none⟩,
      ⟨(some 17), .faddr 1 (.t 16), none⟩,
      ⟨(some 18), .load (some 3) (.t 17), none⟩,
      ⟨none, .store 3 (.t 4) (.t 18), none⟩,
      ⟨(some 5), .move (.c (.bool true)), none⟩])
    .ret))))
theorem in46 {args : List AV} {σ : Store} {K : AV → Store → Prop} (hargs : args.length ≤ 19 := by simp) (h : AWP Try.prog Try.f46.ntmps c46 (fun e t s => match e with | .exit _ => False | _ => Res [.cell 4 (some 3), .slot 5] K t s) (env (argList 0 args)) σ) : ACalls Try.prog 46 args σ K :=
  enter (own := []) Try.func46 (by kernel_rfl) (by kernel_rfl) (by kernel_rfl) hargs h
/-- changeling/changelingref01.SameInts -/
def c47 : ACode :=
(.seq
 (.reg [⟨(some 4), .move (.c (.bool false)), none⟩])
 (.seq
  (.seq
   (.reg [⟨(some 6), .move (.t 0), none⟩,
     ⟨(some 7), .len .slice (.t 6), none⟩,
     ⟨(some 8), .move (.t 1), none⟩,
     ⟨(some 9), .len .slice (.t 8), none⟩,
     ⟨(some 10), .bin .int .neq (.t 7) (.t 9), none⟩])
   (.cond (.t 10)
    (.seq
     (.reg [⟨(some 4), .move (.c (.bool false)), none⟩])
     .ret)
    .skip))
  (.seq
   (.seq
    (.reg [⟨(some 5), .move (.c (.int .i64 0)), none⟩])
    (.block 0
     (.loop
      (.seq
       (.seq
        (.reg [⟨(some 11), .move (.t 5), none⟩,
          ⟨(some 12), .move (.t 0), none⟩,
          ⟨(some 13), .len .slice (.t 12), none⟩,
          ⟨(some 14), .bin .int .lss (.t 11) (.t 13), none⟩])
        (.cond (.t 14)
         .skip
         (.exit 0)))
       (.seq
        (.block 1
         (.seq
          (.reg [⟨(some 17), .move (.t 0), none⟩,
            ⟨(some 18), .move (.t 5), none⟩,
            ⟨(some 19), .iaddr 1 (.t 17) (.t 18), none⟩,
            ⟨(some 20), .load none (.t 19), none⟩,
            ⟨(some 21), .move (.t 1), none⟩,
            ⟨(some 22), .move (.t 5), none⟩,
            ⟨(some 23), .iaddr 1 (.t 21) (.t 22), none⟩,
            ⟨(some 24), .load none (.t 23), none⟩,
            ⟨(some 25), .bin .int .neq (.t 20) (.t 24), none⟩])
          (.cond (.t 25)
           (.seq
            (.reg [⟨(some 4), .move (.c (.bool false)), none⟩])
            .ret)
           .skip)))
        (.reg [⟨(some 15), .move (.t 5), none⟩,
          ⟨(some 16), .bin .int .add (.t 15) (.c (.int .i64 1)), none⟩,
          ⟨(some 5), .move (.t 16), none⟩]))))))
   (.seq
    (.reg [⟨(some 4), .move (.c (.bool true)), none⟩])
    .ret))))
theorem in47 {args : List AV} {σ : Store} {K : AV → Store → Prop} (hargs : args.length ≤ 26 := by simp) (h : AWP Try.prog Try.f47.ntmps c47 (fun e t s => match e with | .exit _ => False | _ => Res [.slot 4] K t s) (env (argList 0 args)) σ) : ACalls Try.prog 47 args σ K :=
  enter (own := []) Try.func47 (by kernel_rfl) (by kernel_rfl) (by kernel_rfl) hargs h
/-- changeling/changelingref16.All -/
def c53 : ACode :=
(.seq
 (.reg [⟨(some 2), .new 43 (.t 0), none⟩,
   ⟨(some 4), .move (.c (.bool false)), none⟩])
 (.seq
  (.seq
   (.reg [⟨(some 5), .move (.c (.int .i64 0)), none⟩])
   (.block 0
    (.loop
     (.seq
      (.seq
       (.reg [⟨(some 6), .move (.t 5), none⟩,
         ⟨(some 7), .move (.t 1), none⟩,
         ⟨(some 8), .len .slice (.t 7), none⟩,
         ⟨(some 9), .bin .int .lss (.t 6) (.t 8), none⟩])
       (.cond (.t 9)
        .skip
        (.exit 0)))
      (.seq
       (.block 1
        (.seq
         (.reg [⟨(some 12), .load (some 3) (.t 2), none⟩,
           ⟨(some 13), .move (.t 1), none⟩,
           ⟨(some 14), .move (.t 5), none⟩,
           ⟨(some 15), .iaddr 1 (.t 13) (.t 14), none⟩,
           ⟨(some 16), .load none (.t 15), none⟩,
           ⟨(some 17), .call 54 [(.t 12), (.t 16)], none⟩,
           ⟨(some 18), .bin .int .lss (.t 17) (.c (.int .i64 0)), none⟩])
         (.cond (.t 18)
          (.seq
           (.reg [⟨(some 4), .move (.c (.bool false)), none⟩])
           .ret)
          .skip)))
       (.reg [⟨(some 10), .move (.t 5), none⟩,
         ⟨(some 11), .bin .int .add (.t 10) (.c (.int .i64 1)), none⟩,
         ⟨(some 5), .move (.t 11), none⟩]))))))
  (.seq
   (.reg [⟨(some 4), .move (.c (.bool true)), none⟩])
   .ret)))
theorem in53 {args : List AV} {σ : Store} {K : AV → Store → Prop} (hargs : args.length ≤ 19 := by simp) (h : AWP Try.prog Try.f53.ntmps c53 (fun e t s => match e with | .exit _ => False | _ => Res [.slot 4] K t s) (env (argList 0 args)) σ) : ACalls Try.prog 53 args σ K :=
  enter (own := []) Try.func53 (by kernel_rfl) (by kernel_rfl) (by kernel_rfl) hargs h
/-- changeling/changelingref16.find -/
def c54 : ACode :=
(.seq
 (.reg [⟨(some 2), .new 43 (.t 0), none⟩,
   ⟨(some 4), .move (.c (.int .i64 0)), none⟩])
 (.seq
  (.seq
   (.reg [⟨(some 5), .move (.c (.int .i64 0)), none⟩])
   (.block 0
    (.loop
     (.seq
      (.seq
       (.reg [⟨(some 6), .move (.t 5), none⟩,
         ⟨(some 7), .faddr 1 (.t 2), none⟩,
         ⟨(some 8), .load none (.t 7), none⟩,
         ⟨(some 9), .len .slice (.t 8), none⟩,
         ⟨(some 10), .bin .int .lss (.t 6) (.t 9), none⟩])
       (.cond (.t 10)
        .skip
        (.exit 0)))
      (.seq
       (.block 1
        (.seq
         (.reg [⟨(some 13), .faddr 1 (.t 2), none⟩,
           ⟨(some 14), .load none (.t 13), none⟩,
           ⟨(some 15), .move (.t 5), none⟩,
           ⟨(some 16), .iaddr 4 (.t 14) (.t 15), none⟩,
           ⟨(some 17), .faddr 0 (.t 16), none⟩,
           ⟨(some 18), .load none (.t 17), none⟩,
           ⟨(some 19), .move (.t 1), none⟩,
           ⟨(some 20), .bin .int .eql (.t 18) (.t 19), none⟩])
         (.cond (.t 20)
          (.seq
           (.reg [⟨(some 21), .move (.t 5), none⟩,
             ⟨(some 4), .move (.t 21), none⟩])
           .ret)
          .skip)))
       (.reg [⟨(some 11), .move (.t 5), none⟩,
         ⟨(some 12), .bin .int .add (.t 11) (.c (.int .i64 1)), none⟩,
         ⟨(some 5), .move (.t 12), none⟩]))))))
  (.seq
   (.reg [⟨(some 4), .move (.c (.int .i64 (-1))), none⟩])
   .ret)))
theorem in54 {args : List AV} {σ : Store} {K : AV → Store → Prop} (hargs : args.length ≤ 22 := by simp) (h : AWP Try.prog Try.f54.ntmps c54 (fun e t s => match e with | .exit _ => False | _ => Res [.slot 4] K t s) (env (argList 0 args)) σ) : ACalls Try.prog 54 args σ K :=
  enter (own := []) Try.func54 (by kernel_rfl) (by kernel_rfl) (by kernel_rfl) hargs h
/-- changeling/changelingref16.has -/
def c56 : ACode :=
(.seq
 (.reg [⟨(some 4), .move (.c (.bool false)), none⟩])
 (.seq
  (.seq
   (.reg [⟨(some 5), .move (.c (.int .i64 0)), none⟩])
   (.block 0
    (.loop
     (.seq
      (.seq
       (.reg [⟨(some 6), .move (.t 5), none⟩,
         ⟨(some 7), .move (.t 0), none⟩,
         ⟨(some 8), .len .slice (.t 7), none⟩,
         ⟨(some 9), .bin .int .lss (.t 6) (.t 8), none⟩])
       (.cond (.t 9)
        .skip
        (.exit 0)))
      (.seq
       (.block 1
        (.seq
         (.reg [⟨(some 12), .move (.t 0), none⟩,
           ⟨(some 13), .move (.t 5), none⟩,
           ⟨(some 14), .iaddr 1 (.t 12) (.t 13), none⟩,
           ⟨(some 15), .load none (.t 14), none⟩,
           ⟨(some 16), .move (.t 1), none⟩,
           ⟨(some 17), .bin .int .eql (.t 15) (.t 16), none⟩])
         (.cond (.t 17)
          (.seq
           (.reg [⟨(some 4), .move (.c (.bool true)), none⟩])
           .ret)
          .skip)))
       (.reg [⟨(some 10), .move (.t 5), none⟩,
         ⟨(some 11), .bin .int .add (.t 10) (.c (.int .i64 1)), none⟩,
         ⟨(some 5), .move (.t 11), none⟩]))))))
  (.seq
   (.reg [⟨(some 4), .move (.c (.bool false)), none⟩])
   .ret)))
theorem in56 {args : List AV} {σ : Store} {K : AV → Store → Prop} (hargs : args.length ≤ 18 := by simp) (h : AWP Try.prog Try.f56.ntmps c56 (fun e t s => match e with | .exit _ => False | _ => Res [.slot 4] K t s) (env (argList 0 args)) σ) : ACalls Try.prog 56 args σ K :=
  enter (own := []) Try.func56 (by kernel_rfl) (by kernel_rfl) (by kernel_rfl) hargs h
/-- changeling/changelinglaw16.HeapPlays -/
def c5 : ACode :=
(.seq
 (.reg [⟨(some 4), .move (.c (.bool false)), none⟩])
 (.seq
  (.reg [⟨(some 13), .move (.t 0), none⟩,
    ⟨(some 14), .call 13 [(.t 13)], none⟩,
    ⟨(some 12), .move (.t 14), none⟩,
    ⟨(some 15), .extract (.t 12) 0, none⟩,
    ⟨(some 16), .extract (.t 12) 1, none⟩,
    ⟨(some 5), .move (.t 15), none⟩,
    ⟨(some 6), .move (.t 16), none⟩])
  (.seq
   (.seq
    (.reg [⟨(some 17), .move (.t 0), none⟩,
      ⟨(some 18), .call 18 [(.t 17)], none⟩,
      ⟨(some 19), .not (.t 18), none⟩,
      ⟨(some 20), .move (.t 19), none⟩,
      ⟨(some 21), .move (.t 1), some (20, false)⟩,
      ⟨(some 22), .call 17 [(.t 21)], some (20, false)⟩,
      ⟨(some 23), .not (.t 22), some (20, false)⟩,
      ⟨(some 24), .pick (.t 20) (.c (.bool true)) (.t 23), none⟩])
    (.cond (.t 24)
     (.seq
      (.reg [⟨(some 25), .move (.t 6), none⟩,
        ⟨(some 26), .bin .int .eql (.t 25) (.c (.int .i64 0)), none⟩,
        ⟨(some 27), .move (.t 0), none⟩,
        ⟨(some 28), .call 18 [(.t 27)], none⟩,
        ⟨(some 29), .bin .bool .eql (.t 26) (.t 28), none⟩,
        ⟨(some 30), .move (.t 29), none⟩,
        ⟨(some 31), .move (.t 5), some (30, true)⟩,
        ⟨(some 32), .nileq .ptr true (.t 31) (.c .nilp), some (30, true)⟩,
        ⟨(some 33), .move (.t 0), some (30, true)⟩,
        ⟨(some 34), .call 18 [(.t 33)], some (30, true)⟩,
        ⟨(some 35), .bin .bool .eql (.t 32) (.t 34), some (30, true)⟩,
        ⟨(some 36), .pick (.t 30) (.t 35) (.c (.bool false)), none⟩,
        ⟨(some 37), .move (.t 36), none⟩,
        ⟨(some 38), .move (.t 6), some (37, true)⟩,
        ⟨(some 39), .bin .int .eql (.t 38) (.c (.int .i64 0)), some (37, true)⟩,
        ⟨(some 40), .move (.t 39), some (37, true)⟩,
        ⟨(some 41), .move (.t 6), some (40, false)⟩,
        ⟨(some 42), .bin .int .eql (.t 41) (.c (.int .i64 1)), some (40, false)⟩,
        ⟨(some 43), .pick (.t 40) (.c (.bool true)) (.t 42), some (37, true)⟩,
        ⟨(some 44), .pick (.t 37) (.t 43) (.c (.bool false)), none⟩,
        ⟨(some 45), .move (.t 44), none⟩,
        ⟨(some 46), .call 12 [], some (45, true)⟩,
        ⟨(some 47), .pick (.t 45) (.t 46) (.c (.bool false)), none⟩,
        ⟨(some 4), .move (.t 47), none⟩])
      .ret)
     .skip))
   (.seq
    (.seq
     (.reg [⟨(some 48), .move (.t 5), none⟩,
       ⟨(some 49), .nileq .ptr false (.t 48) (.c .nilp), none⟩,
       ⟨(some 50), .move (.t 49), none⟩,
       ⟨(some 51), .move (.t 6), some (50, false)⟩,
       ⟨(some 52), .bin .int .neq (.t 51) (.c (.int .i64 0)), some (50, false)⟩,
       ⟨(some 53), .pick (.t 50) (.c (.bool true)) (.t 52), none⟩])
     (.cond (.t 53)
      (.seq
       (.reg [⟨(some 4), .move (.c (.bool false)), none⟩])
       .ret)
      .skip))
    (.seq
     (.reg [⟨(some 54), .move (.t 0), none⟩,
       ⟨(some 55), .build [(.int .i64 0), .nils, (.int .i64 0)] [(0, 1, (.t 54))], none⟩,
       ⟨(some 7), .new 43 (.c (.agg [(.int .i64 0), .nils, (.int .i64 0)])), none⟩,
       ⟨none, .store 3 (.t 7) (.t 55), none⟩])
     (.seq
      (.seq
       (.reg [⟨(some 8), .move (.c (.int .i64 0)), none⟩])
       (.block 0
        (.loop
         (.seq
          (.seq
           (.reg [⟨(some 56), .move (.t 8), none⟩,
             ⟨(some 57), .move (.t 1), none⟩,
             ⟨(some 58), .len .slice (.t 57), none⟩,
             ⟨(some 59), .bin .int .lss (.t 56) (.t 58), none⟩])
           (.cond (.t 59)
            .skip
            (.exit 0)))
          (.seq
           (.block 1
            (.seq
             (.draw [9] [([⟨(some 63), .move (.t 5), none⟩], []),
               ([⟨(some 64), .load (some 3) (.t 7), none⟩], []),
               ([⟨(some 65), .move (.t 1), none⟩], []),
               ([⟨(some 66), .move (.t 8), none⟩], []),
               ([⟨(some 67), .iaddr 5 (.t 65) (.t 66), none⟩], []),
               ([⟨(some 68), .load (some 5) (.t 67), none⟩], []),
               ([⟨(some 69), .call 20 [(.t 63), (.t 64), (.t 68)], none⟩], []),
               ([⟨(some 62), .move (.t 69), none⟩], []),
               ([⟨(some 70), .extract (.t 62) 0, none⟩], []),
               ([⟨(some 71), .extract (.t 62) 1, none⟩], []),
               ([⟨(some 9), .new 43 (.c (.agg [(.int .i64 0), .nils, (.int .i64 0)])), none⟩, ⟨none, .store 3 (.t 9) (.t 70), none⟩], []),
               ([⟨(some 10), .move (.t 71), none⟩], [])])
             (.seq
              (.reg [⟨(some 72), .load (some 3) (.t 9), none⟩,
                ⟨none, .store 3 (.t 7) (.t 72), none⟩])
              (.seq
               (.draw [] [([⟨(some 73), .move (.t 10), none⟩], []),
                 ([⟨(some 74), .not (.t 73), none⟩], []),
                 ([⟨(some 75), .move (.t 74), none⟩], []),
                 ([⟨(some 76), .move (.t 5), some (75, false)⟩], []),
                 ([⟨(some 78), .faddr 1 (.t 7), some (75, false)⟩], []),
                 ([⟨(some 79), .load none (.t 78), some (75, false)⟩], []),
                 ([⟨(some 80), .len .slice (.t 79), some (75, false)⟩], []),
                 ([⟨(some 77), .call 21 [(.t 76)], some (75, false)⟩], [⟨(some 78), .faddr 1 (.t 7), some (75, false)⟩, ⟨(some 79), .load none (.t 78), some (75, false)⟩]),
                 ([⟨(some 81), .bin .int .neq (.t 77) (.t 80), some (75, false)⟩], []),
                 ([⟨(some 82), .pick (.t 75) (.c (.bool true)) (.t 81), none⟩], []),
                 ([⟨(some 83), .move (.t 82), none⟩], []),
                 ([⟨(some 84), .move (.t 5), some (83, false)⟩], []),
                 ([⟨(some 86), .move (.t 0), some (83, false)⟩], []),
                 ([⟨(some 85), .call 22 [(.t 84)], some (83, false)⟩], []),
                 ([⟨(some 87), .bin .int .neq (.t 85) (.t 86), some (83, false)⟩], []),
                 ([⟨(some 88), .pick (.t 83) (.c (.bool true)) (.t 87), none⟩], []),
                 ([⟨(some 89), .move (.t 88), none⟩], []),
                 ([⟨(some 90), .move (.t 5), some (89, false)⟩], []),
                 ([⟨(some 92), .faddr 2 (.t 7), some (89, false)⟩], []),
                 ([⟨(some 93), .load none (.t 92), some (89, false)⟩], []),
                 ([⟨(some 91), .call 23 [(.t 90)], some (89, false)⟩], [⟨(some 92), .faddr 2 (.t 7), some (89, false)⟩, ⟨(some 93), .load none (.t 92), some (89, false)⟩]),
                 ([⟨(some 94), .bin .int .neq (.t 91) (.t 93), some (89, false)⟩], []),
                 ([⟨(some 95), .pick (.t 89) (.c (.bool true)) (.t 94), none⟩], [])])
               (.cond (.t 95)
                (.seq
                 (.reg [⟨(some 4), .move (.c (.bool false)), none⟩])
                 .ret)
                .skip)))))
           (.reg [⟨(some 60), .move (.t 8), none⟩,
             ⟨(some 61), .bin .int .add (.t 60) (.c (.int .i64 1)), none⟩,
             ⟨(some 8), .move (.t 61), none⟩]))))))
      (.seq
       (.seq
        (.reg [⟨(some 11), .move (.c (.int .i64 0)), none⟩])
        (.block 2
         (.loop
          (.seq
           (.seq
            (.reg [⟨(some 96), .move (.t 11), none⟩,
              ⟨(some 97), .faddr 1 (.t 7), none⟩,
              ⟨(some 98), .load none (.t 97), none⟩,
              ⟨(some 99), .len .slice (.t 98), none⟩,
              ⟨(some 100), .bin .int .lss (.t 96) (.t 99), none⟩])
            (.cond (.t 100)
             .skip
             (.exit 2)))
           (.seq
            (.block 3
             (.seq
              (.reg [⟨(some 103), .move (.t 5), none⟩,
                ⟨(some 104), .load (some 3) (.t 7), none⟩,
                ⟨(some 105), .faddr 1 (.t 7), none⟩,
                ⟨(some 106), .load none (.t 105), none⟩,
                ⟨(some 107), .move (.t 11), none⟩,
                ⟨(some 108), .iaddr 4 (.t 106) (.t 107), none⟩,
                ⟨(some 109), .faddr 0 (.t 108), none⟩,
                ⟨(some 110), .load none (.t 109), none⟩,
                ⟨(some 111), .call 24 [(.t 103), (.t 104), (.t 110)], none⟩,
                ⟨(some 112), .not (.t 111), none⟩])
              (.cond (.t 112)
               (.seq
                (.reg [⟨(some 4), .move (.c (.bool false)), none⟩])
                .ret)
               .skip)))
            (.reg [⟨(some 101), .move (.t 11), none⟩,
              ⟨(some 102), .bin .int .add (.t 101) (.c (.int .i64 1)), none⟩,
              ⟨(some 11), .move (.t 102), none⟩]))))))
       (.seq
        (.reg [⟨(some 113), .call 12 [], none⟩,
          ⟨(some 4), .move (.t 113), none⟩])
        .ret))))))))
theorem in5 {args : List AV} {σ : Store} {K : AV → Store → Prop} (hargs : args.length ≤ 114 := by simp) (h : AWP Try.prog Try.f5.ntmps c5 (fun e t s => match e with | .exit _ => False | _ => Res [.slot 4] K t s) (env (argList 0 args)) σ) : ACalls Try.prog 5 args σ K :=
  enter (own := []) Try.func5 (by kernel_rfl) (by kernel_rfl) (by kernel_rfl) hargs h
/-- changeling/changelingref16.Reached -/
def c55 : ACode :=
(.seq
 (.reg [⟨(some 2), .new 43 (.t 0), none⟩,
   ⟨(some 4), .move (.c .nils), none⟩])
 (.seq
  (.reg [⟨(some 5), .move (.c .nils), none⟩])
  (.seq
   (.seq
    (.reg [⟨(some 6), .move (.c (.int .i64 0)), none⟩])
    (.block 0
     (.loop
      (.seq
       (.seq
        (.reg [⟨(some 11), .move (.t 6), none⟩,
          ⟨(some 12), .move (.t 1), none⟩,
          ⟨(some 13), .len .slice (.t 12), none⟩,
          ⟨(some 14), .bin .int .lss (.t 11) (.t 13), none⟩])
        (.cond (.t 14)
         .skip
         (.exit 0)))
       (.seq
        (.block 1
         (.seq
          (.reg [⟨(some 17), .move (.t 5), none⟩,
            ⟨(some 18), .move (.t 1), none⟩,
            ⟨(some 19), .move (.t 6), none⟩,
            ⟨(some 20), .iaddr 1 (.t 18) (.t 19), none⟩,
            ⟨(some 21), .load none (.t 20), none⟩,
            ⟨(some 22), .call 56 [(.t 17), (.t 21)], none⟩,
            ⟨(some 23), .not (.t 22), none⟩])
          (.cond (.t 23)
           (.reg [⟨(some 24), .move (.t 5), none⟩,
             ⟨(some 25), .move (.t 1), none⟩,
             ⟨(some 26), .move (.t 6), none⟩,
             ⟨(some 27), .iaddr 1 (.t 25) (.t 26), none⟩,
             ⟨(some 28), .load none (.t 27), none⟩,
             ⟨(some 29), .lit false 3 1 [(.t 28)], none⟩,
             ⟨(some 30), .append 3 1 8 (.t 24) (.t 29), none⟩,
             ⟨(some 5), .move (.t 30), none⟩])
           .skip)))
        (.reg [⟨(some 15), .move (.t 6), none⟩,
          ⟨(some 16), .bin .int .add (.t 15) (.c (.int .i64 1)), none⟩,
          ⟨(some 6), .move (.t 16), none⟩]))))))
   (.seq
    (.seq
     (.reg [⟨(some 7), .move (.c (.int .i64 0)), none⟩])
     (.block 2
      (.loop
       (.seq
        (.seq
         (.reg [⟨(some 31), .move (.t 7), none⟩,
           ⟨(some 32), .move (.t 5), none⟩,
           ⟨(some 33), .len .slice (.t 32), none⟩,
           ⟨(some 34), .bin .int .lss (.t 31) (.t 33), none⟩])
         (.cond (.t 34)
          .skip
          (.exit 2)))
        (.seq
         (.block 3
          (.seq
           (.draw [8] [([⟨(some 38), .load (some 3) (.t 2), none⟩], []),
             ([⟨(some 39), .move (.t 5), none⟩], []),
             ([⟨(some 40), .move (.t 7), none⟩], []),
             ([⟨(some 41), .iaddr 1 (.t 39) (.t 40), none⟩], []),
             ([⟨(some 42), .load none (.t 41), none⟩], []),
             ([⟨(some 43), .call 46 [(.t 38), (.t 42)], none⟩], []),
             ([⟨(some 37), .move (.t 43), none⟩], []),
             ([⟨(some 44), .extract (.t 37) 0, none⟩], []),
             ([⟨(some 45), .extract (.t 37) 1, none⟩], []),
             ([⟨(some 8), .new 31 (.c (.agg [(.int .i64 0), (.int .i64 0), .nils])), none⟩, ⟨none, .store 3 (.t 8) (.t 44), none⟩], []),
             ([⟨(some 9), .move (.t 45), none⟩], [])])
           (.seq
            (.reg [⟨(some 10), .move (.c (.int .i64 0)), none⟩])
            (.block 4
             (.loop
              (.seq
               (.seq
                (.reg [⟨(some 46), .move (.t 10), none⟩,
                  ⟨(some 47), .faddr 2 (.t 8), none⟩,
                  ⟨(some 48), .load none (.t 47), none⟩,
                  ⟨(some 49), .len .slice (.t 48), none⟩,
                  ⟨(some 50), .bin .int .lss (.t 46) (.t 49), none⟩])
                (.cond (.t 50)
                 .skip
                 (.exit 4)))
               (.seq
                (.block 5
                 (.seq
                  (.reg [⟨(some 53), .move (.t 5), none⟩,
                    ⟨(some 54), .faddr 2 (.t 8), none⟩,
                    ⟨(some 55), .load none (.t 54), none⟩,
                    ⟨(some 56), .move (.t 10), none⟩,
                    ⟨(some 57), .iaddr 1 (.t 55) (.t 56), none⟩,
                    ⟨(some 58), .load none (.t 57), none⟩,
                    ⟨(some 59), .call 56 [(.t 53), (.t 58)], none⟩,
                    ⟨(some 60), .not (.t 59), none⟩])
                  (.cond (.t 60)
                   (.reg [⟨(some 61), .move (.t 5), none⟩,
                     ⟨(some 62), .faddr 2 (.t 8), none⟩,
                     ⟨(some 63), .load none (.t 62), none⟩,
                     ⟨(some 64), .move (.t 10), none⟩,
                     ⟨(some 65), .iaddr 1 (.t 63) (.t 64), none⟩,
                     ⟨(some 66), .load none (.t 65), none⟩,
                     ⟨(some 67), .lit false 3 1 [(.t 66)], none⟩,
                     ⟨(some 68), .append 3 1 8 (.t 61) (.t 67), none⟩,
                     ⟨(some 5), .move (.t 68), none⟩])
                   .skip)))
                (.reg [⟨(some 51), .move (.t 10), none⟩,
                  ⟨(some 52), .bin .int .add (.t 51) (.c (.int .i64 1)), none⟩,
                  ⟨(some 10), .move (.t 52), none⟩]))))))))
         (.reg [⟨(some 35), .move (.t 7), none⟩,
           ⟨(some 36), .bin .int .add (.t 35) (.c (.int .i64 1)), none⟩,
           ⟨(some 7), .move (.t 36), none⟩]))))))
    (.seq
     (.reg [⟨(some 69), .move (.t 5), none⟩,
       ⟨(some 4), .move (.t 69), none⟩])
     .ret)))))
theorem in55 {args : List AV} {σ : Store} {K : AV → Store → Prop} (hargs : args.length ≤ 70 := by simp) (h : AWP Try.prog Try.f55.ntmps c55 (fun e t s => match e with | .exit _ => False | _ => Res [.slot 4] K t s) (env (argList 0 args)) σ) : ACalls Try.prog 55 args σ K :=
  enter (own := []) Try.func55 (by kernel_rfl) (by kernel_rfl) (by kernel_rfl) hargs h
/-- changeling/changelingref16.Collect -/
def c45 : ACode :=
(.seq
 (.reg [⟨(some 2), .new 43 (.t 0), none⟩,
   ⟨(some 4), .new 43 (.c (.agg [(.int .i64 0), .nils, (.int .i64 0)])), none⟩,
   ⟨(some 5), .move (.c (.int .i64 0)), none⟩,
   ⟨(some 6), .move (.c (.int .i64 0)), none⟩])
 (.seq
  (.seq
   (.reg [⟨(some 11), .load (some 3) (.t 2), none⟩,
     ⟨(some 12), .move (.t 1), none⟩,
     ⟨(some 13), .call 53 [(.t 11), (.t 12)], none⟩,
     ⟨(some 14), .not (.t 13), none⟩])
   (.cond (.t 14)
    (.seq
     (.reg [⟨(some 15), .load (some 3) (.t 2), none⟩,
       ⟨none, .store 3 (.t 4) (.t 15), none⟩,
       ⟨(some 5), .move (.c (.int .i64 0)), none⟩,
       ⟨(some 6), .move (.c (.int .i64 161)), none⟩])
     .ret)
    .skip))
  (.seq
   (.reg [⟨(some 16), .load (some 3) (.t 2), none⟩,
     ⟨(some 17), .move (.t 1), none⟩,
     ⟨(some 18), .call 55 [(.t 16), (.t 17)], none⟩,
     ⟨(some 7), .move (.t 18), none⟩])
   (.seq
    (.reg [⟨(some 8), .move (.c .nils), none⟩])
    (.seq
     (.seq
      (.reg [⟨(some 9), .move (.c (.int .i64 0)), none⟩])
      (.block 0
       (.loop
        (.seq
         (.seq
          (.reg [⟨(some 19), .move (.t 9), none⟩,
            ⟨(some 20), .faddr 1 (.t 2), none⟩,
            ⟨(some 21), .load none (.t 20), none⟩,
            ⟨(some 22), .len .slice (.t 21), none⟩,
            ⟨(some 23), .bin .int .lss (.t 19) (.t 22), none⟩])
          (.cond (.t 23)
           .skip
           (.exit 0)))
         (.seq
          (.block 1
           (.seq
            (.reg [⟨(some 26), .move (.t 7), none⟩,
              ⟨(some 27), .faddr 1 (.t 2), none⟩,
              ⟨(some 28), .load none (.t 27), none⟩,
              ⟨(some 29), .move (.t 9), none⟩,
              ⟨(some 30), .iaddr 4 (.t 28) (.t 29), none⟩,
              ⟨(some 31), .faddr 0 (.t 30), none⟩,
              ⟨(some 32), .load none (.t 31), none⟩,
              ⟨(some 33), .call 56 [(.t 26), (.t 32)], none⟩])
            (.cond (.t 33)
             (.reg [⟨(some 34), .move (.t 8), none⟩,
               ⟨(some 35), .faddr 1 (.t 2), none⟩,
               ⟨(some 36), .load none (.t 35), none⟩,
               ⟨(some 37), .move (.t 9), none⟩,
               ⟨(some 38), .iaddr 4 (.t 36) (.t 37), none⟩,
               ⟨(some 39), .load (some 4) (.t 38), none⟩,
               ⟨(some 40), .lit false 51 4 [(.t 39)], none⟩,
               ⟨(some 41), .append 51 4 48 (.t 34) (.t 40), none⟩,
               ⟨(some 8), .move (.t 41), none⟩])
             .skip)))
          (.reg [⟨(some 24), .move (.t 9), none⟩,
            ⟨(some 25), .bin .int .add (.t 24) (.c (.int .i64 1)), none⟩,
            ⟨(some 9), .move (.t 25), none⟩]))))))
     (.seq
      (.reg [⟨(some 42), .faddr 1 (.t 2), none⟩,
        ⟨(some 43), .load none (.t 42), none⟩,
        ⟨(some 44), .len .slice (.t 43), none⟩,
        ⟨(some 45), .move (.t 8), none⟩,
        ⟨(some 46), .len .slice (.t 45), none⟩,
        ⟨(some 47), .bin .int .sub (.t 44) (.t 46), none⟩,
        ⟨(some 10), .move (.t 47), none⟩])
      (.seq
       (.reg [⟨(some 48), .move (.t 8), none⟩,
         ⟨(some 49), .faddr 1 (.t 2), none⟩,
         ⟨none, .store 1 (.t 49) (.t 48), none⟩])
       (.seq
        (.reg [⟨(some 50), .load (some 3) (.t 2), none⟩,
          ⟨(some 51), .move (.t 10), none⟩,
          ⟨none, .store 3 (.t 4) (.t 50), none⟩,
          ⟨(some 5), .move (.t 51), none⟩,
          ⟨(some 6), .move (.c (.int .i64 0)), none⟩])
        .ret))))))))
theorem in45 {args : List AV} {σ : Store} {K : AV → Store → Prop} (hargs : args.length ≤ 52 := by simp) (h : AWP Try.prog Try.f45.ntmps c45 (fun e t s => match e with | .exit _ => False | _ => Res [.cell 4 (some 3), .slot 5, .slot 6] K t s) (env (argList 0 args)) σ) : ACalls Try.prog 45 args σ K :=
  enter (own := []) Try.func45 (by kernel_rfl) (by kernel_rfl) (by kernel_rfl) hargs h
end Go.Proofs.Ytoejjhehpbmgbaa

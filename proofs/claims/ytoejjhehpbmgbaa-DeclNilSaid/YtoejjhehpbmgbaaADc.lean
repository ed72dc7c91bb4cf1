/- The resolved code of some functions. -/
import Derived.Test.YtoejjhehpbmgbaaProg
import Derived.Test.YtoejjhehpbmgbaaAL15
import Derived.KernelRfl
set_option linter.unusedVariables false
namespace Go.Proofs.Ytoejjhehpbmgbaa
open Go.AL
/-- changeling/changelinglaw08.DeclMore -/
def c9 : ACode :=
(.seq
 (.reg [⟨(some 3), .new 65 (.t 1), none⟩,
   ⟨(some 4), .move (.c (.bool false)), none⟩])
 (.seq
  (.seq
   (.reg [⟨(some 13), .move (.t 0), none⟩,
     ⟨(some 14), .call 28 [(.t 13)], none⟩,
     ⟨(some 15), .not (.t 14), none⟩,
     ⟨(some 16), .move (.t 15), none⟩,
     ⟨(some 17), .load (some 5) (.t 3), some (16, false)⟩,
     ⟨(some 18), .lit false 65 5 [(.t 17)], some (16, false)⟩,
     ⟨(some 19), .call 28 [(.t 18)], some (16, false)⟩,
     ⟨(some 20), .not (.t 19), some (16, false)⟩,
     ⟨(some 21), .pick (.t 16) (.c (.bool true)) (.t 20), none⟩])
   (.cond (.t 21)
    (.seq
     (.reg [⟨(some 22), .call 29 [], none⟩,
       ⟨(some 4), .move (.t 22), none⟩])
     .ret)
    .skip))
  (.seq
   (.reg [⟨(some 24), .move (.t 0), none⟩,
     ⟨(some 25), .call 30 [(.t 24)], none⟩,
     ⟨(some 23), .move (.t 25), none⟩,
     ⟨(some 26), .extract (.t 23) 0, none⟩,
     ⟨(some 27), .extract (.t 23) 1, none⟩,
     ⟨(some 6), .new 69 (.c (.agg [(.int .i64 0), (.int .i64 0), (.int .i64 0)])), none⟩,
     ⟨(some 5), .move (.t 26), none⟩,
     ⟨none, .store 3 (.t 6) (.t 27), none⟩])
   (.seq
    (.reg [⟨(some 7), .move (.c .nils), none⟩])
    (.seq
     (.seq
      (.reg [⟨(some 8), .move (.c (.int .i64 0)), none⟩])
      (.block 0
       (.loop
        (.seq
         (.seq
          (.reg [⟨(some 28), .move (.t 8), none⟩,
            ⟨(some 29), .move (.t 0), none⟩,
            ⟨(some 30), .len .slice (.t 29), none⟩,
            ⟨(some 31), .bin .int .lss (.t 28) (.t 30), none⟩])
          (.cond (.t 31)
           .skip
           (.exit 0)))
         (.seq
          (.block 1
           (.reg [⟨(some 34), .move (.t 7), none⟩,
             ⟨(some 35), .move (.t 0), none⟩,
             ⟨(some 36), .move (.t 8), none⟩,
             ⟨(some 37), .iaddr 5 (.t 35) (.t 36), none⟩,
             ⟨(some 38), .load (some 5) (.t 37), none⟩,
             ⟨(some 39), .lit false 65 5 [(.t 38)], none⟩,
             ⟨(some 40), .append 65 5 80 (.t 34) (.t 39), none⟩,
             ⟨(some 7), .move (.t 40), none⟩]))
          (.reg [⟨(some 32), .move (.t 8), none⟩,
            ⟨(some 33), .bin .int .add (.t 32) (.c (.int .i64 1)), none⟩,
            ⟨(some 8), .move (.t 33), none⟩]))))))
     (.seq
      (.reg [⟨(some 42), .move (.t 7), none⟩,
        ⟨(some 43), .load (some 5) (.t 3), none⟩,
        ⟨(some 44), .lit false 65 5 [(.t 43)], none⟩,
        ⟨(some 45), .append 65 5 80 (.t 42) (.t 44), none⟩,
        ⟨(some 46), .call 30 [(.t 45)], none⟩,
        ⟨(some 41), .move (.t 46), none⟩,
        ⟨(some 47), .extract (.t 41) 0, none⟩,
        ⟨(some 48), .extract (.t 41) 1, none⟩,
        ⟨(some 10), .new 69 (.c (.agg [(.int .i64 0), (.int .i64 0), (.int .i64 0)])), none⟩,
        ⟨(some 9), .move (.t 47), none⟩,
        ⟨none, .store 3 (.t 10) (.t 48), none⟩])
      (.seq
       (.seq
        (.reg [⟨(some 49), .move (.t 5), none⟩,
          ⟨(some 50), .nileq .ptr false (.t 49) (.c .nilp), none⟩,
          ⟨(some 51), .move (.t 50), none⟩,
          ⟨(some 52), .move (.t 9), some (51, false)⟩,
          ⟨(some 53), .nileq .ptr false (.t 52) (.c .nilp), some (51, false)⟩,
          ⟨(some 54), .pick (.t 51) (.c (.bool true)) (.t 53), none⟩])
        (.cond (.t 54)
         (.seq
          (.reg [⟨(some 55), .move (.t 5), none⟩,
            ⟨(some 56), .nileq .ptr true (.t 55) (.c .nilp), none⟩,
            ⟨(some 57), .faddr 0 (.t 6), none⟩,
            ⟨(some 58), .load none (.t 57), none⟩,
            ⟨(some 59), .bin .int .eql (.t 58) (.c (.int .i64 0)), none⟩,
            ⟨(some 60), .bin .bool .eql (.t 56) (.t 59), none⟩,
            ⟨(some 61), .move (.t 60), none⟩,
            ⟨(some 62), .move (.t 9), some (61, true)⟩,
            ⟨(some 63), .nileq .ptr true (.t 62) (.c .nilp), some (61, true)⟩,
            ⟨(some 64), .faddr 0 (.t 10), some (61, true)⟩,
            ⟨(some 65), .load none (.t 64), some (61, true)⟩,
            ⟨(some 66), .bin .int .eql (.t 65) (.c (.int .i64 0)), some (61, true)⟩,
            ⟨(some 67), .bin .bool .eql (.t 63) (.t 66), some (61, true)⟩,
            ⟨(some 68), .pick (.t 61) (.t 67) (.c (.bool false)), none⟩,
            ⟨(some 69), .move (.t 68), none⟩,
            ⟨(some 70), .call 29 [], some (69, true)⟩,
            ⟨(some 71), .pick (.t 69) (.t 70) (.c (.bool false)), none⟩,
            ⟨(some 4), .move (.t 71), none⟩])
          .ret)
         .skip))
       (.seq
        (.reg [⟨(some 72), .move (.t 5), none⟩,
          ⟨(some 73), .call 31 [(.t 72)], none⟩,
          ⟨(some 74), .move (.t 9), none⟩,
          ⟨(some 75), .call 31 [(.t 74)], none⟩,
          ⟨(some 11), .move (.t 73), none⟩,
          ⟨(some 12), .move (.t 75), none⟩])
        (.seq
         (.reg [⟨(some 76), .move (.t 12), none⟩,
           ⟨(some 77), .len .slice (.t 76), none⟩,
           ⟨(some 78), .move (.t 11), none⟩,
           ⟨(some 79), .len .slice (.t 78), none⟩,
           ⟨(some 80), .faddr 2 (.t 3), none⟩,
           ⟨(some 81), .load none (.t 80), none⟩,
           ⟨(some 82), .len .slice (.t 81), none⟩,
           ⟨(some 83), .bin .int .add (.t 79) (.t 82), none⟩,
           ⟨(some 84), .bin .int .eql (.t 77) (.t 83), none⟩,
           ⟨(some 85), .move (.t 84), none⟩,
           ⟨(some 86), .move (.t 12), some (85, true)⟩,
           ⟨(some 87), .move (.t 11), some (85, true)⟩,
           ⟨(some 88), .len .slice (.t 87), some (85, true)⟩,
           ⟨(some 89), .cut .slice 5 (.t 86) none (some (.t 88)), some (85, true)⟩,
           ⟨(some 90), .move (.t 11), some (85, true)⟩,
           ⟨(some 91), .call 32 [(.t 89), (.t 90)], some (85, true)⟩,
           ⟨(some 92), .pick (.t 85) (.t 91) (.c (.bool false)), none⟩,
           ⟨(some 93), .move (.t 92), none⟩,
           ⟨(some 94), .call 29 [], some (93, true)⟩,
           ⟨(some 95), .pick (.t 93) (.t 94) (.c (.bool false)), none⟩,
           ⟨(some 4), .move (.t 95), none⟩])
         .ret)))))))))
theorem in9 {args : List AV} {σ : Store} {K : AV → Store → Prop} (hargs : args.length ≤ 96 := by simp) (h : AWP Try.prog Try.f9.ntmps c9 (fun e t s => match e with | .exit _ => False | _ => Res [.slot 4] K t s) (env (argList 0 args)) σ) : ACalls Try.prog 9 args σ K :=
  enter (own := []) Try.func9 (by kernel_rfl) (by kernel_rfl) (by kernel_rfl) hargs h
/-- changeling/changelinglaw08.DeclFinds -/
def c10 : ACode :=
(.seq
 (.reg [⟨(some 2), .move (.c (.bool false)), none⟩])
 (.seq
  (.seq
   (.reg [⟨(some 12), .move (.t 0), none⟩,
     ⟨(some 13), .call 28 [(.t 12)], none⟩,
     ⟨(some 14), .not (.t 13), none⟩])
   (.cond (.t 14)
    (.seq
     (.reg [⟨(some 15), .call 29 [], none⟩,
       ⟨(some 2), .move (.t 15), none⟩])
     .ret)
    .skip))
  (.seq
   (.reg [⟨(some 17), .move (.t 0), none⟩,
     ⟨(some 18), .call 30 [(.t 17)], none⟩,
     ⟨(some 16), .move (.t 18), none⟩,
     ⟨(some 19), .extract (.t 16) 0, none⟩,
     ⟨(some 20), .extract (.t 16) 1, none⟩,
     ⟨(some 4), .new 69 (.c (.agg [(.int .i64 0), (.int .i64 0), (.int .i64 0)])), none⟩,
     ⟨(some 3), .move (.t 19), none⟩,
     ⟨none, .store 3 (.t 4) (.t 20), none⟩])
   (.seq
    (.seq
     (.reg [⟨(some 21), .move (.t 3), none⟩,
       ⟨(some 22), .nileq .ptr false (.t 21) (.c .nilp), none⟩])
     (.cond (.t 22)
      (.seq
       (.reg [⟨(some 23), .faddr 0 (.t 4), none⟩,
         ⟨(some 24), .load none (.t 23), none⟩,
         ⟨(some 25), .bin .int .neq (.t 24) (.c (.int .i64 0)), none⟩,
         ⟨(some 26), .move (.t 25), none⟩,
         ⟨(some 27), .call 29 [], some (26, true)⟩,
         ⟨(some 28), .pick (.t 26) (.t 27) (.c (.bool false)), none⟩,
         ⟨(some 2), .move (.t 28), none⟩])
       .ret)
      .skip))
    (.seq
     (.reg [⟨(some 29), .move (.t 3), none⟩,
       ⟨(some 30), .call 31 [(.t 29)], none⟩,
       ⟨(some 5), .move (.t 30), none⟩])
     (.seq
      (.reg [⟨(some 6), .move (.c (.int .i64 2)), none⟩])
      (.seq
       (.seq
        (.reg [⟨(some 7), .move (.c (.int .i64 0)), none⟩])
        (.block 0
         (.loop
          (.seq
           (.seq
            (.reg [⟨(some 31), .move (.t 7), none⟩,
              ⟨(some 32), .move (.t 0), none⟩,
              ⟨(some 33), .len .slice (.t 32), none⟩,
              ⟨(some 34), .bin .int .lss (.t 31) (.t 33), none⟩])
            (.cond (.t 34)
             .skip
             (.exit 0)))
           (.seq
            (.block 1
             (.reg [⟨(some 37), .move (.t 6), none⟩,
               ⟨(some 38), .move (.t 0), none⟩,
               ⟨(some 39), .move (.t 7), none⟩,
               ⟨(some 40), .iaddr 5 (.t 38) (.t 39), none⟩,
               ⟨(some 41), .faddr 2 (.t 40), none⟩,
               ⟨(some 42), .load none (.t 41), none⟩,
               ⟨(some 43), .len .slice (.t 42), none⟩,
               ⟨(some 44), .bin .int .add (.t 37) (.t 43), none⟩,
               ⟨(some 6), .move (.t 44), none⟩]))
            (.reg [⟨(some 35), .move (.t 7), none⟩,
              ⟨(some 36), .bin .int .add (.t 35) (.c (.int .i64 1)), none⟩,
              ⟨(some 7), .move (.t 36), none⟩]))))))
       (.seq
        (.seq
         (.reg [⟨(some 45), .move (.t 5), none⟩,
           ⟨(some 46), .len .slice (.t 45), none⟩,
           ⟨(some 47), .move (.t 6), none⟩,
           ⟨(some 48), .bin .int .neq (.t 46) (.t 47), none⟩])
         (.cond (.t 48)
          (.seq
           (.reg [⟨(some 2), .move (.c (.bool false)), none⟩])
           .ret)
          .skip))
        (.seq
         (.seq
          (.reg [⟨(some 8), .move (.c (.int .i64 0)), none⟩])
          (.block 2
           (.loop
            (.seq
             (.seq
              (.reg [⟨(some 49), .move (.t 8), none⟩,
                ⟨(some 50), .move (.t 5), none⟩,
                ⟨(some 51), .len .slice (.t 50), none⟩,
                ⟨(some 52), .bin .int .lss (.t 49) (.t 51), none⟩])
              (.cond (.t 52)
               .skip
               (.exit 2)))
             (.seq
              (.block 3
               (.seq
                (.reg [⟨(some 56), .move (.t 3), none⟩,
                  ⟨(some 57), .move (.t 5), none⟩,
                  ⟨(some 58), .move (.t 8), none⟩,
                  ⟨(some 59), .iaddr 5 (.t 57) (.t 58), none⟩,
                  ⟨(some 60), .faddr 0 (.t 59), none⟩,
                  ⟨(some 61), .load none (.t 60), none⟩,
                  ⟨(some 62), .call 33 [(.t 56), (.t 61)], none⟩,
                  ⟨(some 55), .move (.t 62), none⟩,
                  ⟨(some 63), .extract (.t 55) 0, none⟩,
                  ⟨(some 64), .extract (.t 55) 1, none⟩,
                  ⟨(some 9), .new 78 (.c (.agg [(.str ⟨#[]⟩), (.str ⟨#[]⟩), (.int .i64 0), (.int .i64 0), .nils])), none⟩,
                  ⟨none, .store 5 (.t 9) (.t 63), none⟩,
                  ⟨(some 10), .move (.t 64), none⟩])
                (.seq
                 (.reg [⟨(some 65), .move (.t 3), none⟩,
                   ⟨(some 66), .move (.t 5), none⟩,
                   ⟨(some 67), .move (.t 8), none⟩,
                   ⟨(some 68), .iaddr 5 (.t 66) (.t 67), none⟩,
                   ⟨(some 69), .faddr 1 (.t 68), none⟩,
                   ⟨(some 70), .load none (.t 69), none⟩,
                   ⟨(some 71), .call 34 [(.t 65), (.t 70)], none⟩,
                   ⟨(some 11), .move (.t 71), none⟩])
                 (.seq
                  (.reg [⟨(some 72), .move (.t 10), none⟩,
                    ⟨(some 73), .not (.t 72), none⟩,
                    ⟨(some 74), .move (.t 73), none⟩,
                    ⟨(some 75), .load (some 5) (.t 9), some (74, false)⟩,
                    ⟨(some 76), .lit false 78 5 [(.t 75)], some (74, false)⟩,
                    ⟨(some 77), .move (.t 5), some (74, false)⟩,
                    ⟨(some 78), .move (.t 8), some (74, false)⟩,
                    ⟨(some 79), .move (.t 8), some (74, false)⟩,
                    ⟨(some 80), .bin .int .add (.t 79) (.c (.int .i64 1)), some (74, false)⟩,
                    ⟨(some 81), .cut .slice 5 (.t 77) (some (.t 78)) (some (.t 80)), some (74, false)⟩,
                    ⟨(some 82), .call 32 [(.t 76), (.t 81)], some (74, false)⟩,
                    ⟨(some 83), .not (.t 82), some (74, false)⟩,
                    ⟨(some 84), .pick (.t 74) (.c (.bool true)) (.t 83), none⟩,
                    ⟨(some 85), .move (.t 84), none⟩,
                    ⟨(some 86), .faddr 2 (.t 9), some (85, false)⟩,
                    ⟨(some 87), .load none (.t 86), some (85, false)⟩,
                    ⟨(some 88), .bin .int .lss (.t 87) (.c (.int .i64 0)), some (85, false)⟩,
                    ⟨(some 89), .pick (.t 85) (.c (.bool true)) (.t 88), none⟩,
                    ⟨(some 90), .move (.t 89), none⟩,
                    ⟨(some 91), .faddr 2 (.t 9), some (90, false)⟩,
                    ⟨(some 92), .load none (.t 91), some (90, false)⟩,
                    ⟨(some 93), .move (.t 11), some (90, false)⟩,
                    ⟨(some 94), .len .slice (.t 93), some (90, false)⟩,
                    ⟨(some 95), .bin .int .geq (.t 92) (.t 94), some (90, false)⟩,
                    ⟨(some 96), .pick (.t 90) (.c (.bool true)) (.t 95), none⟩,
                    ⟨(some 97), .move (.t 96), none⟩,
                    ⟨(some 98), .move (.t 11), some (97, false)⟩,
                    ⟨(some 99), .faddr 2 (.t 9), some (97, false)⟩,
                    ⟨(some 100), .load none (.t 99), some (97, false)⟩,
                    ⟨(some 101), .iaddr 5 (.t 98) (.t 100), some (97, false)⟩,
                    ⟨(some 102), .faddr 0 (.t 101), some (97, false)⟩,
                    ⟨(some 103), .load none (.t 102), some (97, false)⟩,
                    ⟨(some 104), .faddr 0 (.t 9), some (97, false)⟩,
                    ⟨(some 105), .load none (.t 104), some (97, false)⟩,
                    ⟨(some 106), .bin .str .neq (.t 103) (.t 105), some (97, false)⟩,
                    ⟨(some 107), .pick (.t 97) (.c (.bool true)) (.t 106), none⟩])
                  (.cond (.t 107)
                   (.seq
                    (.reg [⟨(some 2), .move (.c (.bool false)), none⟩])
                    .ret)
                   .skip)))))
              (.reg [⟨(some 53), .move (.t 8), none⟩,
                ⟨(some 54), .bin .int .add (.t 53) (.c (.int .i64 1)), none⟩,
                ⟨(some 8), .move (.t 54), none⟩]))))))
         (.seq
          (.reg [⟨(some 108), .call 29 [], none⟩,
            ⟨(some 2), .move (.t 108), none⟩])
          .ret))))))))))
theorem in10 {args : List AV} {σ : Store} {K : AV → Store → Prop} (hargs : args.length ≤ 109 := by simp) (h : AWP Try.prog Try.f10.ntmps c10 (fun e t s => match e with | .exit _ => False | _ => Res [.slot 2] K t s) (env (argList 0 args)) σ) : ACalls Try.prog 10 args σ K :=
  enter (own := []) Try.func10 (by kernel_rfl) (by kernel_rfl) (by kernel_rfl) hargs h
/-- changeling/changelinglaw08.DeclNil -/
def c11 : ACode :=
(.seq
 (.reg [⟨(some 4), .move (.c (.bool false)), none⟩])
 (.seq
  (.reg [⟨(some 5), .move (.c .nilp), none⟩])
  (.seq
   (.reg [⟨(some 19), .move (.t 5), none⟩,
     ⟨(some 20), .move (.t 0), none⟩,
     ⟨(some 21), .call 33 [(.t 19), (.t 20)], none⟩,
     ⟨(some 18), .move (.t 21), none⟩,
     ⟨(some 22), .extract (.t 18) 0, none⟩,
     ⟨(some 23), .extract (.t 18) 1, none⟩,
     ⟨(some 6), .new 78 (.c (.agg [(.str ⟨#[]⟩), (.str ⟨#[]⟩), (.int .i64 0), (.int .i64 0), .nils])), none⟩,
     ⟨none, .store 5 (.t 6) (.t 22), none⟩,
     ⟨(some 7), .move (.t 23), none⟩])
   (.seq
    (.reg [⟨(some 25), .move (.t 5), none⟩,
      ⟨(some 26), .move (.t 0), none⟩,
      ⟨(some 27), .call 35 [(.t 25), (.t 26)], none⟩,
      ⟨(some 24), .move (.t 27), none⟩,
      ⟨(some 28), .extract (.t 24) 0, none⟩,
      ⟨(some 29), .extract (.t 24) 1, none⟩,
      ⟨(some 8), .move (.t 28), none⟩,
      ⟨(some 9), .move (.t 29), none⟩])
    (.seq
     (.reg [⟨(some 31), .move (.t 5), none⟩,
       ⟨(some 32), .move (.t 0), none⟩,
       ⟨(some 33), .call 36 [(.t 31), (.t 32)], none⟩,
       ⟨(some 30), .move (.t 33), none⟩,
       ⟨(some 34), .extract (.t 30) 0, none⟩,
       ⟨(some 35), .extract (.t 30) 1, none⟩,
       ⟨(some 10), .new 85 (.c (.agg [(.int .i64 0), (.int .i64 0), (.str ⟨#[]⟩), .nils])), none⟩,
       ⟨none, .store 4 (.t 10) (.t 34), none⟩,
       ⟨(some 11), .move (.t 35), none⟩])
     (.seq
      (.seq
       (.reg [⟨(some 36), .move (.t 7), none⟩,
         ⟨(some 37), .move (.t 36), none⟩,
         ⟨(some 38), .move (.t 9), some (37, false)⟩,
         ⟨(some 39), .pick (.t 37) (.c (.bool true)) (.t 38), none⟩,
         ⟨(some 40), .move (.t 39), none⟩,
         ⟨(some 41), .move (.t 11), some (40, false)⟩,
         ⟨(some 42), .pick (.t 40) (.c (.bool true)) (.t 41), none⟩,
         ⟨(some 43), .move (.t 42), none⟩,
         ⟨(some 44), .move (.t 8), some (43, false)⟩,
         ⟨(some 45), .bin .int .neq (.t 44) (.c (.int .i64 0)), some (43, false)⟩,
         ⟨(some 46), .pick (.t 43) (.c (.bool true)) (.t 45), none⟩,
         ⟨(some 47), .move (.t 46), none⟩,
         ⟨(some 48), .faddr 0 (.t 6), some (47, false)⟩,
         ⟨(some 49), .load none (.t 48), some (47, false)⟩,
         ⟨(some 50), .bin .str .neq (.t 49) (.c (.str ⟨#[]⟩)), some (47, false)⟩,
         ⟨(some 51), .pick (.t 47) (.c (.bool true)) (.t 50), none⟩,
         ⟨(some 52), .move (.t 51), none⟩,
         ⟨(some 53), .faddr 0 (.t 10), some (52, false)⟩,
         ⟨(some 54), .load none (.t 53), some (52, false)⟩,
         ⟨(some 55), .bin .int .neq (.t 54) (.c (.int .i64 0)), some (52, false)⟩,
         ⟨(some 56), .pick (.t 52) (.c (.bool true)) (.t 55), none⟩,
         ⟨(some 57), .move (.t 56), none⟩,
         ⟨(some 58), .move (.t 5), some (57, false)⟩,
         ⟨(some 59), .move (.t 0), some (57, false)⟩,
         ⟨(some 60), .call 34 [(.t 58), (.t 59)], some (57, false)⟩,
         ⟨(some 61), .len .slice (.t 60), some (57, false)⟩,
         ⟨(some 62), .bin .int .neq (.t 61) (.c (.int .i64 0)), some (57, false)⟩,
         ⟨(some 63), .pick (.t 57) (.c (.bool true)) (.t 62), none⟩,
         ⟨(some 64), .move (.t 63), none⟩,
         ⟨(some 65), .move (.t 5), some (64, false)⟩,
         ⟨(some 66), .call 31 [(.t 65)], some (64, false)⟩,
         ⟨(some 67), .len .slice (.t 66), some (64, false)⟩,
         ⟨(some 68), .bin .int .neq (.t 67) (.c (.int .i64 0)), some (64, false)⟩,
         ⟨(some 69), .pick (.t 64) (.c (.bool true)) (.t 68), none⟩])
       (.cond (.t 69)
        (.seq
         (.reg [⟨(some 4), .move (.c (.bool false)), none⟩])
         .ret)
        .skip))
      (.seq
       (.seq
        (.reg [⟨(some 70), .move (.t 1), none⟩,
          ⟨(some 71), .call 28 [(.t 70)], none⟩,
          ⟨(some 72), .not (.t 71), none⟩])
        (.cond (.t 72)
         (.seq
          (.reg [⟨(some 73), .call 29 [], none⟩,
            ⟨(some 4), .move (.t 73), none⟩])
          .ret)
         .skip))
       (.seq
        (.reg [⟨(some 75), .move (.t 1), none⟩,
          ⟨(some 76), .call 30 [(.t 75)], none⟩,
          ⟨(some 74), .move (.t 76), none⟩,
          ⟨(some 77), .extract (.t 74) 0, none⟩,
          ⟨(some 78), .extract (.t 74) 1, none⟩,
          ⟨(some 13), .new 69 (.c (.agg [(.int .i64 0), (.int .i64 0), (.int .i64 0)])), none⟩,
          ⟨(some 12), .move (.t 77), none⟩,
          ⟨none, .store 3 (.t 13) (.t 78), none⟩])
        (.seq
         (.seq
          (.reg [⟨(some 79), .move (.t 12), none⟩,
            ⟨(some 80), .nileq .ptr false (.t 79) (.c .nilp), none⟩])
          (.cond (.t 80)
           (.seq
            (.reg [⟨(some 81), .call 29 [], none⟩,
              ⟨(some 4), .move (.t 81), none⟩])
            .ret)
           .skip))
         (.seq
          (.reg [⟨(some 82), .move (.t 12), none⟩,
            ⟨(some 83), .call 31 [(.t 82)], none⟩,
            ⟨(some 84), .move (.t 12), none⟩,
            ⟨(some 85), .call 31 [(.t 84)], none⟩,
            ⟨(some 14), .move (.t 83), none⟩,
            ⟨(some 15), .move (.t 85), none⟩])
          (.seq
           (.seq
            (.reg [⟨(some 16), .move (.c (.int .i64 0)), none⟩])
            (.block 0
             (.loop
              (.seq
               (.seq
                (.reg [⟨(some 86), .move (.t 16), none⟩,
                  ⟨(some 87), .move (.t 14), none⟩,
                  ⟨(some 88), .len .slice (.t 87), none⟩,
                  ⟨(some 89), .bin .int .lss (.t 86) (.t 88), none⟩])
                (.cond (.t 89)
                 .skip
                 (.exit 0)))
               (.seq
                (.block 1
                 (.seq
                  (.reg [⟨(some 17), .move (.c (.int .i64 0)), none⟩])
                  (.block 2
                   (.loop
                    (.seq
                     (.seq
                      (.reg [⟨(some 92), .move (.t 17), none⟩,
                        ⟨(some 93), .move (.t 14), none⟩,
                        ⟨(some 94), .move (.t 16), none⟩,
                        ⟨(some 95), .iaddr 5 (.t 93) (.t 94), none⟩,
                        ⟨(some 96), .faddr 4 (.t 95), none⟩,
                        ⟨(some 97), .load none (.t 96), none⟩,
                        ⟨(some 98), .len .slice (.t 97), none⟩,
                        ⟨(some 99), .bin .int .lss (.t 92) (.t 98), none⟩])
                      (.cond (.t 99)
                       .skip
                       (.exit 2)))
                     (.seq
                      (.block 3
                       (.reg [⟨(some 102), .move (.t 14), none⟩,
                         ⟨(some 103), .move (.t 16), none⟩,
                         ⟨(some 104), .iaddr 5 (.t 102) (.t 103), none⟩,
                         ⟨(some 105), .faddr 4 (.t 104), none⟩,
                         ⟨(some 106), .load none (.t 105), none⟩,
                         ⟨(some 107), .move (.t 17), none⟩,
                         ⟨(some 108), .build [(.int .i64 0), (.int .i64 0), (.str ⟨#[]⟩), .nils] [], none⟩,
                         ⟨(some 109), .iaddr 4 (.t 106) (.t 107), none⟩,
                         ⟨none, .store 4 (.t 109) (.t 108), none⟩]))
                      (.reg [⟨(some 100), .move (.t 17), none⟩,
                        ⟨(some 101), .bin .int .add (.t 100) (.c (.int .i64 1)), none⟩,
                        ⟨(some 17), .move (.t 101), none⟩])))))))
                (.reg [⟨(some 90), .move (.t 16), none⟩,
                  ⟨(some 91), .bin .int .add (.t 90) (.c (.int .i64 1)), none⟩,
                  ⟨(some 16), .move (.t 91), none⟩]))))))
           (.seq
            (.reg [⟨(some 110), .move (.t 12), none⟩,
              ⟨(some 111), .call 31 [(.t 110)], none⟩,
              ⟨(some 112), .move (.t 15), none⟩,
              ⟨(some 113), .call 32 [(.t 111), (.t 112)], none⟩,
              ⟨(some 114), .move (.t 113), none⟩,
              ⟨(some 115), .call 29 [], some (114, true)⟩,
              ⟨(some 116), .pick (.t 114) (.t 115) (.c (.bool false)), none⟩,
              ⟨(some 4), .move (.t 116), none⟩])
            .ret))))))))))))
theorem in11 {args : List AV} {σ : Store} {K : AV → Store → Prop} (hargs : args.length ≤ 117 := by simp) (h : AWP Try.prog Try.f11.ntmps c11 (fun e t s => match e with | .exit _ => False | _ => Res [.slot 4] K t s) (env (argList 0 args)) σ) : ACalls Try.prog 11 args σ K :=
  enter (own := []) Try.func11 (by kernel_rfl) (by kernel_rfl) (by kernel_rfl) hargs h
/-- changeling/changelinglaw08.few -/
def c28 : ACode :=
(.seq
 (.reg [⟨(some 2), .move (.c (.bool false)), none⟩])
 (.seq
  (.seq
   (.reg [⟨(some 5), .move (.t 0), none⟩,
     ⟨(some 6), .len .slice (.t 5), none⟩,
     ⟨(some 7), .bin .int .gtr (.t 6) (.c (.int .i64 30)), none⟩])
   (.cond (.t 7)
    (.seq
     (.reg [⟨(some 2), .move (.c (.bool false)), none⟩])
     .ret)
    .skip))
  (.seq
   (.seq
    (.reg [⟨(some 3), .move (.c (.int .i64 0)), none⟩])
    (.block 0
     (.loop
      (.seq
       (.seq
        (.reg [⟨(some 8), .move (.t 3), none⟩,
          ⟨(some 9), .move (.t 0), none⟩,
          ⟨(some 10), .len .slice (.t 9), none⟩,
          ⟨(some 11), .bin .int .lss (.t 8) (.t 10), none⟩])
        (.cond (.t 11)
         .skip
         (.exit 0)))
       (.seq
        (.block 1
         (.seq
          (.seq
           (.reg [⟨(some 14), .move (.t 0), none⟩,
             ⟨(some 15), .move (.t 3), none⟩,
             ⟨(some 16), .iaddr 5 (.t 14) (.t 15), none⟩,
             ⟨(some 17), .faddr 2 (.t 16), none⟩,
             ⟨(some 18), .load none (.t 17), none⟩,
             ⟨(some 19), .len .slice (.t 18), none⟩,
             ⟨(some 20), .bin .int .gtr (.t 19) (.c (.int .i64 30)), none⟩,
             ⟨(some 21), .move (.t 20), none⟩,
             ⟨(some 22), .move (.t 0), some (21, false)⟩,
             ⟨(some 23), .move (.t 3), some (21, false)⟩,
             ⟨(some 24), .iaddr 5 (.t 22) (.t 23), some (21, false)⟩,
             ⟨(some 25), .faddr 1 (.t 24), some (21, false)⟩,
             ⟨(some 26), .load none (.t 25), some (21, false)⟩,
             ⟨(some 27), .len .slice (.t 26), some (21, false)⟩,
             ⟨(some 28), .bin .int .gtr (.t 27) (.c (.int .i64 30)), some (21, false)⟩,
             ⟨(some 29), .pick (.t 21) (.c (.bool true)) (.t 28), none⟩])
           (.cond (.t 29)
            (.seq
             (.reg [⟨(some 2), .move (.c (.bool false)), none⟩])
             .ret)
            .skip))
          (.seq
           (.reg [⟨(some 4), .move (.c (.int .i64 0)), none⟩])
           (.block 2
            (.loop
             (.seq
              (.seq
               (.reg [⟨(some 30), .move (.t 4), none⟩,
                 ⟨(some 31), .move (.t 0), none⟩,
                 ⟨(some 32), .move (.t 3), none⟩,
                 ⟨(some 33), .iaddr 5 (.t 31) (.t 32), none⟩,
                 ⟨(some 34), .faddr 2 (.t 33), none⟩,
                 ⟨(some 35), .load none (.t 34), none⟩,
                 ⟨(some 36), .len .slice (.t 35), none⟩,
                 ⟨(some 37), .bin .int .lss (.t 30) (.t 36), none⟩])
               (.cond (.t 37)
                .skip
                (.exit 2)))
              (.seq
               (.block 3
                (.seq
                 (.reg [⟨(some 40), .move (.t 0), none⟩,
                   ⟨(some 41), .move (.t 3), none⟩,
                   ⟨(some 42), .iaddr 5 (.t 40) (.t 41), none⟩,
                   ⟨(some 43), .faddr 2 (.t 42), none⟩,
                   ⟨(some 44), .load none (.t 43), none⟩,
                   ⟨(some 45), .move (.t 4), none⟩,
                   ⟨(some 46), .iaddr 4 (.t 44) (.t 45), none⟩,
                   ⟨(some 47), .faddr 1 (.t 46), none⟩,
                   ⟨(some 48), .load none (.t 47), none⟩,
                   ⟨(some 49), .len .slice (.t 48), none⟩,
                   ⟨(some 50), .bin .int .gtr (.t 49) (.c (.int .i64 30)), none⟩])
                 (.cond (.t 50)
                  (.seq
                   (.reg [⟨(some 2), .move (.c (.bool false)), none⟩])
                   .ret)
                  .skip)))
               (.reg [⟨(some 38), .move (.t 4), none⟩,
                 ⟨(some 39), .bin .int .add (.t 38) (.c (.int .i64 1)), none⟩,
                 ⟨(some 4), .move (.t 39), none⟩]))))))))
        (.reg [⟨(some 12), .move (.t 3), none⟩,
          ⟨(some 13), .bin .int .add (.t 12) (.c (.int .i64 1)), none⟩,
          ⟨(some 3), .move (.t 13), none⟩]))))))
   (.seq
    (.reg [⟨(some 2), .move (.c (.bool true)), none⟩])
    .ret))))
theorem in28 {args : List AV} {σ : Store} {K : AV → Store → Prop} (hargs : args.length ≤ 51 := by simp) (h : AWP Try.prog Try.f28.ntmps c28 (fun e t s => match e with | .exit _ => False | _ => Res [.slot 2] K t s) (env (argList 0 args)) σ) : ACalls Try.prog 28 args σ K :=
  enter (own := []) Try.func28 (by kernel_rfl) (by kernel_rfl) (by kernel_rfl) hargs h
/-- changeling/changelinglaw08.known -/
def c29 : ACode :=
(.seq
 (.reg [⟨(some 0), .move (.c (.bool false)), none⟩])
 (.seq
  (.reg [⟨(some 11), .build [(.int .i64 0), (.int .i64 0), (.str ⟨#[]⟩), .nils] [(0, 1, (.c (.int .i64 1))), (2, 1, (.c (.str ⟨#[97]⟩)))], none⟩,
    ⟨(some 1), .new 85 (.c (.agg [(.int .i64 0), (.int .i64 0), (.str ⟨#[]⟩), .nils])), none⟩,
    ⟨none, .store 4 (.t 1) (.t 11), none⟩])
  (.seq
   (.reg [⟨(some 12), .lit false 9 1 [(.c (.str ⟨#[97]⟩))], none⟩,
     ⟨(some 13), .build [(.str ⟨#[]⟩), .nils, (.int .i64 0), (.int .i64 0)] [(0, 1, (.c (.str ⟨#[78]⟩)))], none⟩,
     ⟨(some 14), .load (some 4) (.t 1), none⟩,
     ⟨(some 15), .load (some 4) (.t 1), none⟩,
     ⟨(some 16), .lit false 85 4 [(.t 15)], none⟩,
     ⟨(some 17), .build [(.int .i64 0), (.int .i64 0), (.str ⟨#[]⟩), .nils] [(0, 1, (.c (.int .i64 2))), (2, 1, (.c (.str ⟨#[76]⟩))), (3, 1, (.t 16))], none⟩,
     ⟨(some 18), .lit false 85 4 [(.t 14), (.t 17)], none⟩,
     ⟨(some 19), .build [(.str ⟨#[]⟩), .nils, (.int .i64 0), (.int .i64 0)] [(0, 1, (.c (.str ⟨#[67]⟩))), (1, 1, (.t 18))], none⟩,
     ⟨(some 20), .lit false 105 4 [(.t 13), (.t 19)], none⟩,
     ⟨(some 21), .build [(.str ⟨#[]⟩), .nils, .nils, (.int .i64 0), (.int .i64 0)] [(0, 1, (.c (.str ⟨#[76]⟩))), (1, 1, (.t 12)), (2, 1, (.t 20))], none⟩,
     ⟨(some 2), .new 65 (.c (.agg [(.str ⟨#[]⟩), .nils, .nils, (.int .i64 0), (.int .i64 0)])), none⟩,
     ⟨none, .store 5 (.t 2) (.t 21), none⟩])
   (.seq
    (.reg [⟨(some 23), .load (some 5) (.t 2), none⟩,
      ⟨(some 24), .lit false 65 5 [(.t 23)], none⟩,
      ⟨(some 25), .call 30 [(.t 24)], none⟩,
      ⟨(some 22), .move (.t 25), none⟩,
      ⟨(some 26), .extract (.t 22) 0, none⟩,
      ⟨(some 27), .extract (.t 22) 1, none⟩,
      ⟨(some 4), .new 69 (.c (.agg [(.int .i64 0), (.int .i64 0), (.int .i64 0)])), none⟩,
      ⟨(some 3), .move (.t 26), none⟩,
      ⟨none, .store 3 (.t 4) (.t 27), none⟩])
    (.seq
     (.seq
      (.reg [⟨(some 28), .move (.t 3), none⟩,
        ⟨(some 29), .nileq .ptr false (.t 28) (.c .nilp), none⟩,
        ⟨(some 30), .move (.t 29), none⟩,
        ⟨(some 31), .faddr 0 (.t 4), some (30, false)⟩,
        ⟨(some 32), .load none (.t 31), some (30, false)⟩,
        ⟨(some 33), .bin .int .neq (.t 32) (.c (.int .i64 0)), some (30, false)⟩,
        ⟨(some 34), .pick (.t 30) (.c (.bool true)) (.t 33), none⟩])
      (.cond (.t 34)
       (.seq
        (.reg [⟨(some 0), .move (.c (.bool false)), none⟩])
        .ret)
       .skip))
     (.seq
      (.reg [⟨(some 36), .move (.t 3), none⟩,
        ⟨(some 37), .call 33 [(.t 36), (.c (.str ⟨#[67]⟩))], none⟩,
        ⟨(some 35), .move (.t 37), none⟩,
        ⟨(some 38), .extract (.t 35) 0, none⟩,
        ⟨(some 39), .extract (.t 35) 1, none⟩,
        ⟨(some 5), .new 78 (.c (.agg [(.str ⟨#[]⟩), (.str ⟨#[]⟩), (.int .i64 0), (.int .i64 0), .nils])), none⟩,
        ⟨none, .store 5 (.t 5) (.t 38), none⟩,
        ⟨(some 6), .move (.t 39), none⟩])
      (.seq
       (.reg [⟨(some 41), .move (.t 3), none⟩,
         ⟨(some 42), .call 33 [(.t 41), (.c (.str ⟨#[84, 114, 117, 101]⟩))], none⟩,
         ⟨(some 40), .move (.t 42), none⟩,
         ⟨(some 43), .extract (.t 40) 0, none⟩,
         ⟨(some 44), .extract (.t 40) 1, none⟩,
         ⟨(some 7), .new 78 (.c (.agg [(.str ⟨#[]⟩), (.str ⟨#[]⟩), (.int .i64 0), (.int .i64 0), .nils])), none⟩,
         ⟨none, .store 5 (.t 7) (.t 43), none⟩,
         ⟨(some 8), .move (.t 44), none⟩])
       (.seq
        (.reg [⟨(some 46), .move (.t 3), none⟩,
          ⟨(some 47), .call 35 [(.t 46), (.c (.str ⟨#[88]⟩))], none⟩,
          ⟨(some 45), .move (.t 47), none⟩,
          ⟨(some 48), .extract (.t 45) 0, none⟩,
          ⟨(some 49), .extract (.t 45) 1, none⟩,
          ⟨(some 9), .move (.t 48), none⟩,
          ⟨(some 10), .move (.t 49), none⟩])
        (.seq
         (.reg [⟨(some 50), .move (.t 6), none⟩,
           ⟨(some 51), .move (.t 50), none⟩,
           ⟨(some 52), .faddr 2 (.t 5), some (51, true)⟩,
           ⟨(some 53), .load none (.t 52), some (51, true)⟩,
           ⟨(some 54), .bin .int .eql (.t 53) (.c (.int .i64 1)), some (51, true)⟩,
           ⟨(some 55), .pick (.t 51) (.t 54) (.c (.bool false)), none⟩,
           ⟨(some 56), .move (.t 55), none⟩,
           ⟨(some 57), .faddr 3 (.t 5), some (56, true)⟩,
           ⟨(some 58), .load none (.t 57), some (56, true)⟩,
           ⟨(some 59), .bin .int .eql (.t 58) (.c (.int .i64 1)), some (56, true)⟩,
           ⟨(some 60), .pick (.t 56) (.t 59) (.c (.bool false)), none⟩,
           ⟨(some 61), .move (.t 60), none⟩,
           ⟨(some 62), .faddr 4 (.t 5), some (61, true)⟩,
           ⟨(some 63), .load none (.t 62), some (61, true)⟩,
           ⟨(some 64), .len .slice (.t 63), some (61, true)⟩,
           ⟨(some 65), .bin .int .eql (.t 64) (.c (.int .i64 2)), some (61, true)⟩,
           ⟨(some 66), .pick (.t 61) (.t 65) (.c (.bool false)), none⟩,
           ⟨(some 67), .move (.t 66), none⟩,
           ⟨(some 68), .faddr 4 (.t 5), some (67, true)⟩,
           ⟨(some 69), .load none (.t 68), some (67, true)⟩,
           ⟨(some 70), .iaddr 4 (.t 69) (.c (.int .i64 1)), some (67, true)⟩,
           ⟨(some 71), .faddr 2 (.t 70), some (67, true)⟩,
           ⟨(some 72), .load none (.t 71), some (67, true)⟩,
           ⟨(some 73), .bin .str .eql (.t 72) (.c (.str ⟨#[76]⟩)), some (67, true)⟩,
           ⟨(some 74), .pick (.t 67) (.t 73) (.c (.bool false)), none⟩,
           ⟨(some 75), .move (.t 74), none⟩,
           ⟨(some 76), .move (.t 8), some (75, true)⟩,
           ⟨(some 77), .pick (.t 75) (.t 76) (.c (.bool false)), none⟩,
           ⟨(some 78), .move (.t 77), none⟩,
           ⟨(some 79), .faddr 1 (.t 7), some (78, true)⟩,
           ⟨(some 80), .load none (.t 79), some (78, true)⟩,
           ⟨(some 81), .bin .str .eql (.t 80) (.c (.str ⟨#[66, 111, 111, 108]⟩)), some (78, true)⟩,
           ⟨(some 82), .pick (.t 78) (.t 81) (.c (.bool false)), none⟩,
           ⟨(some 83), .move (.t 82), none⟩,
           ⟨(some 84), .faddr 2 (.t 7), some (83, true)⟩,
           ⟨(some 85), .load none (.t 84), some (83, true)⟩,
           ⟨(some 86), .bin .int .eql (.t 85) (.c (.int .i64 1)), some (83, true)⟩,
           ⟨(some 87), .pick (.t 83) (.t 86) (.c (.bool false)), none⟩,
           ⟨(some 88), .move (.t 87), none⟩,
           ⟨(some 89), .move (.t 10), some (88, true)⟩,
           ⟨(some 90), .not (.t 89), some (88, true)⟩,
           ⟨(some 91), .pick (.t 88) (.t 90) (.c (.bool false)), none⟩,
           ⟨(some 0), .move (.t 91), none⟩])
         .ret)))))))))
theorem in29 {args : List AV} {σ : Store} {K : AV → Store → Prop} (hargs : args.length ≤ 92 := by simp) (h : AWP Try.prog Try.f29.ntmps c29 (fun e t s => match e with | .exit _ => False | _ => Res [.slot 0] K t s) (env (argList 0 args)) σ) : ACalls Try.prog 29 args σ K :=
  enter (own := []) Try.func29 (by kernel_rfl) (by kernel_rfl) (by kernel_rfl) hargs h
/-- changeling/decl.New -/
def c30 : ACode :=
(.seq
 (.reg [⟨(some 2), .move (.c .nilp), none⟩,
   ⟨(some 3), .new 69 (.c (.agg [(.int .i64 0), (.int .i64 0), (.int .i64 0)])), none⟩])
 (.seq
  (.reg [⟨(some 13), .call 48 [], none⟩,
    ⟨(some 4), .move (.t 13), none⟩])
  (.seq
   (.seq
    (.reg [⟨(some 14), .move (.t 0), none⟩,
      ⟨(some 15), .len .slice (.t 14), none⟩,
      ⟨(some 16), .move (.c (.int .i64 0)), none⟩])
    (.block 0
     (.loop
      (.seq
       (.reg [⟨(some 17), .bin .int .lss (.t 16) (.t 15), none⟩])
       (.seq
        (.cond (.t 17)
         .skip
         (.exit 0))
        (.seq
         (.block 1
          (.seq
           (.reg [⟨(some 18), .iaddr 5 (.t 14) (.t 16), none⟩,
             ⟨(some 19), .load (some 5) (.t 18), none⟩,
             ⟨(some 6), .new 65 (.c (.agg [(.str ⟨#[]⟩), .nils, .nils, (.int .i64 0), (.int .i64 0)])), none⟩,
             ⟨none, .store 5 (.t 6) (.t 19), none⟩])
           (.seq
            (.reg [⟨(some 20), .move (.t 4), none⟩,
              ⟨(some 21), .load (some 5) (.t 6), none⟩,
              ⟨(some 22), .call 49 [(.t 20), (.t 21)], none⟩,
              ⟨(some 7), .move (.t 22), none⟩])
            (.seq
             (.reg [⟨(some 23), .move (.t 7), none⟩,
               ⟨(some 24), .bin .int .neq (.t 23) (.c (.int .i64 0)), none⟩])
             (.cond (.t 24)
              (.seq
               (.reg [⟨(some 25), .move (.t 7), none⟩,
                 ⟨(some 26), .faddr 3 (.t 6), none⟩,
                 ⟨(some 27), .load (some 2) (.t 26), none⟩,
                 ⟨(some 28), .build [(.int .i64 0), (.int .i64 0), (.int .i64 0)] [(0, 1, (.t 25)), (1, 2, (.t 27))], none⟩,
                 ⟨(some 2), .move (.c .nilp), none⟩,
                 ⟨none, .store 3 (.t 3) (.t 28), none⟩])
               .ret)
              .skip)))))
         (.reg [⟨(some 29), .bin .int .add (.t 16) (.c (.int .i64 1)), none⟩,
           ⟨(some 16), .move (.t 29), none⟩])))))))
   (.seq
    (.seq
     (.reg [⟨(some 30), .move (.t 0), none⟩,
       ⟨(some 31), .len .slice (.t 30), none⟩,
       ⟨(some 32), .move (.c (.int .i64 0)), none⟩])
     (.block 2
      (.loop
       (.seq
        (.reg [⟨(some 33), .bin .int .lss (.t 32) (.t 31), none⟩])
        (.seq
         (.cond (.t 33)
          .skip
          (.exit 2))
         (.seq
          (.block 3
           (.seq
            (.reg [⟨(some 34), .iaddr 5 (.t 30) (.t 32), none⟩,
              ⟨(some 35), .load (some 5) (.t 34), none⟩,
              ⟨(some 9), .new 65 (.c (.agg [(.str ⟨#[]⟩), .nils, .nils, (.int .i64 0), (.int .i64 0)])), none⟩,
              ⟨none, .store 5 (.t 9) (.t 35), none⟩])
            (.seq
             (.reg [⟨(some 36), .faddr 2 (.t 9), none⟩,
               ⟨(some 37), .load none (.t 36), none⟩,
               ⟨(some 38), .len .slice (.t 37), none⟩,
               ⟨(some 39), .move (.c (.int .i64 0)), none⟩])
             (.block 4
              (.loop
               (.seq
                (.reg [⟨(some 40), .bin .int .lss (.t 39) (.t 38), none⟩])
                (.seq
                 (.cond (.t 40)
                  .skip
                  (.exit 4))
                 (.seq
                  (.block 5
                   (.seq
                    (.reg [⟨(some 41), .move (.t 39), none⟩,
                      ⟨(some 42), .iaddr 4 (.t 37) (.t 39), none⟩,
                      ⟨(some 43), .load (some 4) (.t 42), none⟩,
                      ⟨(some 11), .new 105 (.c (.agg [(.str ⟨#[]⟩), .nils, (.int .i64 0), (.int .i64 0)])), none⟩,
                      ⟨(some 10), .move (.t 41), none⟩,
                      ⟨none, .store 4 (.t 11) (.t 43), none⟩])
                    (.seq
                     (.reg [⟨(some 44), .move (.t 4), none⟩,
                       ⟨(some 45), .load (some 5) (.t 9), none⟩,
                       ⟨(some 46), .move (.t 10), none⟩,
                       ⟨(some 47), .load (some 4) (.t 11), none⟩,
                       ⟨(some 48), .call 50 [(.t 44), (.t 45), (.t 46), (.t 47)], none⟩,
                       ⟨(some 12), .move (.t 48), none⟩])
                     (.seq
                      (.reg [⟨(some 49), .move (.t 12), none⟩,
                        ⟨(some 50), .bin .int .neq (.t 49) (.c (.int .i64 0)), none⟩])
                      (.cond (.t 50)
                       (.seq
                        (.reg [⟨(some 51), .move (.t 12), none⟩,
                          ⟨(some 52), .faddr 2 (.t 11), none⟩,
                          ⟨(some 53), .load (some 2) (.t 52), none⟩,
                          ⟨(some 54), .build [(.int .i64 0), (.int .i64 0), (.int .i64 0)] [(0, 1, (.t 51)), (1, 2, (.t 53))], none⟩,
                          ⟨(some 2), .move (.c .nilp), none⟩,
                          ⟨none, .store 3 (.t 3) (.t 54), none⟩])
                        .ret)
                       .skip)))))
                  (.reg [⟨(some 55), .bin .int .add (.t 39) (.c (.int .i64 1)), none⟩,
                    ⟨(some 39), .move (.t 55), none⟩])))))))))
          (.reg [⟨(some 56), .bin .int .add (.t 32) (.c (.int .i64 1)), none⟩,
            ⟨(some 32), .move (.t 56), none⟩])))))))
    (.seq
     (.reg [⟨(some 57), .move (.t 4), none⟩,
       ⟨(some 58), .build [(.int .i64 0), (.int .i64 0), (.int .i64 0)] [], none⟩,
       ⟨(some 2), .move (.t 57), none⟩,
       ⟨none, .store 3 (.t 3) (.t 58), none⟩])
     .ret)))))
theorem in30 {args : List AV} {σ : Store} {K : AV → Store → Prop} (hargs : args.length ≤ 59 := by simp) (h : AWP Try.prog Try.f30.ntmps c30 (fun e t s => match e with | .exit _ => False | _ => Res [.slot 2, .cell 3 (some 3)] K t s) (env (argList 0 args)) σ) : ACalls Try.prog 30 args σ K :=
  enter (own := []) Try.func30 (by kernel_rfl) (by kernel_rfl) (by kernel_rfl) hargs h
/-- (*changeling/decl.Table).All -/
def c31 : ACode :=
(.seq
 (.reg [⟨(some 2), .move (.c .nils), none⟩])
 (.seq
  (.reg [⟨(some 3), .move (.c .nils), none⟩])
  (.seq
   (.seq
    (.reg [⟨(some 8), .move (.t 0), none⟩,
      ⟨(some 9), .nileq .ptr false (.t 8) (.c .nilp), none⟩])
    (.cond (.t 9)
     (.seq
      (.reg [⟨(some 10), .move (.t 3), none⟩,
        ⟨(some 2), .move (.t 10), none⟩])
      .ret)
     .skip))
   (.seq
    (.seq
     (.reg [⟨(some 11), .move (.t 0), none⟩,
       ⟨(some 12), .nilck (.t 11), none⟩,
       ⟨(some 13), .faddr 2 (.t 12), none⟩,
       ⟨(some 14), .load none (.t 13), none⟩,
       ⟨(some 15), .len .slice (.t 14), none⟩,
       ⟨(some 16), .move (.c (.int .i64 0)), none⟩])
     (.block 0
      (.loop
       (.seq
        (.reg [⟨(some 17), .bin .int .lss (.t 16) (.t 15), none⟩])
        (.seq
         (.cond (.t 17)
          .skip
          (.exit 0))
         (.seq
          (.block 1
           (.seq
            (.reg [⟨(some 18), .iaddr 1 (.t 14) (.t 16), none⟩,
              ⟨(some 19), .load none (.t 18), none⟩,
              ⟨(some 5), .move (.t 19), none⟩])
            (.seq
             (.reg [⟨(some 21), .move (.t 0), none⟩,
               ⟨(some 22), .move (.t 5), none⟩,
               ⟨(some 23), .call 33 [(.t 21), (.t 22)], none⟩,
               ⟨(some 20), .move (.t 23), none⟩,
               ⟨(some 24), .extract (.t 20) 0, none⟩,
               ⟨(some 25), .extract (.t 20) 1, none⟩,
               ⟨(some 6), .new 78 (.c (.agg [(.str ⟨#[]⟩), (.str ⟨#[]⟩), (.int .i64 0), (.int .i64 0), .nils])), none⟩,
               ⟨none, .store 5 (.t 6) (.t 24), none⟩,
               ⟨(some 7), .move (.t 25), none⟩])
             (.reg [⟨(some 26), .move (.t 3), none⟩,
               ⟨(some 27), .load (some 5) (.t 6), none⟩,
               ⟨(some 28), .lit false 78 5 [(.t 27)], none⟩,
               ⟨(some 29), .append 78 5 72 (.t 26) (.t 28), none⟩,
               ⟨(some 3), .move (.t 29), none⟩]))))
          (.reg [⟨(some 30), .bin .int .add (.t 16) (.c (.int .i64 1)), none⟩,
            ⟨(some 16), .move (.t 30), none⟩])))))))
    (.seq
     (.reg [⟨(some 31), .move (.t 3), none⟩,
       ⟨(some 2), .move (.t 31), none⟩])
     .ret)))))
theorem in31 {args : List AV} {σ : Store} {K : AV → Store → Prop} (hargs : args.length ≤ 32 := by simp) (h : AWP Try.prog Try.f31.ntmps c31 (fun e t s => match e with | .exit _ => False | _ => Res [.slot 2] K t s) (env (argList 0 args)) σ) : ACalls Try.prog 31 args σ K :=
  enter (own := []) Try.func31 (by kernel_rfl) (by kernel_rfl) (by kernel_rfl) hargs h
/-- changeling/changelingref08.Same -/
def c32 : ACode :=
(.seq
 (.reg [⟨(some 4), .move (.c (.bool false)), none⟩])
 (.seq
  (.seq
   (.reg [⟨(some 8), .move (.t 0), none⟩,
     ⟨(some 9), .len .slice (.t 8), none⟩,
     ⟨(some 10), .move (.t 1), none⟩,
     ⟨(some 11), .len .slice (.t 10), none⟩,
     ⟨(some 12), .bin .int .neq (.t 9) (.t 11), none⟩])
   (.cond (.t 12)
    (.seq
     (.reg [⟨(some 4), .move (.c (.bool false)), none⟩])
     .ret)
    .skip))
  (.seq
   (.seq
    (.reg [⟨(some 5), .move (.c (.int .i64 0)), none⟩])
    (.block 0
     (.loop
      (.seq
       (.seq
        (.reg [⟨(some 13), .move (.t 5), none⟩,
          ⟨(some 14), .move (.t 0), none⟩,
          ⟨(some 15), .len .slice (.t 14), none⟩,
          ⟨(some 16), .bin .int .lss (.t 13) (.t 15), none⟩])
        (.cond (.t 16)
         .skip
         (.exit 0)))
       (.seq
        (.block 1
         (.seq
          (.draw [6, 7] [([⟨(some 19), .move (.t 0), none⟩], []),
            ([⟨(some 20), .move (.t 5), none⟩], []),
            ([⟨(some 21), .iaddr 5 (.t 19) (.t 20), none⟩], []),
            ([⟨(some 22), .load (some 5) (.t 21), none⟩], []),
            ([⟨(some 23), .move (.t 1), none⟩], []),
            ([⟨(some 24), .move (.t 5), none⟩], []),
            ([⟨(some 25), .iaddr 5 (.t 23) (.t 24), none⟩], []),
            ([⟨(some 26), .load (some 5) (.t 25), none⟩], []),
            ([⟨(some 6), .new 78 (.c (.agg [(.str ⟨#[]⟩), (.str ⟨#[]⟩), (.int .i64 0), (.int .i64 0), .nils])), none⟩, ⟨none, .store 5 (.t 6) (.t 22), none⟩], []),
            ([⟨(some 7), .new 78 (.c (.agg [(.str ⟨#[]⟩), (.str ⟨#[]⟩), (.int .i64 0), (.int .i64 0), .nils])), none⟩, ⟨none, .store 5 (.t 7) (.t 26), none⟩], [])])
          (.seq
           (.reg [⟨(some 27), .faddr 0 (.t 6), none⟩,
             ⟨(some 28), .load none (.t 27), none⟩,
             ⟨(some 29), .faddr 0 (.t 7), none⟩,
             ⟨(some 30), .load none (.t 29), none⟩,
             ⟨(some 31), .bin .str .neq (.t 28) (.t 30), none⟩,
             ⟨(some 32), .move (.t 31), none⟩,
             ⟨(some 33), .faddr 1 (.t 6), some (32, false)⟩,
             ⟨(some 34), .load none (.t 33), some (32, false)⟩,
             ⟨(some 35), .faddr 1 (.t 7), some (32, false)⟩,
             ⟨(some 36), .load none (.t 35), some (32, false)⟩,
             ⟨(some 37), .bin .str .neq (.t 34) (.t 36), some (32, false)⟩,
             ⟨(some 38), .pick (.t 32) (.c (.bool true)) (.t 37), none⟩,
             ⟨(some 39), .move (.t 38), none⟩,
             ⟨(some 40), .faddr 2 (.t 6), some (39, false)⟩,
             ⟨(some 41), .load none (.t 40), some (39, false)⟩,
             ⟨(some 42), .faddr 2 (.t 7), some (39, false)⟩,
             ⟨(some 43), .load none (.t 42), some (39, false)⟩,
             ⟨(some 44), .bin .int .neq (.t 41) (.t 43), some (39, false)⟩,
             ⟨(some 45), .pick (.t 39) (.c (.bool true)) (.t 44), none⟩,
             ⟨(some 46), .move (.t 45), none⟩,
             ⟨(some 47), .faddr 3 (.t 6), some (46, false)⟩,
             ⟨(some 48), .load none (.t 47), some (46, false)⟩,
             ⟨(some 49), .faddr 3 (.t 7), some (46, false)⟩,
             ⟨(some 50), .load none (.t 49), some (46, false)⟩,
             ⟨(some 51), .bin .int .neq (.t 48) (.t 50), some (46, false)⟩,
             ⟨(some 52), .pick (.t 46) (.c (.bool true)) (.t 51), none⟩,
             ⟨(some 53), .move (.t 52), none⟩,
             ⟨(some 54), .faddr 4 (.t 6), some (53, false)⟩,
             ⟨(some 55), .load none (.t 54), some (53, false)⟩,
             ⟨(some 56), .faddr 4 (.t 7), some (53, false)⟩,
             ⟨(some 57), .load none (.t 56), some (53, false)⟩,
             ⟨(some 58), .call 51 [(.t 55), (.t 57)], some (53, false)⟩,
             ⟨(some 59), .not (.t 58), some (53, false)⟩,
             ⟨(some 60), .pick (.t 53) (.c (.bool true)) (.t 59), none⟩])
           (.cond (.t 60)
            (.seq
             (.reg [⟨(some 4), .move (.c (.bool false)), none⟩])
             .ret)
            .skip))))
        (.reg [⟨(some 17), .move (.t 5), none⟩,
          ⟨(some 18), .bin .int .add (.t 17) (.c (.int .i64 1)), none⟩,
          ⟨(some 5), .move (.t 18), none⟩]))))))
   (.seq
    (.reg [⟨(some 4), .move (.c (.bool true)), none⟩])
    .ret))))
theorem in32 {args : List AV} {σ : Store} {K : AV → Store → Prop} (hargs : args.length ≤ 61 := by simp) (h : AWP Try.prog Try.f32.ntmps c32 (fun e t s => match e with | .exit _ => False | _ => Res [.slot 4] K t s) (env (argList 0 args)) σ) : ACalls Try.prog 32 args σ K :=
  enter (own := []) Try.func32 (by kernel_rfl) (by kernel_rfl) (by kernel_rfl) hargs h
/-- (*changeling/decl.Table).Con -/
def c33 : ACode :=
(.seq
 (.reg [⟨(some 4), .new 78 (.c (.agg [(.str ⟨#[]⟩), (.str ⟨#[]⟩), (.int .i64 0), (.int .i64 0), .nils])), none⟩,
   ⟨(some 5), .move (.c (.bool false)), none⟩])
 (.seq
  (.seq
   (.reg [⟨(some 11), .move (.t 0), none⟩,
     ⟨(some 12), .nileq .ptr false (.t 11) (.c .nilp), none⟩])
   (.cond (.t 12)
    (.seq
     (.reg [⟨(some 13), .build [(.str ⟨#[]⟩), (.str ⟨#[]⟩), (.int .i64 0), (.int .i64 0), .nils] [], none⟩,
       ⟨none, .store 5 (.t 4) (.t 13), none⟩,
       ⟨(some 5), .move (.c (.bool false)), none⟩])
     .ret)
    .skip))
  (.seq
   (.reg [⟨(some 15), .move (.t 0), none⟩,
     ⟨(some 16), .nilck (.t 15), none⟩,
     ⟨(some 17), .faddr 1 (.t 16), none⟩,
     ⟨(some 18), .load none (.t 17), none⟩,
     ⟨(some 19), .move (.t 1), none⟩,
     ⟨(some 20), .lookup .str (.agg [(.str ⟨#[]⟩), (.str ⟨#[]⟩), (.int .i64 0), (.int .i64 0), .nils]) true (.t 18) (.t 19), none⟩,
     ⟨(some 14), .move (.t 20), none⟩,
     ⟨(some 21), .extract (.t 14) 0, none⟩,
     ⟨(some 22), .extract (.t 14) 1, none⟩,
     ⟨(some 6), .new 78 (.c (.agg [(.str ⟨#[]⟩), (.str ⟨#[]⟩), (.int .i64 0), (.int .i64 0), .nils])), none⟩,
     ⟨none, .store 5 (.t 6) (.t 21), none⟩,
     ⟨(some 7), .move (.t 22), none⟩])
   (.seq
    (.seq
     (.reg [⟨(some 23), .move (.t 7), none⟩,
       ⟨(some 24), .not (.t 23), none⟩])
     (.cond (.t 24)
      (.seq
       (.reg [⟨(some 25), .build [(.str ⟨#[]⟩), (.str ⟨#[]⟩), (.int .i64 0), (.int .i64 0), .nils] [], none⟩,
         ⟨none, .store 5 (.t 4) (.t 25), none⟩,
         ⟨(some 5), .move (.c (.bool false)), none⟩])
       .ret)
      .skip))
    (.seq
     (.reg [⟨(some 8), .move (.c .nils), none⟩])
     (.seq
      (.seq
       (.reg [⟨(some 26), .faddr 4 (.t 6), none⟩,
         ⟨(some 27), .load none (.t 26), none⟩,
         ⟨(some 28), .len .slice (.t 27), none⟩,
         ⟨(some 29), .move (.c (.int .i64 0)), none⟩])
       (.block 0
        (.loop
         (.seq
          (.reg [⟨(some 30), .bin .int .lss (.t 29) (.t 28), none⟩])
          (.seq
           (.cond (.t 30)
            .skip
            (.exit 0))
           (.seq
            (.block 1
             (.seq
              (.reg [⟨(some 31), .iaddr 4 (.t 27) (.t 29), none⟩,
                ⟨(some 32), .load (some 4) (.t 31), none⟩,
                ⟨(some 10), .new 85 (.c (.agg [(.int .i64 0), (.int .i64 0), (.str ⟨#[]⟩), .nils])), none⟩,
                ⟨none, .store 4 (.t 10) (.t 32), none⟩])
              (.reg [⟨(some 33), .move (.t 8), none⟩,
                ⟨(some 34), .load (some 4) (.t 10), none⟩,
                ⟨(some 35), .call 52 [(.t 34)], none⟩,
                ⟨(some 36), .lit false 85 4 [(.t 35)], none⟩,
                ⟨(some 37), .append 85 4 56 (.t 33) (.t 36), none⟩,
                ⟨(some 8), .move (.t 37), none⟩])))
            (.reg [⟨(some 38), .bin .int .add (.t 29) (.c (.int .i64 1)), none⟩,
              ⟨(some 29), .move (.t 38), none⟩])))))))
      (.seq
       (.reg [⟨(some 39), .move (.t 8), none⟩,
         ⟨(some 40), .faddr 4 (.t 6), none⟩,
         ⟨none, .store 1 (.t 40) (.t 39), none⟩])
       (.seq
        (.reg [⟨(some 41), .load (some 5) (.t 6), none⟩,
          ⟨none, .store 5 (.t 4) (.t 41), none⟩,
          ⟨(some 5), .move (.c (.bool true)), none⟩])
        .ret))))))))
theorem in33 {args : List AV} {σ : Store} {K : AV → Store → Prop} (hargs : args.length ≤ 42 := by simp) (h : AWP Try.prog Try.f33.ntmps c33 (fun e t s => match e with | .exit _ => False | _ => Res [.cell 4 (some 5), .slot 5] K t s) (env (argList 0 args)) σ) : ACalls Try.prog 33 args σ K :=
  enter (own := []) Try.func33 (by kernel_rfl) (by kernel_rfl) (by kernel_rfl) hargs h
/-- (*changeling/decl.Table).Cons -/
def c34 : ACode :=
(.seq
 (.reg [⟨(some 4), .move (.c .nils), none⟩])
 (.seq
  (.reg [⟨(some 5), .move (.c .nils), none⟩])
  (.seq
   (.seq
    (.reg [⟨(some 8), .move (.t 0), none⟩,
      ⟨(some 9), .call 31 [(.t 8)], none⟩,
      ⟨(some 10), .len .slice (.t 9), none⟩,
      ⟨(some 11), .move (.c (.int .i64 0)), none⟩])
    (.block 0
     (.loop
      (.seq
       (.reg [⟨(some 12), .bin .int .lss (.t 11) (.t 10), none⟩])
       (.seq
        (.cond (.t 12)
         .skip
         (.exit 0))
        (.seq
         (.block 1
          (.seq
           (.reg [⟨(some 13), .iaddr 5 (.t 9) (.t 11), none⟩,
             ⟨(some 14), .load (some 5) (.t 13), none⟩,
             ⟨(some 7), .new 78 (.c (.agg [(.str ⟨#[]⟩), (.str ⟨#[]⟩), (.int .i64 0), (.int .i64 0), .nils])), none⟩,
             ⟨none, .store 5 (.t 7) (.t 14), none⟩])
           (.seq
            (.reg [⟨(some 15), .faddr 1 (.t 7), none⟩,
              ⟨(some 16), .load none (.t 15), none⟩,
              ⟨(some 17), .move (.t 1), none⟩,
              ⟨(some 18), .bin .str .eql (.t 16) (.t 17), none⟩])
            (.cond (.t 18)
             (.reg [⟨(some 19), .move (.t 5), none⟩,
               ⟨(some 20), .load (some 5) (.t 7), none⟩,
               ⟨(some 21), .lit false 78 5 [(.t 20)], none⟩,
               ⟨(some 22), .append 78 5 72 (.t 19) (.t 21), none⟩,
               ⟨(some 5), .move (.t 22), none⟩])
             .skip))))
         (.reg [⟨(some 23), .bin .int .add (.t 11) (.c (.int .i64 1)), none⟩,
           ⟨(some 11), .move (.t 23), none⟩])))))))
   (.seq
    (.reg [⟨(some 24), .move (.t 5), none⟩,
      ⟨(some 4), .move (.t 24), none⟩])
    .ret))))
theorem in34 {args : List AV} {σ : Store} {K : AV → Store → Prop} (hargs : args.length ≤ 25 := by simp) (h : AWP Try.prog Try.f34.ntmps c34 (fun e t s => match e with | .exit _ => False | _ => Res [.slot 4] K t s) (env (argList 0 args)) σ) : ACalls Try.prog 34 args σ K :=
  enter (own := []) Try.func34 (by kernel_rfl) (by kernel_rfl) (by kernel_rfl) hargs h
/-- (*changeling/decl.Table).Data -/
def c35 : ACode :=
(.seq
 (.reg [⟨(some 4), .move (.c (.int .i64 0)), none⟩,
   ⟨(some 5), .move (.c (.bool false)), none⟩])
 (.seq
  (.seq
   (.reg [⟨(some 8), .move (.t 0), none⟩,
     ⟨(some 9), .nileq .ptr false (.t 8) (.c .nilp), none⟩])
   (.cond (.t 9)
    (.seq
     (.reg [⟨(some 4), .move (.c (.int .i64 0)), none⟩,
       ⟨(some 5), .move (.c (.bool false)), none⟩])
     .ret)
    .skip))
  (.seq
   (.reg [⟨(some 11), .move (.t 0), none⟩,
     ⟨(some 12), .nilck (.t 11), none⟩,
     ⟨(some 13), .faddr 0 (.t 12), none⟩,
     ⟨(some 14), .load none (.t 13), none⟩,
     ⟨(some 15), .move (.t 1), none⟩,
     ⟨(some 16), .lookup .str (.int .i64 0) true (.t 14) (.t 15), none⟩,
     ⟨(some 10), .move (.t 16), none⟩,
     ⟨(some 17), .extract (.t 10) 0, none⟩,
     ⟨(some 18), .extract (.t 10) 1, none⟩,
     ⟨(some 6), .move (.t 17), none⟩,
     ⟨(some 7), .move (.t 18), none⟩])
   (.seq
    (.reg [⟨(some 19), .move (.t 6), none⟩,
      ⟨(some 20), .move (.t 7), none⟩,
      ⟨(some 4), .move (.t 19), none⟩,
      ⟨(some 5), .move (.t 20), none⟩])
    .ret))))
theorem in35 {args : List AV} {σ : Store} {K : AV → Store → Prop} (hargs : args.length ≤ 21 := by simp) (h : AWP Try.prog Try.f35.ntmps c35 (fun e t s => match e with | .exit _ => False | _ => Res [.slot 4, .slot 5] K t s) (env (argList 0 args)) σ) : ACalls Try.prog 35 args σ K :=
  enter (own := []) Try.func35 (by kernel_rfl) (by kernel_rfl) (by kernel_rfl) hargs h
/-- (*changeling/decl.Table).Type -/
def c36 : ACode :=
(.seq
 (.reg [⟨(some 4), .new 85 (.c (.agg [(.int .i64 0), (.int .i64 0), (.str ⟨#[]⟩), .nils])), none⟩,
   ⟨(some 5), .move (.c (.bool false)), none⟩])
 (.seq
  (.reg [⟨(some 13), .move (.t 0), none⟩,
    ⟨(some 14), .move (.t 1), none⟩,
    ⟨(some 15), .call 33 [(.t 13), (.t 14)], none⟩,
    ⟨(some 12), .move (.t 15), none⟩,
    ⟨(some 16), .extract (.t 12) 0, none⟩,
    ⟨(some 17), .extract (.t 12) 1, none⟩,
    ⟨(some 6), .new 78 (.c (.agg [(.str ⟨#[]⟩), (.str ⟨#[]⟩), (.int .i64 0), (.int .i64 0), .nils])), none⟩,
    ⟨none, .store 5 (.t 6) (.t 16), none⟩,
    ⟨(some 7), .move (.t 17), none⟩])
  (.seq
   (.seq
    (.reg [⟨(some 18), .move (.t 7), none⟩,
      ⟨(some 19), .not (.t 18), none⟩])
    (.cond (.t 19)
     (.seq
      (.reg [⟨(some 20), .build [(.int .i64 0), (.int .i64 0), (.str ⟨#[]⟩), .nils] [], none⟩,
        ⟨none, .store 4 (.t 4) (.t 20), none⟩,
        ⟨(some 5), .move (.c (.bool false)), none⟩])
      .ret)
     .skip))
   (.seq
    (.reg [⟨(some 21), .faddr 1 (.t 6), none⟩,
      ⟨(some 22), .load none (.t 21), none⟩,
      ⟨(some 23), .build [(.int .i64 0), (.int .i64 0), (.str ⟨#[]⟩), .nils] [(0, 1, (.c (.int .i64 2))), (2, 1, (.t 22))], none⟩,
      ⟨(some 8), .new 85 (.c (.agg [(.int .i64 0), (.int .i64 0), (.str ⟨#[]⟩), .nils])), none⟩,
      ⟨none, .store 4 (.t 8) (.t 23), none⟩])
    (.seq
     (.seq
      (.reg [⟨(some 24), .faddr 3 (.t 6), none⟩,
        ⟨(some 25), .load none (.t 24), none⟩,
        ⟨(some 26), .move (.c (.int .i64 0)), none⟩])
      (.block 0
       (.loop
        (.seq
         (.reg [⟨(some 27), .bin .int .lss (.t 26) (.t 25), none⟩])
         (.seq
          (.cond (.t 27)
           .skip
           (.exit 0))
          (.seq
           (.block 1
            (.seq
             (.reg [⟨(some 28), .move (.t 26), none⟩,
               ⟨(some 9), .move (.t 28), none⟩])
             (.reg [⟨(some 29), .faddr 3 (.t 8), none⟩,
               ⟨(some 30), .load none (.t 29), none⟩,
               ⟨(some 31), .move (.t 9), none⟩,
               ⟨(some 32), .build [(.int .i64 0), (.int .i64 0), (.str ⟨#[]⟩), .nils] [(0, 1, (.c (.int .i64 1))), (1, 1, (.t 31))], none⟩,
               ⟨(some 33), .lit false 85 4 [(.t 32)], none⟩,
               ⟨(some 34), .append 85 4 56 (.t 30) (.t 33), none⟩,
               ⟨(some 35), .faddr 3 (.t 8), none⟩,
               ⟨none, .store 1 (.t 35) (.t 34), none⟩])))
           (.reg [⟨(some 36), .bin .int .add (.t 26) (.c (.int .i64 1)), none⟩,
             ⟨(some 26), .move (.t 36), none⟩])))))))
     (.seq
      (.seq
       (.reg [⟨(some 37), .faddr 4 (.t 6), none⟩,
         ⟨(some 38), .load none (.t 37), none⟩,
         ⟨(some 39), .len .slice (.t 38), none⟩,
         ⟨(some 40), .bin .int .sub (.t 39) (.c (.int .i64 1)), none⟩,
         ⟨(some 10), .move (.t 40), none⟩])
       (.block 2
        (.loop
         (.seq
          (.seq
           (.reg [⟨(some 41), .move (.t 10), none⟩,
             ⟨(some 42), .bin .int .geq (.t 41) (.c (.int .i64 0)), none⟩])
           (.cond (.t 42)
            .skip
            (.exit 2)))
          (.seq
           (.block 3
            (.seq
             (.reg [⟨(some 45), .load (some 4) (.t 8), none⟩,
               ⟨(some 11), .new 85 (.c (.agg [(.int .i64 0), (.int .i64 0), (.str ⟨#[]⟩), .nils])), none⟩,
               ⟨none, .store 4 (.t 11) (.t 45), none⟩])
             (.reg [⟨(some 46), .faddr 4 (.t 6), none⟩,
               ⟨(some 47), .load none (.t 46), none⟩,
               ⟨(some 48), .move (.t 10), none⟩,
               ⟨(some 49), .iaddr 4 (.t 47) (.t 48), none⟩,
               ⟨(some 50), .load (some 4) (.t 49), none⟩,
               ⟨(some 51), .load (some 4) (.t 11), none⟩,
               ⟨(some 52), .lit false 85 4 [(.t 50), (.t 51)], none⟩,
               ⟨(some 53), .build [(.int .i64 0), (.int .i64 0), (.str ⟨#[]⟩), .nils] [(0, 1, (.c (.int .i64 3))), (3, 1, (.t 52))], none⟩,
               ⟨none, .store 4 (.t 8) (.t 53), none⟩])))
           (.reg [⟨(some 43), .move (.t 10), none⟩,
             ⟨(some 44), .bin .int .sub (.t 43) (.c (.int .i64 1)), none⟩,
             ⟨(some 10), .move (.t 44), none⟩]))))))
      (.seq
       (.reg [⟨(some 54), .load (some 4) (.t 8), none⟩,
         ⟨none, .store 4 (.t 4) (.t 54), none⟩,
         ⟨(some 5), .move (.c (.bool true)), none⟩])
       .ret)))))))
theorem in36 {args : List AV} {σ : Store} {K : AV → Store → Prop} (hargs : args.length ≤ 55 := by simp) (h : AWP Try.prog Try.f36.ntmps c36 (fun e t s => match e with | .exit _ => False | _ => Res [.cell 4 (some 4), .slot 5] K t s) (env (argList 0 args)) σ) : ACalls Try.prog 36 args σ K :=
  enter (own := []) Try.func36 (by kernel_rfl) (by kernel_rfl) (by kernel_rfl) hargs h
/-- changeling/decl.basic -/
def c48 : ACode :=
(.seq
 (.reg [⟨(some 0), .move (.c .nilp), none⟩])
 (.seq
  (.reg [⟨(some 2), .mkmap, none⟩,
    ⟨none, .mapset .str (.t 2) (.c (.str ⟨#[73, 110, 116]⟩)) (.c (.int .i64 0)), none⟩,
    ⟨none, .mapset .str (.t 2) (.c (.str ⟨#[66, 111, 111, 108]⟩)) (.c (.int .i64 0)), none⟩,
    ⟨(some 3), .move (.t 2), none⟩,
    ⟨(some 4), .mkmap, none⟩,
    ⟨(some 5), .build [.nilm, .nilm, .nils] [(0, 1, (.t 3)), (1, 1, (.t 4))], none⟩,
    ⟨(some 6), .new 112 (.t 5), none⟩,
    ⟨(some 1), .move (.t 6), none⟩])
  (.seq
   (.reg [⟨(some 7), .move (.t 1), none⟩,
     ⟨(some 8), .build [(.str ⟨#[]⟩), (.str ⟨#[]⟩), (.int .i64 0), (.int .i64 0), .nils] [(0, 1, (.c (.str ⟨#[70, 97, 108, 115, 101]⟩))), (1, 1, (.c (.str ⟨#[66, 111, 111, 108]⟩)))], none⟩,
     ⟨(some 9), .call 57 [(.t 7), (.t 8)], none⟩])
   (.seq
    (.reg [⟨(some 10), .move (.t 1), none⟩,
      ⟨(some 11), .build [(.str ⟨#[]⟩), (.str ⟨#[]⟩), (.int .i64 0), (.int .i64 0), .nils] [(0, 1, (.c (.str ⟨#[84, 114, 117, 101]⟩))), (1, 1, (.c (.str ⟨#[66, 111, 111, 108]⟩))), (2, 1, (.c (.int .i64 1)))], none⟩,
      ⟨(some 12), .call 57 [(.t 10), (.t 11)], none⟩])
    (.seq
     (.reg [⟨(some 13), .move (.t 1), none⟩,
       ⟨(some 0), .move (.t 13), none⟩])
     .ret)))))
theorem in48 {args : List AV} {σ : Store} {K : AV → Store → Prop} (hargs : args.length ≤ 14 := by simp) (h : AWP Try.prog Try.f48.ntmps c48 (fun e t s => match e with | .exit _ => False | _ => Res [.slot 0] K t s) (env (argList 0 args)) σ) : ACalls Try.prog 48 args σ K :=
  enter (own := []) Try.func48 (by kernel_rfl) (by kernel_rfl) (by kernel_rfl) hargs h
/-- (*changeling/decl.Table).name -/
def c49 : ACode :=
(.seq
 (.reg [⟨(some 3), .new 65 (.t 1), none⟩,
   ⟨(some 4), .move (.c (.int .i64 0)), none⟩])
 (.seq
  (.seq
   (.reg [⟨(some 10), .move (.t 0), none⟩,
     ⟨(some 11), .nilck (.t 10), none⟩,
     ⟨(some 12), .faddr 0 (.t 11), none⟩,
     ⟨(some 13), .load none (.t 12), none⟩,
     ⟨(some 14), .faddr 0 (.t 3), none⟩,
     ⟨(some 15), .load none (.t 14), none⟩,
     ⟨(some 16), .lookup .str (.int .i64 0) true (.t 13) (.t 15), none⟩,
     ⟨(some 9), .move (.t 16), none⟩,
     ⟨(some 17), .extract (.t 9) 0, none⟩,
     ⟨(some 18), .extract (.t 9) 1, none⟩,
     ⟨(some 5), .move (.t 17), none⟩,
     ⟨(some 6), .move (.t 18), none⟩])
   (.seq
    (.reg [⟨(some 19), .move (.t 6), none⟩])
    (.cond (.t 19)
     (.seq
      (.reg [⟨(some 4), .move (.c (.int .i64 80)), none⟩])
      .ret)
     .skip)))
  (.seq
   (.seq
    (.reg [⟨(some 20), .faddr 1 (.t 3), none⟩,
      ⟨(some 21), .load none (.t 20), none⟩,
      ⟨(some 22), .len .slice (.t 21), none⟩,
      ⟨(some 23), .move (.c (.int .i64 0)), none⟩])
    (.block 0
     (.loop
      (.seq
       (.reg [⟨(some 24), .bin .int .lss (.t 23) (.t 22), none⟩])
       (.seq
        (.cond (.t 24)
         .skip
         (.exit 0))
        (.seq
         (.block 1
          (.seq
           (.reg [⟨(some 25), .move (.t 23), none⟩,
             ⟨(some 26), .iaddr 1 (.t 21) (.t 23), none⟩,
             ⟨(some 27), .load none (.t 26), none⟩,
             ⟨(some 7), .move (.t 25), none⟩,
             ⟨(some 8), .move (.t 27), none⟩])
           (.seq
            (.reg [⟨(some 28), .faddr 1 (.t 3), none⟩,
              ⟨(some 29), .load none (.t 28), none⟩,
              ⟨(some 30), .move (.t 7), none⟩,
              ⟨(some 31), .cut .slice 1 (.t 29) none (some (.t 30)), none⟩,
              ⟨(some 32), .move (.t 8), none⟩,
              ⟨(some 33), .call 58 [(.t 31), (.t 32)], none⟩,
              ⟨(some 34), .bin .int .geq (.t 33) (.c (.int .i64 0)), none⟩])
            (.cond (.t 34)
             (.seq
              (.reg [⟨(some 4), .move (.c (.int .i64 80)), none⟩])
              .ret)
             .skip))))
         (.reg [⟨(some 35), .bin .int .add (.t 23) (.c (.int .i64 1)), none⟩,
           ⟨(some 23), .move (.t 35), none⟩])))))))
   (.seq
    (.reg [⟨(some 36), .move (.t 0), none⟩,
      ⟨(some 37), .nilck (.t 36), none⟩,
      ⟨(some 38), .faddr 0 (.t 37), none⟩,
      ⟨(some 39), .load none (.t 38), none⟩,
      ⟨(some 40), .faddr 0 (.t 3), none⟩,
      ⟨(some 41), .load none (.t 40), none⟩,
      ⟨(some 42), .faddr 1 (.t 3), none⟩,
      ⟨(some 43), .load none (.t 42), none⟩,
      ⟨(some 44), .len .slice (.t 43), none⟩,
      ⟨none, .mapset .str (.t 39) (.t 41) (.t 44), none⟩])
    (.seq
     (.reg [⟨(some 4), .move (.c (.int .i64 0)), none⟩])
     .ret)))))
theorem in49 {args : List AV} {σ : Store} {K : AV → Store → Prop} (hargs : args.length ≤ 45 := by simp) (h : AWP Try.prog Try.f49.ntmps c49 (fun e t s => match e with | .exit _ => False | _ => Res [.slot 4] K t s) (env (argList 0 args)) σ) : ACalls Try.prog 49 args σ K :=
  enter (own := []) Try.func49 (by kernel_rfl) (by kernel_rfl) (by kernel_rfl) hargs h
/-- (*changeling/decl.Table).con -/
def c50 : ACode :=
(.seq
 (.reg [⟨(some 5), .new 65 (.t 1), none⟩,
   ⟨(some 7), .new 105 (.t 3), none⟩,
   ⟨(some 8), .move (.c (.int .i64 0)), none⟩])
 (.seq
  (.seq
   (.draw [] [([⟨(some 17), .move (.t 0), none⟩], []),
     ([⟨(some 18), .nilck (.t 17), none⟩], []),
     ([⟨(some 19), .faddr 1 (.t 18), none⟩], []),
     ([⟨(some 20), .load none (.t 19), none⟩], []),
     ([⟨(some 21), .faddr 0 (.t 7), none⟩], []),
     ([⟨(some 22), .load none (.t 21), none⟩], []),
     ([⟨(some 23), .lookup .str (.agg [(.str ⟨#[]⟩), (.str ⟨#[]⟩), (.int .i64 0), (.int .i64 0), .nils]) true (.t 20) (.t 22), none⟩], []),
     ([⟨(some 16), .move (.t 23), none⟩], []),
     ([⟨(some 24), .extract (.t 16) 0, none⟩], []),
     ([⟨(some 25), .extract (.t 16) 1, none⟩], []),
     ([⟨(some 9), .new 78 (.c (.agg [(.str ⟨#[]⟩), (.str ⟨#[]⟩), (.int .i64 0), (.int .i64 0), .nils])), none⟩], [⟨(some 19), .faddr 1 (.t 18), none⟩, ⟨(some 20), .load none (.t 19), none⟩, ⟨(some 21), .faddr 0 (.t 7), none⟩, ⟨(some 22), .load none (.t 21), none⟩, ⟨(some 23), .lookup .str (.agg [(.str ⟨#[]⟩), (.str ⟨#[]⟩), (.int .i64 0), (.int .i64 0), .nils]) true (.t 20) (.t 22), none⟩]),
     ([⟨none, .store 5 (.t 9) (.t 24), none⟩], []),
     ([⟨(some 10), .move (.t 25), none⟩], [])])
   (.seq
    (.reg [⟨(some 26), .move (.t 10), none⟩])
    (.cond (.t 26)
     (.seq
      (.reg [⟨(some 8), .move (.c (.int .i64 80)), none⟩])
      .ret)
     .skip)))
  (.seq
   (.reg [⟨(some 27), .faddr 0 (.t 7), none⟩,
     ⟨(some 28), .load none (.t 27), none⟩,
     ⟨(some 29), .faddr 0 (.t 5), none⟩,
     ⟨(some 30), .load none (.t 29), none⟩,
     ⟨(some 31), .move (.t 2), none⟩,
     ⟨(some 32), .faddr 1 (.t 5), none⟩,
     ⟨(some 33), .load none (.t 32), none⟩,
     ⟨(some 34), .len .slice (.t 33), none⟩,
     ⟨(some 35), .build [(.str ⟨#[]⟩), (.str ⟨#[]⟩), (.int .i64 0), (.int .i64 0), .nils] [(0, 1, (.t 28)), (1, 1, (.t 30)), (2, 1, (.t 31)), (3, 1, (.t 34))], none⟩,
     ⟨(some 11), .new 78 (.c (.agg [(.str ⟨#[]⟩), (.str ⟨#[]⟩), (.int .i64 0), (.int .i64 0), .nils])), none⟩,
     ⟨none, .store 5 (.t 11) (.t 35), none⟩])
   (.seq
    (.seq
     (.reg [⟨(some 36), .faddr 1 (.t 7), none⟩,
       ⟨(some 37), .load none (.t 36), none⟩,
       ⟨(some 38), .len .slice (.t 37), none⟩,
       ⟨(some 39), .move (.c (.int .i64 0)), none⟩])
     (.block 0
      (.loop
       (.seq
        (.reg [⟨(some 40), .bin .int .lss (.t 39) (.t 38), none⟩])
        (.seq
         (.cond (.t 40)
          .skip
          (.exit 0))
         (.seq
          (.block 1
           (.seq
            (.reg [⟨(some 41), .iaddr 4 (.t 37) (.t 39), none⟩,
              ⟨(some 42), .load (some 4) (.t 41), none⟩,
              ⟨(some 13), .new 85 (.c (.agg [(.int .i64 0), (.int .i64 0), (.str ⟨#[]⟩), .nils])), none⟩,
              ⟨none, .store 4 (.t 13) (.t 42), none⟩])
            (.seq
             (.reg [⟨(some 44), .move (.t 0), none⟩,
               ⟨(some 45), .faddr 1 (.t 5), none⟩,
               ⟨(some 46), .load none (.t 45), none⟩,
               ⟨(some 47), .load (some 4) (.t 13), none⟩,
               ⟨(some 48), .call 59 [(.t 44), (.t 46), (.t 47)], none⟩,
               ⟨(some 43), .move (.t 48), none⟩,
               ⟨(some 49), .extract (.t 43) 0, none⟩,
               ⟨(some 50), .extract (.t 43) 1, none⟩,
               ⟨(some 14), .new 85 (.c (.agg [(.int .i64 0), (.int .i64 0), (.str ⟨#[]⟩), .nils])), none⟩,
               ⟨none, .store 4 (.t 14) (.t 49), none⟩,
               ⟨(some 15), .move (.t 50), none⟩])
             (.seq
              (.seq
               (.reg [⟨(some 51), .move (.t 15), none⟩,
                 ⟨(some 52), .bin .int .neq (.t 51) (.c (.int .i64 0)), none⟩])
               (.cond (.t 52)
                (.seq
                 (.reg [⟨(some 53), .move (.t 15), none⟩,
                   ⟨(some 8), .move (.t 53), none⟩])
                 .ret)
                .skip))
              (.reg [⟨(some 54), .faddr 4 (.t 11), none⟩,
                ⟨(some 55), .load none (.t 54), none⟩,
                ⟨(some 56), .load (some 4) (.t 14), none⟩,
                ⟨(some 57), .lit false 85 4 [(.t 56)], none⟩,
                ⟨(some 58), .append 85 4 56 (.t 55) (.t 57), none⟩,
                ⟨(some 59), .faddr 4 (.t 11), none⟩,
                ⟨none, .store 1 (.t 59) (.t 58), none⟩])))))
          (.reg [⟨(some 60), .bin .int .add (.t 39) (.c (.int .i64 1)), none⟩,
            ⟨(some 39), .move (.t 60), none⟩])))))))
    (.seq
     (.reg [⟨(some 61), .move (.t 0), none⟩,
       ⟨(some 62), .load (some 5) (.t 11), none⟩,
       ⟨(some 63), .call 57 [(.t 61), (.t 62)], none⟩])
     (.seq
      (.reg [⟨(some 8), .move (.c (.int .i64 0)), none⟩])
      .ret))))))
theorem in50 {args : List AV} {σ : Store} {K : AV → Store → Prop} (hargs : args.length ≤ 64 := by simp) (h : AWP Try.prog Try.f50.ntmps c50 (fun e t s => match e with | .exit _ => False | _ => Res [.slot 8] K t s) (env (argList 0 args)) σ) : ACalls Try.prog 50 args σ K :=
  enter (own := []) Try.func50 (by kernel_rfl) (by kernel_rfl) (by kernel_rfl) hargs h
/-- changeling/changelingref06.SameTypes -/
def c51 : ACode :=
(.seq
 (.reg [⟨(some 4), .move (.c (.bool false)), none⟩])
 (.seq
  (.seq
   (.reg [⟨(some 6), .move (.t 0), none⟩,
     ⟨(some 7), .len .slice (.t 6), none⟩,
     ⟨(some 8), .move (.t 1), none⟩,
     ⟨(some 9), .len .slice (.t 8), none⟩,
     ⟨(some 10), .bin .int .neq (.t 7) (.t 9), none⟩])
   (.cond (.t 10)
    (.seq
     (.reg [⟨(some 4), .move (.c (.bool false)), none⟩])
     .ret)
    .skip))
  (.seq
   (.seq
    (.reg [⟨(some 5), .move (.c (.int .i64 0)), none⟩])
    (.block 0
     (.loop
      (.seq
       (.seq
        (.reg [⟨(some 11), .move (.t 5), none⟩,
          ⟨(some 12), .move (.t 0), none⟩,
          ⟨(some 13), .len .slice (.t 12), none⟩,
          ⟨(some 14), .bin .int .lss (.t 11) (.t 13), none⟩])
        (.cond (.t 14)
         .skip
         (.exit 0)))
       (.seq
        (.block 1
         (.seq
          (.reg [⟨(some 17), .move (.t 0), none⟩,
            ⟨(some 18), .move (.t 5), none⟩,
            ⟨(some 19), .iaddr 4 (.t 17) (.t 18), none⟩,
            ⟨(some 20), .faddr 0 (.t 19), none⟩,
            ⟨(some 21), .load none (.t 20), none⟩,
            ⟨(some 22), .move (.t 1), none⟩,
            ⟨(some 23), .move (.t 5), none⟩,
            ⟨(some 24), .iaddr 4 (.t 22) (.t 23), none⟩,
            ⟨(some 25), .faddr 0 (.t 24), none⟩,
            ⟨(some 26), .load none (.t 25), none⟩,
            ⟨(some 27), .bin .int .neq (.t 21) (.t 26), none⟩,
            ⟨(some 28), .move (.t 27), none⟩,
            ⟨(some 29), .move (.t 0), some (28, false)⟩,
            ⟨(some 30), .move (.t 5), some (28, false)⟩,
            ⟨(some 31), .iaddr 4 (.t 29) (.t 30), some (28, false)⟩,
            ⟨(some 32), .faddr 1 (.t 31), some (28, false)⟩,
            ⟨(some 33), .load none (.t 32), some (28, false)⟩,
            ⟨(some 34), .move (.t 1), some (28, false)⟩,
            ⟨(some 35), .move (.t 5), some (28, false)⟩,
            ⟨(some 36), .iaddr 4 (.t 34) (.t 35), some (28, false)⟩,
            ⟨(some 37), .faddr 1 (.t 36), some (28, false)⟩,
            ⟨(some 38), .load none (.t 37), some (28, false)⟩,
            ⟨(some 39), .bin .int .neq (.t 33) (.t 38), some (28, false)⟩,
            ⟨(some 40), .pick (.t 28) (.c (.bool true)) (.t 39), none⟩,
            ⟨(some 41), .move (.t 40), none⟩,
            ⟨(some 42), .move (.t 0), some (41, false)⟩,
            ⟨(some 43), .move (.t 5), some (41, false)⟩,
            ⟨(some 44), .iaddr 4 (.t 42) (.t 43), some (41, false)⟩,
            ⟨(some 45), .faddr 2 (.t 44), some (41, false)⟩,
            ⟨(some 46), .load none (.t 45), some (41, false)⟩,
            ⟨(some 47), .move (.t 1), some (41, false)⟩,
            ⟨(some 48), .move (.t 5), some (41, false)⟩,
            ⟨(some 49), .iaddr 4 (.t 47) (.t 48), some (41, false)⟩,
            ⟨(some 50), .faddr 2 (.t 49), some (41, false)⟩,
            ⟨(some 51), .load none (.t 50), some (41, false)⟩,
            ⟨(some 52), .bin .str .neq (.t 46) (.t 51), some (41, false)⟩,
            ⟨(some 53), .pick (.t 41) (.c (.bool true)) (.t 52), none⟩,
            ⟨(some 54), .move (.t 53), none⟩,
            ⟨(some 55), .move (.t 0), some (54, false)⟩,
            ⟨(some 56), .move (.t 5), some (54, false)⟩,
            ⟨(some 57), .iaddr 4 (.t 55) (.t 56), some (54, false)⟩,
            ⟨(some 58), .faddr 3 (.t 57), some (54, false)⟩,
            ⟨(some 59), .load none (.t 58), some (54, false)⟩,
            ⟨(some 60), .move (.t 1), some (54, false)⟩,
            ⟨(some 61), .move (.t 5), some (54, false)⟩,
            ⟨(some 62), .iaddr 4 (.t 60) (.t 61), some (54, false)⟩,
            ⟨(some 63), .faddr 3 (.t 62), some (54, false)⟩,
            ⟨(some 64), .load none (.t 63), some (54, false)⟩,
            ⟨(some 65), .call 51 [(.t 59), (.t 64)], some (54, false)⟩,
            ⟨(some 66), .not (.t 65), some (54, false)⟩,
            ⟨(some 67), .pick (.t 54) (.c (.bool true)) (.t 66), none⟩])
          (.cond (.t 67)
           (.seq
            (.reg [⟨(some 4), .move (.c (.bool false)), none⟩])
            .ret)
           .skip)))
        (.reg [⟨(some 15), .move (.t 5), none⟩,
          ⟨(some 16), .bin .int .add (.t 15) (.c (.int .i64 1)), none⟩,
          ⟨(some 5), .move (.t 16), none⟩]))))))
   (.seq
    (.reg [⟨(some 4), .move (.c (.bool true)), none⟩])
    .ret))))
theorem in51 {args : List AV} {σ : Store} {K : AV → Store → Prop} (hargs : args.length ≤ 68 := by simp) (h : AWP Try.prog Try.f51.ntmps c51 (fun e t s => match e with | .exit _ => False | _ => Res [.slot 4] K t s) (env (argList 0 args)) σ) : ACalls Try.prog 51 args σ K :=
  enter (own := []) Try.func51 (by kernel_rfl) (by kernel_rfl) (by kernel_rfl) hargs h
/-- changeling/decl.copied -/
def c52 : ACode :=
(.seq
 (.reg [⟨(some 1), .new 85 (.t 0), none⟩,
   ⟨(some 2), .new 85 (.c (.agg [(.int .i64 0), (.int .i64 0), (.str ⟨#[]⟩), .nils])), none⟩])
 (.seq
  (.reg [⟨(some 3), .move (.c .nils), none⟩])
  (.seq
   (.seq
    (.reg [⟨(some 6), .faddr 3 (.t 1), none⟩,
      ⟨(some 7), .load none (.t 6), none⟩,
      ⟨(some 8), .len .slice (.t 7), none⟩,
      ⟨(some 9), .move (.c (.int .i64 0)), none⟩])
    (.block 0
     (.loop
      (.seq
       (.reg [⟨(some 10), .bin .int .lss (.t 9) (.t 8), none⟩])
       (.seq
        (.cond (.t 10)
         .skip
         (.exit 0))
        (.seq
         (.block 1
          (.seq
           (.reg [⟨(some 11), .iaddr 4 (.t 7) (.t 9), none⟩,
             ⟨(some 12), .load (some 4) (.t 11), none⟩,
             ⟨(some 5), .new 85 (.c (.agg [(.int .i64 0), (.int .i64 0), (.str ⟨#[]⟩), .nils])), none⟩,
             ⟨none, .store 4 (.t 5) (.t 12), none⟩])
           (.reg [⟨(some 13), .move (.t 3), none⟩,
             ⟨(some 14), .load (some 4) (.t 5), none⟩,
             ⟨(some 15), .call 52 [(.t 14)], none⟩,
             ⟨(some 16), .lit false 85 4 [(.t 15)], none⟩,
             ⟨(some 17), .append 85 4 56 (.t 13) (.t 16), none⟩,
             ⟨(some 3), .move (.t 17), none⟩])))
         (.reg [⟨(some 18), .bin .int .add (.t 9) (.c (.int .i64 1)), none⟩,
           ⟨(some 9), .move (.t 18), none⟩])))))))
   (.seq
    (.reg [⟨(some 19), .move (.t 3), none⟩,
      ⟨(some 20), .faddr 3 (.t 1), none⟩,
      ⟨none, .store 1 (.t 20) (.t 19), none⟩])
    (.seq
     (.reg [⟨(some 21), .load (some 4) (.t 1), none⟩,
       ⟨none, .store 4 (.t 2) (.t 21), none⟩])
     .ret)))))
theorem in52 {args : List AV} {σ : Store} {K : AV → Store → Prop} (hargs : args.length ≤ 22 := by simp) (h : AWP Try.prog Try.f52.ntmps c52 (fun e t s => match e with | .exit _ => False | _ => Res [.cell 2 (some 4)] K t s) (env (argList 0 args)) σ) : ACalls Try.prog 52 args σ K :=
  enter (own := []) Try.func52 (by kernel_rfl) (by kernel_rfl) (by kernel_rfl) hargs h
/-- (*changeling/decl.Table).put -/
def c57 : ACode :=
(.seq
 (.reg [⟨(some 3), .new 78 (.t 1), none⟩])
 (.seq
  (.reg [⟨(some 4), .move (.t 0), none⟩,
    ⟨(some 5), .nilck (.t 4), none⟩,
    ⟨(some 6), .faddr 1 (.t 5), none⟩,
    ⟨(some 7), .load none (.t 6), none⟩,
    ⟨(some 8), .faddr 0 (.t 3), none⟩,
    ⟨(some 9), .load none (.t 8), none⟩,
    ⟨(some 10), .load (some 5) (.t 3), none⟩,
    ⟨none, .mapset .str (.t 7) (.t 9) (.t 10), none⟩])
  (.reg [⟨(some 11), .move (.t 0), none⟩,
    ⟨(some 12), .move (.t 0), none⟩,
    ⟨(some 13), .nilck (.t 12), none⟩,
    ⟨(some 14), .faddr 2 (.t 13), none⟩,
    ⟨(some 15), .load none (.t 14), none⟩,
    ⟨(some 16), .faddr 0 (.t 3), none⟩,
    ⟨(some 17), .load none (.t 16), none⟩,
    ⟨(some 18), .lit false 9 1 [(.t 17)], none⟩,
    ⟨(some 19), .append 9 1 16 (.t 15) (.t 18), none⟩,
    ⟨(some 20), .nilck (.t 11), none⟩,
    ⟨(some 21), .faddr 2 (.t 20), none⟩,
    ⟨none, .store 1 (.t 21) (.t 19), none⟩])))
theorem in57 {args : List AV} {σ : Store} {K : AV → Store → Prop} (hargs : args.length ≤ 22 := by simp) (h : AWP Try.prog Try.f57.ntmps c57 (fun e t s => match e with | .exit _ => False | _ => Res [] K t s) (env (argList 0 args)) σ) : ACalls Try.prog 57 args σ K :=
  enter (own := []) Try.func57 (by kernel_rfl) (by kernel_rfl) (by kernel_rfl) hargs h
/-- changeling/decl.place -/
def c58 : ACode :=
(.seq
 (.reg [⟨(some 4), .move (.c (.int .i64 0)), none⟩])
 (.seq
  (.seq
   (.reg [⟨(some 7), .move (.t 0), none⟩,
     ⟨(some 8), .len .slice (.t 7), none⟩,
     ⟨(some 9), .move (.c (.int .i64 0)), none⟩])
   (.block 0
    (.loop
     (.seq
      (.reg [⟨(some 10), .bin .int .lss (.t 9) (.t 8), none⟩])
      (.seq
       (.cond (.t 10)
        .skip
        (.exit 0))
       (.seq
        (.block 1
         (.seq
          (.reg [⟨(some 11), .move (.t 9), none⟩,
            ⟨(some 12), .iaddr 1 (.t 7) (.t 9), none⟩,
            ⟨(some 13), .load none (.t 12), none⟩,
            ⟨(some 5), .move (.t 11), none⟩,
            ⟨(some 6), .move (.t 13), none⟩])
          (.seq
           (.reg [⟨(some 14), .move (.t 6), none⟩,
             ⟨(some 15), .move (.t 1), none⟩,
             ⟨(some 16), .bin .str .eql (.t 14) (.t 15), none⟩])
           (.cond (.t 16)
            (.seq
             (.reg [⟨(some 17), .move (.t 5), none⟩,
               ⟨(some 4), .move (.t 17), none⟩])
             .ret)
            .skip))))
        (.reg [⟨(some 18), .bin .int .add (.t 9) (.c (.int .i64 1)), none⟩,
          ⟨(some 9), .move (.t 18), none⟩])))))))
  (.seq
   (.reg [⟨(some 4), .move (.c (.int .i64 (-1))), none⟩])
   .ret)))
theorem in58 {args : List AV} {σ : Store} {K : AV → Store → Prop} (hargs : args.length ≤ 19 := by simp) (h : AWP Try.prog Try.f58.ntmps c58 (fun e t s => match e with | .exit _ => False | _ => Res [.slot 4] K t s) (env (argList 0 args)) σ) : ACalls Try.prog 58 args σ K :=
  enter (own := []) Try.func58 (by kernel_rfl) (by kernel_rfl) (by kernel_rfl) hargs h
/-- (*changeling/decl.Table).field -/
def c59 : ACode :=
(.seq
 (.reg [⟨(some 5), .new 85 (.t 2), none⟩,
   ⟨(some 6), .new 85 (.c (.agg [(.int .i64 0), (.int .i64 0), (.str ⟨#[]⟩), .nils])), none⟩,
   ⟨(some 7), .move (.c (.int .i64 0)), none⟩])
 (.seq
  (.seq
   (.reg [⟨(some 16), .faddr 0 (.t 5), none⟩,
     ⟨(some 17), .load none (.t 16), none⟩])
   (.block 0
    (.seq
     (.reg [⟨(some 20), .bin .int .eql (.t 17) (.c (.int .i64 1)), none⟩,
       ⟨(some 19), .move (.t 20), none⟩])
     (.cond (.t 19)
      (.seq
       (.reg [⟨(some 21), .move (.t 1), none⟩,
         ⟨(some 22), .faddr 2 (.t 5), none⟩,
         ⟨(some 23), .load none (.t 22), none⟩,
         ⟨(some 24), .call 58 [(.t 21), (.t 23)], none⟩,
         ⟨(some 8), .move (.t 24), none⟩])
       (.seq
        (.seq
         (.reg [⟨(some 25), .move (.t 8), none⟩,
           ⟨(some 26), .bin .int .lss (.t 25) (.c (.int .i64 0)), none⟩])
         (.cond (.t 26)
          (.seq
           (.reg [⟨(some 27), .load (some 4) (.t 5), none⟩,
             ⟨none, .store 4 (.t 6) (.t 27), none⟩,
             ⟨(some 7), .move (.c (.int .i64 81)), none⟩])
           .ret)
          .skip))
        (.seq
         (.reg [⟨(some 28), .move (.t 8), none⟩,
           ⟨(some 29), .build [(.int .i64 0), (.int .i64 0), (.str ⟨#[]⟩), .nils] [(0, 1, (.c (.int .i64 1))), (1, 1, (.t 28))], none⟩,
           ⟨none, .store 4 (.t 6) (.t 29), none⟩,
           ⟨(some 7), .move (.c (.int .i64 0)), none⟩])
         .ret)))
      (.seq
       (.reg [⟨(some 31), .bin .int .eql (.t 17) (.c (.int .i64 2)), none⟩,
         ⟨(some 30), .move (.t 31), none⟩])
       (.cond (.t 30)
        (.seq
         (.reg [⟨(some 33), .move (.t 0), none⟩,
           ⟨(some 34), .nilck (.t 33), none⟩,
           ⟨(some 35), .faddr 0 (.t 34), none⟩,
           ⟨(some 36), .load none (.t 35), none⟩,
           ⟨(some 37), .faddr 2 (.t 5), none⟩,
           ⟨(some 38), .load none (.t 37), none⟩,
           ⟨(some 39), .lookup .str (.int .i64 0) true (.t 36) (.t 38), none⟩,
           ⟨(some 32), .move (.t 39), none⟩,
           ⟨(some 40), .extract (.t 32) 0, none⟩,
           ⟨(some 41), .extract (.t 32) 1, none⟩,
           ⟨(some 9), .move (.t 40), none⟩,
           ⟨(some 10), .move (.t 41), none⟩])
         (.seq
          (.seq
           (.reg [⟨(some 42), .move (.t 10), none⟩,
             ⟨(some 43), .not (.t 42), none⟩])
           (.cond (.t 43)
            (.seq
             (.reg [⟨(some 44), .load (some 4) (.t 5), none⟩,
               ⟨none, .store 4 (.t 6) (.t 44), none⟩,
               ⟨(some 7), .move (.c (.int .i64 81)), none⟩])
             .ret)
            .skip))
          (.seq
           (.reg [⟨(some 45), .move (.t 9), none⟩,
             ⟨(some 46), .faddr 3 (.t 5), none⟩,
             ⟨(some 47), .load none (.t 46), none⟩,
             ⟨(some 48), .len .slice (.t 47), none⟩,
             ⟨(some 49), .bin .int .neq (.t 45) (.t 48), none⟩])
           (.cond (.t 49)
            (.seq
             (.reg [⟨(some 50), .load (some 4) (.t 5), none⟩,
               ⟨none, .store 4 (.t 6) (.t 50), none⟩,
               ⟨(some 7), .move (.c (.int .i64 82)), none⟩])
             .ret)
            .skip))))
        (.seq
         (.reg [⟨(some 52), .bin .int .eql (.t 17) (.c (.int .i64 3)), none⟩,
           ⟨(some 51), .move (.t 52), none⟩])
         (.cond (.t 51)
          (.seq
           (.reg [⟨(some 53), .faddr 3 (.t 5), none⟩,
             ⟨(some 54), .load none (.t 53), none⟩,
             ⟨(some 55), .len .slice (.t 54), none⟩,
             ⟨(some 56), .bin .int .neq (.t 55) (.c (.int .i64 2)), none⟩])
           (.cond (.t 56)
            (.seq
             (.reg [⟨(some 57), .load (some 4) (.t 5), none⟩,
               ⟨none, .store 4 (.t 6) (.t 57), none⟩,
               ⟨(some 7), .move (.c (.int .i64 82)), none⟩])
             .ret)
            .skip))
          (.seq
           (.reg [⟨(some 18), .load (some 4) (.t 5), none⟩,
             ⟨none, .store 4 (.t 6) (.t 18), none⟩,
             ⟨(some 7), .move (.c (.int .i64 82)), none⟩])
           .ret)))))))))
  (.seq
   (.reg [⟨(some 58), .faddr 0 (.t 5), none⟩,
     ⟨(some 59), .load none (.t 58), none⟩,
     ⟨(some 60), .build [(.int .i64 0), (.int .i64 0), (.str ⟨#[]⟩), .nils] [(0, 1, (.t 59))], none⟩,
     ⟨(some 11), .new 85 (.c (.agg [(.int .i64 0), (.int .i64 0), (.str ⟨#[]⟩), .nils])), none⟩,
     ⟨none, .store 4 (.t 11) (.t 60), none⟩])
   (.seq
    (.seq
     (.reg [⟨(some 61), .faddr 0 (.t 5), none⟩,
       ⟨(some 62), .load none (.t 61), none⟩,
       ⟨(some 63), .bin .int .eql (.t 62) (.c (.int .i64 2)), none⟩])
     (.cond (.t 63)
      (.reg [⟨(some 64), .faddr 2 (.t 5), none⟩,
        ⟨(some 65), .load none (.t 64), none⟩,
        ⟨(some 66), .faddr 2 (.t 11), none⟩,
        ⟨none, .store 1 (.t 66) (.t 65), none⟩])
      .skip))
    (.seq
     (.seq
      (.reg [⟨(some 67), .faddr 3 (.t 5), none⟩,
        ⟨(some 68), .load none (.t 67), none⟩,
        ⟨(some 69), .len .slice (.t 68), none⟩,
        ⟨(some 70), .move (.c (.int .i64 0)), none⟩])
      (.block 1
       (.loop
        (.seq
         (.reg [⟨(some 71), .bin .int .lss (.t 70) (.t 69), none⟩])
         (.seq
          (.cond (.t 71)
           .skip
           (.exit 1))
          (.seq
           (.block 2
            (.seq
             (.reg [⟨(some 72), .iaddr 4 (.t 68) (.t 70), none⟩,
               ⟨(some 73), .load (some 4) (.t 72), none⟩,
               ⟨(some 13), .new 85 (.c (.agg [(.int .i64 0), (.int .i64 0), (.str ⟨#[]⟩), .nils])), none⟩,
               ⟨none, .store 4 (.t 13) (.t 73), none⟩])
             (.seq
              (.reg [⟨(some 75), .move (.t 0), none⟩,
                ⟨(some 76), .move (.t 1), none⟩,
                ⟨(some 77), .load (some 4) (.t 13), none⟩,
                ⟨(some 78), .call 59 [(.t 75), (.t 76), (.t 77)], none⟩,
                ⟨(some 74), .move (.t 78), none⟩,
                ⟨(some 79), .extract (.t 74) 0, none⟩,
                ⟨(some 80), .extract (.t 74) 1, none⟩,
                ⟨(some 14), .new 85 (.c (.agg [(.int .i64 0), (.int .i64 0), (.str ⟨#[]⟩), .nils])), none⟩,
                ⟨none, .store 4 (.t 14) (.t 79), none⟩,
                ⟨(some 15), .move (.t 80), none⟩])
              (.seq
               (.seq
                (.reg [⟨(some 81), .move (.t 15), none⟩,
                  ⟨(some 82), .bin .int .neq (.t 81) (.c (.int .i64 0)), none⟩])
                (.cond (.t 82)
                 (.seq
                  (.reg [⟨(some 83), .load (some 4) (.t 5), none⟩,
                    ⟨(some 84), .move (.t 15), none⟩,
                    ⟨none, .store 4 (.t 6) (.t 83), none⟩,
                    ⟨(some 7), .move (.t 84), none⟩])
                  .ret)
                 .skip))
               (.reg [⟨(some 85), .faddr 3 (.t 11), none⟩,
                 ⟨(some 86), .load none (.t 85), none⟩,
                 ⟨(some 87), .load (some 4) (.t 14), none⟩,
                 ⟨(some 88), .lit false 85 4 [(.t 87)], none⟩,
                 ⟨(some 89), .append 85 4 56 (.t 86) (.t 88), none⟩,
                 ⟨(some 90), .faddr 3 (.t 11), none⟩,
                 ⟨none, .store 1 (.t 90) (.t 89), none⟩])))))
           (.reg [⟨(some 91), .bin .int .add (.t 70) (.c (.int .i64 1)), none⟩,
             ⟨(some 70), .move (.t 91), none⟩])))))))
     (.seq
      (.reg [⟨(some 92), .load (some 4) (.t 11), none⟩,
        ⟨none, .store 4 (.t 6) (.t 92), none⟩,
        ⟨(some 7), .move (.c (.int .i64 0)), none⟩])
      .ret))))))
theorem in59 {args : List AV} {σ : Store} {K : AV → Store → Prop} (hargs : args.length ≤ 93 := by simp) (h : AWP Try.prog Try.f59.ntmps c59 (fun e t s => match e with | .exit _ => False | _ => Res [.cell 6 (some 4), .slot 7] K t s) (env (argList 0 args)) σ) : ACalls Try.prog 59 args σ K :=
  enter (own := []) Try.func59 (by kernel_rfl) (by kernel_rfl) (by kernel_rfl) hargs h
end Go.Proofs.Ytoejjhehpbmgbaa
